/-
  How many keys a map has.
-/
import Derived.Test.YtaggojedpkddjaaGreatKr
set_option linter.unusedVariables false
set_option linter.unusedSimpArgs false
namespace Go.Gx
open Go.RowKit

section
variable {P : Program} {T : Tab} {N : Cfg} {E : Env} {M : Mem} {nx : Nat}
theorem MapOf.size {has : Int → Bool} {R : Int → Value → Prop} {es : List MapEntry} {ck : Nat} (h : MapOf has R es ck) {L : List Int} (hnd : L.Nodup) (hL : ∀ a, has a = true ↔ a ∈ L) : es.length = L.length := by
  obtain ⟨h1, h2, h3, _⟩ := h
  let f : MapEntry → Int := fun e => match e.key with | .int .i64 a => a | _ => 0
  have hf : ∀ e ∈ es, e.key = .int .i64 (f e) := fun e he => by
    obtain ⟨a, h, _⟩ := h1 e he
    show _ = Value.int .i64 (match e.key with | .int .i64 a => a | _ => 0)
    rw [h]
  have hn : (es.map f).Nodup := by
    rw [List.Nodup, List.pairwise_map]
    refine List.Pairwise.imp_of_mem (fun {x y} hx hy hxy e => hxy.1 ?_) h3
    rw [hf x hx, hf y hy, e]
  have hp : (es.map f).Perm L := (List.perm_ext_iff_of_nodup hn hnd).2 fun a => by
    rw [← hL, List.mem_map]
    constructor
    · rintro ⟨e, he, rfl⟩
      obtain ⟨a, k1, k2, _⟩ := h1 e he
      rw [hf e he] at k1
      cases k1
      exact k2
    · intro ha
      obtain ⟨e, he, k⟩ := h2 a ha
      rw [hf e he] at k
      exact ⟨e, he, by cases k; rfl⟩
  have := hp.length_eq
  simpa using this
theorem GOp_mapLen (hT : TabOK P T) {K : Env → Mem → Nat → Prop} {d : Option Tmp} {t ty : TypeId} {pos : String} {af : Array Edge} {x : Operand} {q : Nat} {has : Int → Bool} {val : Int → SV} {st : Option ((Int → Nat) × Nat)}
    (hx : ev E x = .mp q) (hQ : M q = some (.map has val st)) (ht : (mapE T t).isSome = true) (hd : dOK N.n d) (L : List Int) (hnd : L.Nodup) (hL : ∀ a, has a = true ↔ a ∈ L)
    (h : K (envPut E d (.i L.length)) M nx) :
    GOpW P N ⟨d, .call ⟨.builtin .len, #[x], #[t]⟩, ty, pos, af, none⟩ E M nx K := by
  intro B W w0 σ a w hs next Q' hK
  refine wpIn_of_wp ?_
  obtain ⟨e, he⟩ := Option.isSome_iff_exists.1 ht
  obtain ⟨k, hu, hk⟩ := mapE_spec hT he
  have hr := ev_rel hs.env x
  rw [hx] at hr
  obtain ⟨Lc, b, h1, h2, h3⟩ := hr
  obtain ⟨es, ck, g1, g2, g3⟩ := reg_map hs.mem hQ h1 h2
  have hsz : es.size = L.length := by have := g2.size hnd hL; simpa using this
  have hrun : (execOp a.eval ⟨d, .call ⟨.builtin .len, #[x], #[t]⟩, ty, pos, af, none⟩).run P w = .ok (.value (.int .i64 L.length)) w := by
    simp [execOp, resolve, invoke, builtin, Builtin.len_, h3, run_underlying hu, MapKept.run_getObj_map g1, hsz]
    rfl
  unfold Oper.wp
  rw [hrun]
  exact hK _ _ _ _ _ _ h (St.put hs hd rfl)
end
end Go.Gx
namespace Go.Gx
open Go.RowKit
section
variable {P : Program} {T : Tab} {N : Cfg} {E : Env} {M : Mem} {nx : Nat}
/-- The capacity of nil. -/
theorem GOp_capNil (hT : TabOK P T) {K : Env → Mem → Nat → Prop} {d : Option Tmp} {t ty : TypeId} {pos : String} {af : Array Edge} {s : Operand}
    (hx : ev E s = .r (.v (.slice none 0 0))) (ht : ((T.ti t).map (·.kind)).any (fun | .slice _ => true | _ => false) = true) (hd : dOK N.n d)
    (h : K (envPut E d (.i 0)) M nx) : GOpW P N ⟨d, .call ⟨.builtin .cap, #[s], #[t]⟩, ty, pos, af, none⟩ E M nx K := by
  intro B W w0 σ a w hs next Q' hK
  refine wpIn_of_wp ?_
  obtain ⟨el, hu⟩ := und_sliceK hT ht
  have hr := ev_rel hs.env s
  rw [hx] at hr
  have hr' : a.eval s = .slice none 0 0 := hr
  have e1 : (execOp a.eval ⟨d, .call ⟨.builtin .cap, #[s], #[t]⟩, ty, pos, af, none⟩).run P w = .ok (.value (.int .i64 0)) w := by
    simp [execOp, resolve, invoke, builtin, Builtin.cap_, hr', run_underlying hu]
    rfl
  unfold Oper.wp
  rw [e1]
  exact hK _ _ _ _ _ _ h (St.put hs hd rfl)
theorem GSt.adoptC (t e k : Nat) (get : Nat → Nat → SV) (hE : E t = .r (.v (.slice none 0 0))) : GSt N E M nx (upd E t (.sl nx k 0 0 (some 0))) (upd M nx (some (.vec e k 0 get))) (nx + 1) := by
  intro B W w0 σ a w h
  obtain ⟨e1, e2, e3⟩ := mem_new (w' := w) (L := ⟨none, 0⟩) (R := .vec e k 0 get) h.mem (Nat.le_refl nx) h.fr.size (Nat.le_refl _) (fun _ _ => rfl) (fun b hb => by cases hb) (fun σ' Z' _ _ => ⟨Nat.le_refl _, by simp [maxLen], .inl ⟨rfl, rfl⟩⟩)
  refine ⟨_, ?_, e1.weaken fun r hr => ⟨Nat.le_of_succ_le hr, Nat.ne_of_gt hr⟩, h.fr, h.defers.keep e2, h.size, Nat.le_succ_of_le h.low, fun r hr => (upd_ne _ _ (Nat.ne_of_lt (Nat.lt_of_lt_of_le hr h.low))).trans (h.pin r hr), h.good⟩
  intro t'
  by_cases ht : t' = t
  · subst ht
    rw [upd_same]
    have := h.env t'
    rw [hE] at this
    rw [show a.tmps.getD t' undef = .slice none 0 0 from this]
    exact ⟨⟨none, 0⟩, none, upd_same .., rfl, by simp, by simp, by simp, fun _ => .inl rfl⟩
  · rw [upd_ne _ _ ht]
    exact SV.rel_mono e3 e2 _ _ (h.env t')
end
end Go.Gx
