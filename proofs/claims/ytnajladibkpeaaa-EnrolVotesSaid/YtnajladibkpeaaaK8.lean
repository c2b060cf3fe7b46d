/-
  Loops whose number of regions varies; families of regions; calls that only move what cells hold.
-/
import Derived.Test.YtnajladibkpeaaaK7
set_option linter.unusedVariables false
set_option linter.unusedSimpArgs false
namespace Go.Gx
open Go.RowKit

section
variable {P : Program} {T : Tab} {N : Cfg} {k : List It} {Q : GQ} {E : Env} {M M' : Mem} {nx : Nat}

theorem gloopV {α : Type} {body : Code} {Q : Exit → Env → Mem → Nat → Prop} (S : α → List (Nat × SV)) (Ms : α → Mem) (n : α → Nat) (I : α → Prop) (μ : α → Nat) (x0 : α)
    (h0 : I x0) (hE : Fit N E M nx (S x0) (Ms x0) (n x0))
    (round : ∀ x J, I x → GW P N body (updL J (S x)) (Ms x) (n x) (gseq (fun E' M' nx' => ∃ x', I x' ∧ μ x' < μ x ∧ Fit N E' M' nx' (S x') (Ms x') (n x')) Q)) :
    GW P N (.loop body) E M nx Q := by
  intro B W w0 σ a w hs
  have conv : ∀ {E M nx σ a w} (x : α), Fit N E M nx (S x) (Ms x) (n x) → St B W w0 N σ E M nx a w → ∃ σ' J, St B W w0 N σ' (updL J (S x)) (Ms x) (n x) a w := by
    intro E M nx σ a w x h1 h3
    obtain ⟨J, v⟩ := h1
    obtain ⟨σ1, h4⟩ := v B W w0 σ a w h3
    exact ⟨_, _, h4⟩
  refine wp_loop_ghost (fun k a w => ∃ x, μ x = k ∧ I x ∧ ∃ σ' J, St B W w0 N σ' (updL J (S x)) (Ms x) (n x) a w) (μ x0) ⟨x0, rfl, h0, conv x0 hE hs⟩ fun k a w h => ?_
  obtain ⟨x, rfl, hi, σ', J, hst⟩ := h
  refine Code.wp_mono (fun e a' w' h' => ?_) (round x J hi B W w0 σ' a w hst)
  obtain ⟨E', M', nx', σ'', q, hs'⟩ := h'
  cases e with
  | normal =>
    obtain ⟨x', i1, i2, i3⟩ := q
    exact ⟨μ x', i2, x', rfl, i1, conv x' i3 hs'⟩
  | _ => exact ⟨E', M', nx', σ'', q, hs'⟩

/-- Loops in which the number of regions varies. -/
def LV (P : Program) (T : Tab) (N : Cfg) {α : Type} (S : α → List (Nat × SV)) (Ms : α → Mem) (n : α → Nat) (I : α → Prop) (μ : α → Nat) (x : α) (k : List It) (Q : GQ) : GQ :=
  gseq (fun E' M' nx' => ∃ x', I x' ∧ μ x' < μ x ∧ Fit N E' M' nx' (S x') (Ms x') (n x')) (GK P T N k Q)
section
variable {α : Type} {S : α → List (Nat × SV)} {Ms : α → Mem} {n : α → Nat} {I : α → Prop} {μ : α → Nat} {x : α}
@[go_sem] theorem LV_normal : LV P T N S Ms n I μ x k Q .normal E M nx = ∃ x', I x' ∧ μ x' < μ x ∧ Fit N E M nx (S x') (Ms x') (n x') := (rfl)
@[go_sem] theorem LV_exit (i : Nat) : LV P T N S Ms n I μ x k Q (.exit i) E M nx = GK P T N k Q (.exit i) E M nx := (rfl)
@[go_sem] theorem LV_ret : LV P T N S Ms n I μ x k Q .ret E M nx = GK P T N k Q .ret E M nx := (rfl)
end
theorem GLoop_v (hT : TabOK P T) {α : Type} {c : Code} (S : α → List (Nat × SV)) (Ms : α → Mem) (n : α → Nat) (I : α → Prop) (μ : α → Nat) (x0 : α)
    (h0 : I x0) (hE : Fit N E M nx (S x0) (Ms x0) (n x0))
    (round : ∀ x J, I x → GC P T N c [] (LV P T N S Ms n I μ x k Q) (updL J (S x)) (Ms x) (n x)) : GLoop P T N c k Q E M nx :=
  gloopV S Ms n I μ x0 h0 hE fun x J hi => gexec_sound hT c _ _ _ _ (round x J hi)

/-! ### families: regions b, b + 1, .., b + n - 1 -/
def famM (M : Mem) (b n : Nat) (R : Nat → Option Reg) : Mem := fun r => if b ≤ r ∧ r < b + n then R (r - b) else M r
@[go_sem] theorem famM_app (M : Mem) (b n : Nat) (R : Nat → Option Reg) (r : Nat) : famM M b n R r = if b ≤ r ∧ r < b + n then R (r - b) else M r := rfl
theorem Reg.sub_none (R : Option Reg) : Reg.sub R none := by cases R <;> simp [Reg.sub]
theorem fam_sub {l : List (Option Reg)} {b cnt n : Nat} {R : Nat → Option Reg} (hl : l.length = b) (h1 : regsS 0 (trimM n M) l) (h2 : ∀ i, i < cnt → Reg.sub (trimM n M (b + i)) (R i)) (r : Nat) :
    Reg.sub (trimM n M r) (famM (memL l) b cnt R r) := by
  unfold famM
  split
  · rename_i h
    have := h2 (r - b) (by omega)
    rwa [show b + (r - b) = r from by omega] at this
  · by_cases hr : r < b
    · have := regsS_get l 0 _ h1 r (by omega)
      simpa [memL] using this
    · simp [memL, List.getElem?_eq_none (by omega : l.length ≤ r), Reg.sub_none]
theorem Fit.of_fam {S : List (Nat × SV)} {l : List (Option Reg)} {b cnt n : Nat} {R : Nat → Option Reg} (hn : N.np ≤ n) (h : slotsS n E S) (hl : l.length = b) (h1 : regsS 0 (trimM n M) l)
    (h2 : ∀ i, i < cnt → Reg.sub (trimM n M (b + i)) (R i)) : Fit N E M nx S (famM (memL l) b cnt R) n :=
  Fit.of_slotsS hn h (fam_sub hl h1 h2)
abbrev famL (n : Nat) (f : Nat → Reg) : List Reg := (List.range n).map f
theorem memR_fam (l : List Reg) (n : Nat) (f : Nat → Reg) (r : Nat) : memR (l ++ famL n f) r = famM (memR l) l.length n (fun i => some (f i)) r := by
  rw [memR_get]
  unfold famM
  by_cases h1 : r < l.length
  · rw [if_neg (by omega), List.getElem?_append_left h1, memR_get]
  · by_cases h2 : r < l.length + n
    · rw [if_pos ⟨by omega, h2⟩, List.getElem?_append_right (by omega)]
      simp [famL, List.getElem?_range (show r - l.length < n by omega)]
    · rw [if_neg (by omega), memR_get, List.getElem?_eq_none (by simp [famL]; omega), List.getElem?_eq_none (by omega)]
theorem memR_fam' (l : List Reg) (n : Nat) (f : Nat → Reg) : memR (l ++ famL n f) = famM (memR l) l.length n (fun i => some (f i)) := funext (memR_fam l n f)
/-- The regions of a family, found in the memory that is left. -/
theorem gexpR_append {ρ : Nat → Nat} : ∀ {l l' : List Nat} {Rs Rs' : List Reg}, gexpR M ρ l Rs → gexpR M ρ l' Rs' → gexpR M ρ (l ++ l') (Rs ++ Rs')
  | [], l', [], Rs', _, h => h
  | [], _, _ :: _, _, h, _ => h.elim
  | _ :: _, _, [], _, h, _ => h.elim
  | q :: l, l', R :: Rs, Rs', h, h' => ⟨h.1, gexpR_append h.2 h'⟩
theorem gexpR_map {ρ : Nat → Nat} {p : Nat → Nat} {f : Nat → Reg} : ∀ (l : List Nat), (∀ i ∈ l, Reg.sub (M (p i)) (some ((f i).ren ρ))) → gexpR M ρ (l.map p) (l.map f)
  | [], _ => trivial
  | i :: l, h => ⟨h i (by simp), gexpR_map l fun j hj => h j (by simp [hj])⟩
theorem gexpR_fam {ρ : Nat → Nat} {l : List Nat} {Rs : List Reg} {n : Nat} {p : Nat → Nat} {f : Nat → Reg} (h : gexpR M ρ l Rs) (h' : ∀ i, i < n → Reg.sub (M (p i)) (some ((f i).ren ρ))) : gexpR M ρ (l ++ (List.range n).map p) (Rs ++ famL n f) :=
  gexpR_append h (gexpR_map _ fun i hi => h' i (List.mem_range.1 hi))
theorem nodup_fam {l : List Nat} {n : Nat} {p : Nat → Nat} (h : l.Nodup) (hp : ∀ i j, i < n → j < n → p i = p j → i = j) (hl : ∀ x ∈ l, ∀ i, i < n → p i ≠ x) : (l ++ (List.range n).map p).Nodup := by
  rw [List.nodup_append]
  refine ⟨h, ?_, fun a ha b hb => ?_⟩
  · unfold List.Nodup
    rw [List.pairwise_map]
    refine List.Pairwise.imp_of_mem (fun {i j} hi hj hij => ?_) (List.pairwise_lt_range (n := n))
    intro e
    have := hp i j (List.mem_range.1 hi) (List.mem_range.1 hj) e
    omega
  · obtain ⟨i, hi, rfl⟩ := List.mem_map.1 hb
    exact (hl a ha i (List.mem_range.1 hi)).symm
theorem getD_fam {l : List Nat} {n : Nat} {p : Nat → Nat} {D : Nat} (r : Nat) : ((l ++ (List.range n).map p)[r]?).getD D = if r < l.length then (l[r]?).getD D else if r < l.length + n then p (r - l.length) else D := by
  by_cases h1 : r < l.length
  · rw [if_pos h1, List.getElem?_append_left h1]
  · rw [if_neg h1, List.getElem?_append_right (by omega)]
    by_cases h2 : r < l.length + n
    · rw [if_pos h2]
      simp [List.getElem?_range (show r - l.length < n by omega)]
    · rw [if_neg h2, List.getElem?_eq_none (by simp; omega)]; rfl
/-- The regions of a family, as they come back of a call. -/
theorem addS_append (ρ : Nat → Nat) : ∀ (l l' : List Reg) (i : Nat) (M : Mem), addS ρ i (l ++ l') M = addS ρ (i + l.length) l' (addS ρ i l M)
  | [], l', i, M => by simp [addS]
  | R :: l, l', i, M => by
    simp only [List.cons_append, addS, addS_append ρ l l', List.length_cons]
    congr 1; omega
theorem addS_map (b : Nat) (ρ : Nat → Nat) (hρ : ∀ i, ρ i = b + i) (f : Nat → Reg) : ∀ (n s i : Nat) (M : Mem), addS ρ i ((List.range' s n).map f) M = famM M (b + i) n fun j => some ((f (s + j)).ren ρ)
  | 0, s, i, M => by
    funext r
    simp only [List.range'_zero, List.map_nil, addS, famM]
    rw [if_neg (by omega)]
  | n + 1, s, i, M => by
    simp only [List.range'_succ, List.map_cons, addS, addS_map b ρ hρ f n]
    funext r
    simp only [famM, upd_app, hρ]
    by_cases h1 : r = b + i
    · subst h1
      rw [if_neg (by omega), if_pos rfl, if_pos ⟨by omega, by omega⟩]
      simp
    · by_cases h2 : b + (i + 1) ≤ r ∧ r < b + (i + 1) + n
      · rw [if_pos h2, if_pos ⟨by omega, by omega⟩, show s + 1 + (r - (b + (i + 1))) = s + (r - (b + i)) from by omega]
      · rw [if_neg h2, if_neg h1, if_neg (by omega)]
theorem addS_fam (b : Nat) (l : List Reg) (n : Nat) (f : Nat → Reg) (M : Mem) : addS (fun i => b + i) 0 (l ++ famL n f) M = famM (addS (fun i => b + i) 0 l M) (b + l.length) n fun j => some ((f j).ren fun i => b + i) := by
  rw [addS_append, famL, List.range_eq_range', addS_map b _ (fun _ => rfl)]
  simp
theorem dropM_fam (l : List Nat) (n : Nat) (p : Nat → Nat) (M : Mem) (r : Nat) : dropM (l ++ (List.range n).map p) M r = if r ∈ l ∨ ∃ i, i < n ∧ p i = r then none else M r := by
  rw [dropM_at]
  simp
theorem atM_append {ρ : Nat → Nat} : ∀ {l l' : List Nat} {Rs Rs' : List Reg}, atM M ρ l Rs → atM M ρ l' Rs' → atM M ρ (l ++ l') (Rs ++ Rs')
  | [], l', [], Rs', _, h => h
  | [], _, _ :: _, _, h, _ => h.elim
  | _ :: _, _, [], _, h, _ => h.elim
  | q :: l, l', R :: Rs, Rs', h, h' => ⟨h.1, atM_append h.2 h'⟩
theorem atM_map {ρ : Nat → Nat} {p : Nat → Nat} {f : Nat → Reg} : ∀ (l : List Nat), (∀ i ∈ l, M (p i) = some ((f i).ren ρ)) → atM M ρ (l.map p) (l.map f)
  | [], _ => trivial
  | i :: l, h => ⟨h i (by simp), atM_map l fun j hj => h j (by simp [hj])⟩
theorem atM_fam {ρ : Nat → Nat} {l : List Nat} {Rs : List Reg} {n : Nat} {p : Nat → Nat} {f : Nat → Reg} (h : atM M ρ l Rs) (h' : ∀ i, i < n → M (p i) = some ((f i).ren ρ)) : atM M ρ (l ++ (List.range n).map p) (Rs ++ famL n f) :=
  atM_append h (atM_map _ fun i hi => h' i (List.mem_range.1 hi))
/-- A memory with known regions, seen with a family. -/
theorem famM_nil (M : Mem) (b : Nat) (R : Nat → Option Reg) : famM M b 0 R = M := by
  funext r
  unfold famM
  rw [if_neg (by omega)]

/-! ### calls that move what cells hold, and do not look at it -/
theorem Zof_dom {B : Nat → Prop} {σ : Sig} {w : World} (h : ∀ r, (M r).isSome = (M' r).isSome) : Zof B σ M w = Zof B σ M' w := by
  funext b
  refine propext ⟨fun hb => ⟨hb.1, fun r R L h1 h2 h3 => ?_⟩, fun hb => ⟨hb.1, fun r R L h1 h2 h3 => ?_⟩⟩
  · have := h r
    rw [h1] at this
    obtain ⟨R', hR⟩ := Option.isSome_iff_exists.1 (this.trans rfl)
    exact hb.2 r R' L hR h2 h3
  · have := h r
    rw [h1] at this
    obtain ⟨R', hR⟩ := Option.isSome_iff_exists.1 (this.symm.trans rfl)
    exact hb.2 r R' L hR h2 h3
theorem MOK.swap {B W F : Nat → Prop} {n0 : Nat} {σ : Sig} {w : World} (hm : MOK B W n0 σ M F w) (hd : ∀ r, (M r).isSome = (M' r).isSome)
    (hreg : ∀ r R', M' r = some R' → ∃ L, σ r = some L ∧ RegOK σ (Zof B σ M w) w L R') : MOK B W n0 σ M' F w := by
  have hex : ∀ r R', M' r = some R' → ∃ R, M r = some R := fun r R' h => by
    have := hd r
    rw [h] at this
    exact Option.isSome_iff_exists.1 this
  refine ⟨hm.newB, hm.fresh, fun r R' h => ?_, fun r r' R R' L L' b h1 h2 h3 h4 h5 h6 => ?_, fun r R L b h1 h2 h3 => ?_⟩
  · rw [← Zof_dom hd]; exact hreg r R' h
  · obtain ⟨R1, e1⟩ := hex r R h1
    obtain ⟨R2, e2⟩ := hex r' R' h2
    exact hm.inj r r' R1 R2 L L' b e1 e2 h3 h4 h5 h6
  · obtain ⟨R1, e1⟩ := hex r R h1
    exact hm.own r R1 L b e1 h2 h3
/-- The cells of some regions have names. -/
def NmM (Nm : SV → Value → Prop) (refs : List Nat) (M M1 : Mem) : Prop :=
  (∀ r, r ∉ refs → M1 r = M r) ∧ ∀ r ∈ refs, ∀ e k n get, M r = some (.vec e k n get) → ∃ c : Nat → Nat → Value, M1 r = some (.vec e k n fun i j => .r (.v (c i j))) ∧ ∀ i j, i < n → j < k → Nm (get i j) (c i j) ∧ (c i j).oneCell' = true
def nmC (σ : Sig) (w : World) (r k i j : Nat) : Value :=
  match σ r with
  | some L => match L.at_ with
    | some b => (w.cell? ⟨b, i * k + j, none⟩).getD undef
    | none => undef
  | none => undef
theorem callK_opq {np : Nat} {f : FuncId} {args : List SV} {K : SV → Mem → Nat → (SV → SV) → Prop} (refs : List Nat) (hr : ∀ r ∈ refs, ∃ e k n get, M r = some (.vec e k n get)) {S : SV} {M2 : Mem} {q k m nx' : Nat} {e' : TypeId} {get' : Nat → Nat → SV}
    (H : ∀ Nm : SV → Value → Prop, (∀ x, Nm (.r (.v x)) x) → ∀ M1, NmM Nm refs M M1 → CallK P np f args M1 nx fun s M' nx1 up => up = id ∧ nx1 = nx' ∧ s = S ∧ ∃ d : Nat → Nat → Value, (∀ i j, i < m → j < k → Nm (get' i j) (d i j)) ∧ M' = upd M2 q (some (.vec e' k m fun i j => .r (.v (d i j)))))
    (hK : K S (upd M2 q (some (.vec e' k m get'))) nx' id) : CallK P np f args M nx K := by
  intro B W n0 σ w vs hm hn hl ha
  let M1 : Mem := fun r => if r ∈ refs then (match M r with | some (.vec e k n get) => some (.vec e k n fun i j => .r (.v (nmC σ w r k i j))) | R => R) else M r
  have hdom : ∀ r, (M r).isSome = (M1 r).isSome := fun r => by
    show _ = Option.isSome (if r ∈ refs then _ else _)
    split
    · split
      · rename_i h; rw [h]; rfl
      · rfl
    · rfl
  have hcell : ∀ r e k n get, M r = some (.vec e k n get) → ∃ L, σ r = some L ∧ RegOK σ (Zof B σ M w) w L (.vec e k n fun i j => .r (.v (nmC σ w r k i j))) ∧ ∀ i j, i < n → j < k → (get i j).rel σ (Zof B σ M w) w (nmC σ w r k i j) ∧ (nmC σ w r k i j).oneCell' = true := by
    intro r e k n get h
    obtain ⟨L, g1, g2⟩ := hm.reg r _ h
    obtain ⟨f0, fm, f | ⟨b, cs, f1, f2, f3, fo, f5⟩⟩ := g2
    · exact ⟨L, g1, ⟨f0, fm, .inl f⟩, fun i j hi => by omega⟩
    · have key : ∀ i j v, cs[i * k + j]? = some v → nmC σ w r k i j = v := fun i j v hv => by
        simp [nmC, g1, f1, World.cell?, f2, hv]
      refine ⟨L, g1, ⟨f0, fm, .inr ⟨b, cs, f1, f2, f3, fo, fun i j hi hj => ?_⟩⟩, fun i j hi hj => ?_⟩
      · obtain ⟨v, h1, h2, h3⟩ := f5 i j hi hj
        exact ⟨v, h1, h2, (key i j v h1).symm⟩
      · obtain ⟨v, h1, h2, h3⟩ := f5 i j hi hj
        rw [key i j v h1]; exact ⟨h3, h2⟩
  have hm1 : MOK B W n0 σ M1 (From nx) w := hm.swap hdom fun r R' h => by
    have h' : (if r ∈ refs then (match M r with | some (.vec e k n get) => some (.vec e k n fun i j => .r (.v (nmC σ w r k i j))) | R => R) else M r) = some R' := h
    split at h'
    · split at h'
      · rename_i e k n get hM
        cases h'
        obtain ⟨L, g1, g2, _⟩ := hcell r e k n get hM
        exact ⟨L, g1, g2⟩
      · exact hm.reg r R' h'
    · exact hm.reg r R' h'
  have hZ1 := Zof_dom (B := B) (σ := σ) (w := w) hdom
  have hNm : NmM (fun s y => s.rel σ (Zof B σ M w) w y) refs M M1 := ⟨fun r h => if_neg h, fun r h e k n get hM => ⟨nmC σ w r k, by
    show (if r ∈ refs then _ else _) = _
    rw [if_pos h, hM], (hcell r e k n get hM).elim fun L h => h.2.2⟩⟩
  have conv : ∀ e w', CallPost np B W n0 σ M1 w (fun s M' nx1 up => up = id ∧ nx1 = nx' ∧ s = S ∧ ∃ d : Nat → Nat → Value, (∀ i j, i < m → j < k → (get' i j).rel σ (Zof B σ M w) w (d i j)) ∧ M' = upd M2 q (some (.vec e' k m fun i j => .r (.v (d i j))))) e w' → CallPost np B W n0 σ M w K e w' := by
    rintro e w' ⟨y, s, M', nx1, σ', up, rfl, ⟨rfl, rfl, rfl, d, hd, rfl⟩, p1, p2, p3, p4, p5, p6, p7⟩
    have hdom' : ∀ r, (upd M2 q (some (.vec e' k m fun i j => .r (.v (d i j)))) r).isSome = (upd M2 q (some (.vec e' k m get')) r).isSome := fun r => by
      simp only [upd_app]
      split <;> rfl
    have hZ2 := Zof_dom (B := B) (σ := σ') (w := w') hdom'
    have hm2 : MOK B W n0 σ' (upd M2 q (some (.vec e' k m get'))) (From nx1) w' := p1.swap hdom' fun r R' h => by
      rw [upd_app] at h
      split at h
      · rename_i hq
        subst hq
        cases h
        obtain ⟨L, g1, g2⟩ := p1.reg r _ (upd_same ..)
        obtain ⟨f0, fm, f | ⟨b, cs, f1, f2, f3, fo, f5⟩⟩ := g2
        · exact ⟨L, g1, f0, fm, .inl f⟩
        · refine ⟨L, g1, f0, fm, .inr ⟨b, cs, f1, f2, f3, fo, fun i j hi hj => ?_⟩⟩
          obtain ⟨v, h1, h2, h3⟩ := f5 i j hi hj
          refine ⟨v, h1, h2, ?_⟩
          rw [show v = d i j from h3]
          have := p4 (get' i j) (d i j) (by rw [← hZ1]; exact hd i j hi hj)
          exact this
      · rename_i hq
        exact p1.reg r R' (by rw [upd_ne _ _ hq]; exact h)
    refine ⟨y, _, _, _, σ', id, rfl, hK, hm2, ?_, ?_, fun t z hz => ?_, p5, p6, p7⟩
    · rw [← hZ2, hZ1]; exact p2
    · rw [← hZ2]; exact p3
    · rw [← hZ2]; rw [hZ1] at hz; exact p4 t z hz
  rcases H _ (fun x => rfl) M1 hNm B W n0 σ w vs hm1 hn hl (by rw [← hZ1]; exact ha) with ⟨c1, c2⟩ | ⟨y, w', c1, c2⟩
  · exact .inl ⟨c1, c2.mono fun e w' hp => conv e w' hp⟩
  · exact .inr ⟨y, w', c1, conv _ _ c2⟩
end
end Go.Gx
