/-
  Loops; entering a function; contracts.
-/
import Derived.Test.YtaggojedpkddjaaGn
import Derived.Deep.LoopGhost
set_option linter.unusedVariables false
set_option linter.unusedSimpArgs false
namespace Go.Gx
open Go.RowKit

mutual
def SV.trim (n : Nat) : SV → SV
  | .r x => .r x
  | .ptr q row k fld => if q < n then .ptr q row k fld else .r .any
  | .sl q k lo m c => if q < n then .sl q k lo m c else .r .any
  | .fn f fi ca => .fn f (SV.trimL n fi) (SV.trimL n ca)
  | .agg l => .agg (SV.trimL n l)
  | .tup l => .tup (SV.trimL n l)
def SV.trimL (n : Nat) : List SV → List SV
  | [] => []
  | s :: l => s.trim n :: SV.trimL n l
end
def Reg.trim (n : Nat) : Reg → Reg
  | .box l => .box (SV.trimL n l)
  | .vec e k m g => .vec e k m g

def trimE (n : Nat) (E : Env) : Env := fun t => (E t).trim n
def trimM (n : Nat) (M : Mem) : Mem := fun r => if r < n then (M r).map (Reg.trim n) else none

section
variable {P : Program} {T : Tab} {B W : Nat → Prop} {w0 : World} {N : Nat} {σ σ' : Sig} {M : Mem} {nx : Nat} {w w' : World} {a : Act} {E : Env}

mutual
theorem SV.rel_trim {n : Nat} {Z Z' : Nat → Prop} (hs : ∀ r L, r < n → σ r = some L → σ' r = some L) (hk : Keep Z Z' w w') : ∀ (s : SV) (y : Value), s.rel σ Z w y → (s.trim n).rel σ' Z' w' y
  | .r x, y, h => by
    unfold SV.trim
    exact RV.rel_mono hk x y h
  | .ptr q row k fld, y, h => by
    unfold SV.trim
    split
    · rename_i hr
      obtain ⟨L, b, h1, h2, h3⟩ := h
      exact ⟨L, b, hs _ _ hr h1, h2, h3⟩
    · trivial
  | .sl q k lo m c, y, h => by
    unfold SV.trim
    split
    · rename_i hr
      obtain ⟨L, A, h1, h2⟩ := h
      exact ⟨L, A, hs _ _ hr h1, h2⟩
    · trivial
  | .fn f fi ca, y, h => by
    obtain ⟨vs, ws, e, h1, h2⟩ := h
    exact ⟨vs, ws, e, SV.relL_trim hs hk _ _ h1, SV.relL_trim hs hk _ _ h2⟩
  | .agg l, y, h => by
    obtain ⟨vs, e, h1, h2⟩ := h
    exact ⟨vs, e, h1, SV.relL_trim hs hk _ _ h2⟩
  | .tup l, y, h => by
    obtain ⟨vs, e, h2⟩ := h
    exact ⟨vs, e, SV.relL_trim hs hk _ _ h2⟩
theorem SV.relL_trim {n : Nat} {Z Z' : Nat → Prop} (hs : ∀ r L, r < n → σ r = some L → σ' r = some L) (hk : Keep Z Z' w w') : ∀ (l : List SV) (ys : List Value), SV.relL σ Z w l ys → SV.relL σ' Z' w' (SV.trimL n l) ys
  | [], ys, h => h
  | s :: l, ys, h => by
    obtain ⟨v, vs', e, h1, h2⟩ := h
    exact ⟨v, vs', e, SV.rel_trim hs hk s v h1, SV.relL_trim hs hk l vs' h2⟩
end

theorem RegOK.trim {n : Nat} {Z Z' : Nat → Prop} {L : Loc} {R : Reg} (hs : ∀ r L, r < n → σ r = some L → σ' r = some L) (hk : Keep Z Z' w w) (h : RegOK σ Z w L R) : RegOK σ' Z' w L (R.trim n) := by
  cases R with
  | box l =>
    obtain ⟨b', cs, ty, h1, h2, h3, h4⟩ := h
    exact ⟨b', cs, ty, h1, h2, h3, SV.relL_trim hs hk _ _ h4⟩
  | vec e k m g =>
    obtain ⟨h0, hm, h | ⟨b', cs, h1, h2, h3, ho, h5⟩⟩ := h
    · exact ⟨h0, hm, .inl h⟩
    · refine ⟨h0, hm, .inr ⟨b', cs, h1, h2, h3, ho, fun i j hi hj => ?_⟩⟩
      obtain ⟨v, hv, ho, hr⟩ := h5 i j hi hj
      exact ⟨v, hv, ho, RV.rel_mono hk _ _ hr⟩

/-- Regions from n on are let go. -/
theorem MOK.trim {n0 : Nat} (hm : MOK B W n0 σ M (From nx) w) (n : Nat) :
    MOK B W n0 (fun r => if r < n then σ r else none) (trimM n M) (From n) w ∧ Keep (Zof B σ M w) (Zof B (fun r => if r < n then σ r else none) (trimM n M) w) w w ∧
    (∀ r L, r < n → σ r = some L → (if r < n then σ r else none) = some L) := by
  have hs : ∀ r L, r < n → σ r = some L → (if r < n then σ r else none) = some L := fun r L hr h => by rw [if_pos hr]; exact h
  have hkm : ∀ r R', trimM n M r = some R' → r < n ∧ ∃ R1, M r = some R1 ∧ R' = R1.trim n := by
    intro r R' h
    unfold trimM at h
    split at h
    · rename_i hr
      cases hq : M r with
      | none => rw [hq] at h; cases h
      | some R1 => rw [hq] at h; cases h; exact ⟨hr, R1, rfl, rfl⟩
    · cases h
  have hk : Keep (Zof B σ M w) (Zof B (fun r => if r < n then σ r else none) (trimM n M) w) w w := by
    intro x hx
    refine ⟨⟨hx.1, fun r R' L' h1 h2 h3 => ?_⟩, rfl⟩
    obtain ⟨hr, R1, e1, _⟩ := hkm r R' h1
    simp only [hr, if_true] at h2
    exact hx.2 r R1 L' e1 h2 h3
  refine ⟨⟨hm.newB, fun r hr => if_neg (Nat.not_lt.2 hr), fun r R' h => ?_, fun r r' R1 R2 L1 L2 x h1 h2 h3 h4 h5 h6 => ?_, fun r R' L' x h1 h2 h3 => ?_⟩, hk, hs⟩
  · obtain ⟨hr, R1, e1, rfl⟩ := hkm r R' h
    obtain ⟨L', g1, g2⟩ := hm.reg r R1 e1
    exact ⟨L', hs r L' hr g1, g2.trim hs hk⟩
  · obtain ⟨hr, R3, e1, _⟩ := hkm r R1 h1
    obtain ⟨hr', R4, e2, _⟩ := hkm r' R2 h2
    simp only [hr, hr', if_true] at h3 h4
    exact hm.inj r r' R3 R4 L1 L2 x e1 e2 h3 h4 h5 h6
  · obtain ⟨hr, R3, e1, _⟩ := hkm r R' h1
    simp only [hr, if_true] at h2
    exact hm.own r R3 L' x e1 h2 h3

theorem St.trim (h : St B W w0 N σ E M nx a w) (n : Nat) : St B W w0 N (fun r => if r < n then σ r else none) (trimE n E) (trimM n M) n a w := by
  obtain ⟨h1, h2, h3⟩ := h.mem.trim n
  exact ⟨fun t => SV.rel_trim h3 h2 _ _ (h.env t), h1, h.fr, h.defers, h.size⟩

def updL (E : Env) : List (Nat × SV) → Env
  | [] => E
  | p :: l => upd (updL E l) p.1 p.2
theorem updL_self (E : Env) : ∀ l : List (Nat × SV), (∀ p ∈ l, E p.1 = p.2) → updL E l = E
  | [], _ => rfl
  | p :: l, h => by
    simp only [updL, updL_self E l (fun q hq => h q (by simp [hq]))]
    funext t
    by_cases ht : t = p.1
    · subst ht; rw [upd_same]; exact (h p (by simp)).symm
    · rw [upd_ne _ _ ht]
/-- The slots that a loop's head names. -/
def slots (n : Nat) (E : Env) : List (Nat × SV) → Prop
  | [] => True
  | p :: l => (E p.1).trim n = p.2 ∧ slots n E l
theorem slots_all {n : Nat} {E : Env} : ∀ {l : List (Nat × SV)}, slots n E l → ∀ p ∈ l, trimE n E p.1 = p.2
  | [], _, p, hp => by simp at hp
  | q :: l, h, p, hp => by
    simp at hp
    rcases hp with rfl | hp
    · exact h.1
    · exact slots_all h.2 p hp

def regs : (n : Nat) → Mem → List (Option Reg) → Prop
  | _, _, [] => True
  | i, M, R :: l => M i = R ∧ regs (i + 1) M l
def memL (l : List (Option Reg)) : Mem := fun r => (l[r]?).getD none
theorem regs_memL : ∀ (l : List (Option Reg)) (i : Nat) (M : Mem), regs i M l → ∀ r, r < l.length → M (i + r) = (l[r]?).getD none
  | [], i, M, _, r, hr => by simp at hr
  | R :: l, i, M, h, r, hr => by
    cases r with
    | zero => simpa using h.1
    | succ r => simpa [Nat.add_assoc, Nat.add_comm 1 r] using regs_memL l (i + 1) M h.2 r (by simpa using hr)
theorem trimM_eq {n : Nat} {l : List (Option Reg)} (hl : l.length = n) (h : regs 0 (trimM n M) l) : trimM n M = memL l := by
  funext r
  by_cases hr : r < n
  · simpa [memL] using regs_memL l 0 _ h r (by omega)
  · simp [trimM, hr, memL, List.getElem?_eq_none (by omega : l.length ≤ r)]

theorem gloop {α : Type} {body : Code} {Q : Exit → Env → Mem → Nat → Prop} (S : α → List (Nat × SV)) (Rs : α → List (Option Reg)) (n : Nat) (I : α → Prop) (μ : α → Nat) (x0 : α)
    (hn : ∀ x, (Rs x).length = n) (h0 : I x0) (hE : slots n E (S x0)) (hM : regs 0 (trimM n M) (Rs x0))
    (round : ∀ x J, I x → GW P N body (updL J (S x)) (memL (Rs x)) n (gseq (fun E' M' nx' => ∃ x', I x' ∧ μ x' < μ x ∧ slots n E' (S x') ∧ regs 0 (trimM n M') (Rs x')) Q)) :
    GW P N (.loop body) E M nx Q := by
  intro B W w0 σ a w hs
  have conv : ∀ {E M nx σ a w} (x : α), slots n E (S x) → regs 0 (trimM n M) (Rs x) → St B W w0 N σ E M nx a w → ∃ σ' J, St B W w0 N σ' (updL J (S x)) (memL (Rs x)) n a w := by
    intro E M nx σ a w x h1 h2 h3
    have h4 := h3.trim n
    rw [trimM_eq (hn x) h2, ← updL_self (trimE n E) (S x) (slots_all h1)] at h4
    exact ⟨_, _, h4⟩
  refine wp_loop_ghost (fun k a w => ∃ x, μ x = k ∧ I x ∧ ∃ σ' J, St B W w0 N σ' (updL J (S x)) (memL (Rs x)) n a w) (μ x0) ⟨x0, rfl, h0, conv x0 hE hM hs⟩ fun k a w h => ?_
  obtain ⟨x, rfl, hi, σ', J, hst⟩ := h
  refine Code.wp_mono (fun e a' w' h' => ?_) (round x J hi B W w0 σ' a w hst)
  obtain ⟨E', M', nx', σ'', q, hs'⟩ := h'
  cases e with
  | normal =>
    obtain ⟨x', i1, i2, i3, i4⟩ := q
    exact ⟨μ x', i2, x', rfl, i1, conv x' i3 i4 hs'⟩
  | _ => exact ⟨E', M', nx', σ'', q, hs'⟩

/-! ### entering a function; contracts -/
def env0 (l : List SV) : Env := fun t => (l[t]?).getD (.r .any)
def mem0 : Mem := fun _ => none

def gvals (T : Tab) (E : Env) (M : Mem) : List ResultVar → (List SV → Prop) → Prop
  | [], K => K []
  | .tmp t :: l, K => gvals T E M l fun vs => K (E t :: vs)
  | .cell a t :: l, K =>
    match gload T t M (E a) with
    | .pure ob s => ob ∧ gvals T E M l fun vs => K (s :: vs)
    | _ => False
def gfin : List SV → SV
  | [s] => s
  | l => .tup l
def gret (T : Tab) (rs : List ResultVar) (K : SV → Mem → Prop) : Exit → Env → Mem → Nat → Prop
  | .ret, E, M, _ => gvals T E M rs fun vs => K (gfin vs) M
  | .normal, E, M, _ => gvals T E M rs fun vs => K (gfin vs) M
  | _, _, _, _ => False

theorem run_mapM_results (hT : TabOK P T) (hm : MOK B W w0.heap.size σ M (From nx) w) (he : EOK σ (Zof B σ M w) w E a) : ∀ (rs : List ResultVar) (K : List SV → Prop), gvals T E M rs K →
    ∃ (l : List SV) (vs : List Value), (rs.mapM (fun | .tmp t => pure (a.tmps.getD t undef) | .cell q t => do loadVar t (← asAddr (a.tmps.getD q undef)) : ResultVar → Sem Value)).run P w = .ok vs w ∧ SV.relL σ (Zof B σ M w) w l vs ∧ K l
  | [], K, h => ⟨[], [], rfl, rfl, h⟩
  | .tmp t :: rs, K, h => by
    obtain ⟨l, vs, h1, h2, h3⟩ := run_mapM_results hT hm he rs _ h
    refine ⟨E t :: l, a.tmps.getD t undef :: vs, ?_, ⟨_, _, rfl, he t, h2⟩, h3⟩
    rw [List.mapM_cons, Sem.run_bind, Sem.run_pure, Result.andThen_ok, Sem.run_bind, h1]; rfl
  | .cell q t :: rs, K, h => by
    simp only [gvals] at h
    split at h
    · rename_i ob s hg
      obtain ⟨l, vs, h1, h2, h3⟩ := run_mapM_results hT hm he rs _ h.2
      have hs := snd_load (P := P) (nx := nx) hT hm t (he q)
      rw [hg] at hs
      obtain ⟨y, hy, hrel⟩ := hs h.1
      have hy' : (Instr.loadAt t (a.tmps.getD q undef)).run P w = .ok y w := by
        rcases hy with hy | ⟨hy, _⟩
        · cases hq : (Instr.loadAt t (a.tmps.getD q undef)).run P w with
          | ok v w' => rw [hq] at hy; cases hy; rfl
          | halt x w' => rw [hq] at hy; cases hy
        · cases hq : (Instr.loadAt t (a.tmps.getD q undef)).run P w with
          | ok v w' => rw [hq] at hy; cases hy
          | halt x w' => rw [hq] at hy; cases hy
      have hload : (do loadVar t (← asAddr (a.tmps.getD q undef)) : Sem Value).run P w = .ok y w := by
        rw [← hy']
        unfold Instr.loadAt
        cases hv : a.tmps.getD q undef with
        | pointer p => cases p with
          | some p => rfl
          | none => rw [hv] at hy'; simp [Instr.loadAt, Instr.sureAddr] at hy'
        | _ => rw [hv] at hy'; simp [Instr.loadAt, Instr.sureAddr] at hy'
      refine ⟨s :: l, y :: vs, ?_, ⟨_, _, rfl, hrel, h2⟩, h3⟩
      rw [List.mapM_cons, Sem.run_bind, hload, Result.andThen_ok, Sem.run_bind, h1]; rfl
    · exact h.elim

theorem run_results (hT : TabOK P T) {fn : Func} {K : SV → Prop} (hm : MOK B W w0.heap.size σ M (From nx) w) (he : EOK σ (Zof B σ M w) w E a) (h : gvals T E M fn.results.toList fun vs => K (gfin vs)) :
    ∃ s y, (results fn a.tmps).run P w = .ok y w ∧ s.rel σ (Zof B σ M w) w y ∧ K s := by
  obtain ⟨l, vs, h1, h2, h3⟩ := run_mapM_results hT hm he _ _ h
  unfold results
  rw [Sem.run_bind, Array.mapM_eq_mapM_toList, Sem.run_map]
  erw [h1]
  simp only [Result.andThen_ok, Sem.run_pure]
  match l, vs, h2, h3 with
  | [s], vs, h2, h3 =>
    obtain ⟨v, vs', rfl, g1, g2⟩ := h2
    cases g2
    exact ⟨s, v, by simp, g1, h3⟩
  | [], vs, h2, h3 =>
    cases h2
    exact ⟨.tup [], .tuple #[], by simp, ⟨[], rfl, rfl⟩, h3⟩
  | s :: s' :: l, vs, h2, h3 =>
    have hlen := SV.relL_length h2
    refine ⟨.tup (s :: s' :: l), .tuple vs.toArray, ?_, ⟨vs, rfl, h2⟩, h3⟩
    simp at hlen
    rw [dif_neg (by simp; omega)]

theorem env0_rel {Z : Nat → Prop} {l : List SV} {vs : List Value} (h : SV.relL σ Z w l vs) (m : Nat) (t : Nat) : (env0 l t).rel σ Z w ((vs.toArray ++ Array.replicate m undef).getD t undef) := by
  unfold env0
  cases hl : l[t]? with
  | none => trivial
  | some s =>
    obtain ⟨y, h1, h2⟩ := SV.relL_get h t s hl
    have ht : t < vs.length := by
      rcases Nat.lt_or_ge t vs.length with h | h
      · exact h
      · rw [List.getElem?_eq_none h] at h1; cases h1
    have : (vs.toArray ++ Array.replicate m undef).getD t undef = y := by
      have h3 := List.getElem?_eq_getElem ht
      rw [h1] at h3
      simp [Array.getElem?_append, ht, ← Option.some.inj h3]
    rw [this]; exact h2

theorem calls_of_gexec (hT : TabOK P T) {f : FuncId} {fn : Func} {c : Code} (hf : P.funcs[f]? = some fn) (hb : fn.body = some c) {args : List SV} {vs : List Value} (hlen : args.length ≤ fn.ntmps) {K : SV → Mem → Prop}
    (hm : MOK B W w.heap.size σ M (From nx) w) (ha : SV.relL σ (Zof B σ M w) w args vs) (h : gexec P T fn.ntmps c (env0 args) M nx (gret T fn.results.toList K)) :
    Calls P f vs.toArray w fun e w' => ∃ s y σ' M' nx', e = .returned y ∧ K s M' ∧ s.rel σ' (Zof B σ' M' w') w' y ∧ MOK B W w.heap.size σ' M' (From nx') w' ∧ Fr W w w' := by
  have hl := SV.relL_length ha
  refine calls_of_wp hf hb (Code.wp_mono (fun e a' w' h' => ?_) (gexec_sound hT c _ _ _ _ h B W w σ _ w ⟨fun t => env0_rel ha _ t, hm, Fr.refl W w, rfl, by simp; omega⟩))
  obtain ⟨E', M', nx', σ', q, hs⟩ := h'
  have fin : ∀ h : gvals T E' M' fn.results.toList (fun vs => K (gfin vs) M'), a'.defers = [] ∧ ∃ v, (results fn a'.tmps).run P w' = .ok v w' ∧ ∃ s y σ' M' nx', Ending.returned v = .returned y ∧ K s M' ∧ s.rel σ' (Zof B σ' M' w') w' y ∧ MOK B W w.heap.size σ' M' (From nx') w' ∧ Fr W w w' := by
    intro h
    obtain ⟨s, y, h1, h2, h3⟩ := run_results hT (K := fun s => K s M') hs.mem hs.env h
    exact ⟨hs.defers, y, h1, s, y, σ', M', nx', rfl, h3, h2, hs.mem, hs.fr⟩
  cases e with
  | ret => exact fin q
  | normal => exact fin q
  | _ => exact q.elim

/-- Regions seen from outside: read-only. -/
def gbox (l : List SV) : Nat → Nat → RV := fun _ j => ((l[j]?).getD (.r .any)).toRV
mutual
def gview (M : Mem) : SV → (SV → Prop) → Prop
  | .r x, K => K (.r x)
  | .ptr ref row k fld, K =>
    match M ref with
    | some (.vec e k' n g) => k' = k ∧ K (.r (.rp k' n g row fld))
    | some (.box l) => K (.r (.rp l.length 1 (gbox l) 0 (row * k + fld)))
    | none => False
  | .sl ref k lo n c, K =>
    match M ref with
    | some (.vec e k' N g) => (k' = k ∧ lo + n ≤ N) ∧ K (.r (.rs k n fun i j => g (lo + i) j))
    | _ => False
  | .fn f fi ca, K => gviewL M fi fun fi' => gviewL M ca fun ca' => K (.fn f fi' ca')
  | .agg l, K => gviewL M l fun l' => K (.agg l')
  | .tup l, K => gviewL M l fun l' => K (.tup l')
def gviewL (M : Mem) : List SV → (List SV → Prop) → Prop
  | [], K => K []
  | s :: l, K => gview M s fun s' => gviewL M l fun l' => K (s' :: l')
end

mutual
theorem gview_rel' {F : Nat → Prop} {n0 : Nat} {Z' : Nat → Prop} (hm : MOK B W n0 σ M F w) (hz : ∀ b, Zof B σ M w b → Z' b) (ho : ∀ r R L b, M r = some R → σ r = some L → L.at_ = some b → Z' b) :
    ∀ (s : SV) (K : SV → Prop) (y : Value), gview M s K → s.rel σ (Zof B σ M w) w y → ∃ s', K s' ∧ s'.rel (fun _ => none) Z' w y
  | .r x, K, y, h, hr => ⟨.r x, h, RV.rel_mono (fun b hb => ⟨hz b hb, rfl⟩) x y hr⟩
  | .ptr ref row k fld, K, y, h, hr => by
    obtain ⟨L, b, h1, h2, rfl⟩ := hr
    unfold gview at h
    split at h
    · rename_i e k' n g hM
      obtain ⟨rfl, h⟩ := h
      obtain ⟨L', e1, e2⟩ := hm.reg ref _ hM
      rw [h1] at e1; cases e1
      obtain ⟨f0, fm, f | ⟨b', cs, f1, f2, f3, fo, f5⟩⟩ := e2
      · rw [h2] at f; cases f.1
      rw [h2] at f1; cases f1
      refine ⟨_, h, b, 0, by simp, ho ref _ L b hM h1 h2, fun i j hi hj => ?_⟩
      obtain ⟨v, v1, v0, v2⟩ := f5 i j hi hj
      exact ⟨v, by simp [World.cell?, f2, v1], v0, RV.rel_mono (fun b hb => ⟨hz b hb, rfl⟩) _ _ v2⟩
    · rename_i l hM
      obtain ⟨L', e1, e2⟩ := hm.reg ref _ hM
      rw [h1] at e1; cases e1
      obtain ⟨b', cs, ty, f1, f2, f3, f4⟩ := e2
      rw [h2] at f1; cases f1
      refine ⟨_, h, b, 0, by simp, ho ref _ L b hM h1 h2, fun i j hi hj => ?_⟩
      have hi0 : i = 0 := by omega
      subst hi0
      obtain ⟨v, v1, v2⟩ := SV.relL_get f4 j l[j] (List.getElem?_eq_getElem hj)
      refine ⟨v, by simp [World.cell?, f2, v1], f3 v (List.mem_of_getElem? v1), ?_⟩
      unfold gbox
      rw [List.getElem?_eq_getElem hj]
      exact RV.rel_mono (fun b hb => ⟨hz b hb, rfl⟩) _ _ (toRV_rel v2)
    · exact h.elim
  | .sl ref k lo n c, K, y, h, hr => by
    obtain ⟨L, A, g1, rfl, g2, g3, g4, g5⟩ := hr
    unfold gview at h
    split at h
    · rename_i e k' N g hM
      obtain ⟨⟨rfl, hle⟩, h⟩ := h
      obtain ⟨L', e1, e2⟩ := hm.reg ref _ hM
      rw [g1] at e1; cases e1
      refine ⟨_, h, A, _, rfl, g2, fun h0 => ?_⟩
      obtain ⟨b, q1, rfl⟩ := g4 (by omega)
      obtain ⟨f0, fm, f | ⟨b', cs, f1, f2, f3, fo, f5⟩⟩ := e2
      · rw [q1] at f; cases f.1
      rw [q1] at f1; cases f1
      refine ⟨b, lo * k', rfl, ho ref _ L b hM g1 q1, fun i j hi hj => ?_⟩
      obtain ⟨v, v1, v0, v2⟩ := f5 (lo + i) j (by omega) hj
      refine ⟨v, ?_, v0, RV.rel_mono (fun b hb => ⟨hz b hb, rfl⟩) _ _ v2⟩
      simp only [World.cell?, f2]
      rw [← v1, Nat.add_mul, Nat.add_assoc]
      simp
    · exact h.elim
  | .fn f fi ca, K, y, h, hr => by
    obtain ⟨vs, ws, e, h1, h2⟩ := hr
    obtain ⟨fi', k1, r1⟩ := gviewL_rel' hm hz ho fi _ vs h h1
    obtain ⟨ca', k2, r2⟩ := gviewL_rel' hm hz ho ca _ ws k1 h2
    exact ⟨_, k2, vs, ws, e, r1, r2⟩
  | .agg l, K, y, h, hr => by
    obtain ⟨vs, e, h1, h2⟩ := hr
    obtain ⟨l', k1, r1⟩ := gviewL_rel' hm hz ho l _ vs h h2
    exact ⟨_, k1, vs, e, h1, r1⟩
  | .tup l, K, y, h, hr => by
    obtain ⟨vs, e, h2⟩ := hr
    obtain ⟨l', k1, r1⟩ := gviewL_rel' hm hz ho l _ vs h h2
    exact ⟨_, k1, vs, e, r1⟩
theorem gviewL_rel' {F : Nat → Prop} {n0 : Nat} {Z' : Nat → Prop} (hm : MOK B W n0 σ M F w) (hz : ∀ b, Zof B σ M w b → Z' b) (ho : ∀ r R L b, M r = some R → σ r = some L → L.at_ = some b → Z' b) :
    ∀ (l : List SV) (K : List SV → Prop) (ys : List Value), gviewL M l K → SV.relL σ (Zof B σ M w) w l ys → ∃ l', K l' ∧ SV.relL (fun _ => none) Z' w l' ys
  | [], K, ys, h, hr => ⟨[], h, hr⟩
  | s :: l, K, ys, h, hr => by
    obtain ⟨v, vs', rfl, h1, h2⟩ := hr
    obtain ⟨s', k1, r1⟩ := gview_rel' hm hz ho s _ v h h1
    obtain ⟨l', k2, r2⟩ := gviewL_rel' hm hz ho l _ vs' k1 h2
    exact ⟨_, k2, v, vs', rfl, r1, r2⟩
end

theorem gview_rel {n0 : Nat} {Z' : Nat → Prop} (hm : MOK B W n0 σ M (From nx) w) (hz : ∀ b, Zof B σ M w b → Z' b) (ho : ∀ r R L b, M r = some R → σ r = some L → L.at_ = some b → Z' b) (s : SV) (K : SV → Prop) (y : Value) (h : gview M s K) (hr : s.rel σ (Zof B σ M w) w y) : ∃ s', K s' ∧ s'.rel (fun _ => none) Z' w y := gview_rel' hm hz ho s K y h hr
theorem gviewL_rel {n0 : Nat} {Z' : Nat → Prop} (hm : MOK B W n0 σ M (From nx) w) (hz : ∀ b, Zof B σ M w b → Z' b) (ho : ∀ r R L b, M r = some R → σ r = some L → L.at_ = some b → Z' b) (l : List SV) (K : List SV → Prop) (ys : List Value) (h : gviewL M l K) (hr : SV.relL σ (Zof B σ M w) w l ys) : ∃ l', K l' ∧ SV.relL (fun _ => none) Z' w l' ys := gviewL_rel' hm hz ho l K ys h hr

/-- A contract of a function that changes nothing of what it is handed: φ of what it hands back (read-only, or fresh). -/
def Pure (P : Program) (f : FuncId) (args : List SV) (φ : SV → Prop) : Prop :=
  ∀ (Z : Nat → Prop) (w : World) (vs : List Value), (∀ b, Z b → b < w.heap.size) → SV.relL (fun _ => none) Z w args vs →
    (callFunc f vs.toArray).run P w = .ok (.enter f vs.toArray) w ∧
    Calls P f vs.toArray w fun e w' => ∃ y s, e = .returned y ∧ φ s ∧ s.rel (fun _ => none) (fun b => Z b ∨ (w.heap.size ≤ b ∧ b < w'.heap.size)) w' y ∧ FrS (fun _ => False) w.heap.size w w'

theorem enter_run {f : FuncId} {fn : Func} {c : Code} (hf : P.funcs[f]? = some fn) (hb : fn.body = some c) (hn : (fn.name == "runtime.NumGoroutine") = false) (vs : Array Value) : (callFunc f vs).run P w = .ok (.enter f vs) w := by
  have hn' : ¬ fn.name = "runtime.NumGoroutine" := by simpa using hn
  simp [callFunc, hf, hb, hn']

theorem pure_of_gexec (hT : TabOK P T) {f : FuncId} {fn : Func} {c : Code} (hf : P.funcs[f]? = some fn) (hb : fn.body = some c) (hn : (fn.name == "runtime.NumGoroutine") = false) {args : List SV} (hlen : args.length ≤ fn.ntmps) {φ : SV → Prop}
    (h : gexec P T fn.ntmps c (env0 args) mem0 0 (gret T fn.results.toList fun s M => gview M s φ)) : Pure P f args φ := by
  intro Z w vs hZ ha
  refine ⟨enter_run hf hb hn _, ?_⟩
  have hm : MOK (fun b => Z b ∨ w.heap.size ≤ b) (fun _ => False) w.heap.size (fun _ => none) mem0 (From 0) w :=
    ⟨fun b hb => .inr (hb.elim id False.elim), fun _ _ => rfl, fun r R h => (by cases h), fun r r' R R' L L' b h => (by cases h), fun r R L b h => (by cases h)⟩
  have hk : Keep Z (Zof (fun b => Z b ∨ w.heap.size ≤ b) (fun _ => none) mem0 w) w w := fun b hb => ⟨⟨⟨hZ b hb, .inl hb⟩, fun r R L h => (by cases h)⟩, rfl⟩
  refine (calls_of_gexec hT hf hb hlen hm (SV.relL_mono (fun _ _ h => h) hk _ _ ha) h).mono fun e w' h' => ?_
  obtain ⟨s, y, σ', M', nx', rfl, hK, hrel, hm', hfr⟩ := h'
  obtain ⟨s', k1, r1⟩ := gview_rel (Z' := fun b => Z b ∨ (w.heap.size ≤ b ∧ b < w'.heap.size)) hm' (fun b hb => hb.1.2.imp id fun h => ⟨h, hb.1.1⟩) (fun r R L b h1 h2 h3 => .inr (by
    obtain ⟨L', e1, e2⟩ := hm'.reg r R h1
    rw [h2] at e1; cases e1
    refine ⟨?_, e2.block h3⟩
    rcases hm'.own r R L b h1 h2 h3 with h | h
    · exact h.elim
    · exact h)) s φ y hK hrel
  exact ⟨y, s', rfl, k1, r1, ⟨hfr.os, hfr.tape, hfr.output, hfr.size, fun b hb _ => hfr.block b hb (fun h => h)⟩⟩

/-! ### closed values -/
mutual
def SV.closed : SV → Bool
  | .r _ => true
  | .ptr .. | .sl .. => false
  | .fn _ fi ca => SV.closedL fi && SV.closedL ca
  | .agg l => SV.closedL l
  | .tup l => SV.closedL l
def SV.closedL : List SV → Bool
  | [] => true
  | s :: l => s.closed && SV.closedL l
end
mutual
theorem SV.rel_closed {σ' : Sig} {Z Z' : Nat → Prop} (hk : Keep Z Z' w w') : ∀ (s : SV) (y : Value), s.closed = true → s.rel σ Z w y → s.rel σ' Z' w' y
  | .r x, y, _, h => RV.rel_mono hk x y h
  | .ptr .., y, hc, h => by simp [SV.closed] at hc
  | .sl .., y, hc, h => by simp [SV.closed] at hc
  | .fn f fi ca, y, hc, h => by
    simp only [SV.closed, Bool.and_eq_true] at hc
    obtain ⟨vs, ws, e, h1, h2⟩ := h
    exact ⟨vs, ws, e, SV.relL_closed hk fi vs hc.1 h1, SV.relL_closed hk ca ws hc.2 h2⟩
  | .agg l, y, hc, h => by
    obtain ⟨vs, e, h1, h2⟩ := h
    exact ⟨vs, e, h1, SV.relL_closed hk l vs hc h2⟩
  | .tup l, y, hc, h => by
    obtain ⟨vs, e, h2⟩ := h
    exact ⟨vs, e, SV.relL_closed hk l vs hc h2⟩
theorem SV.relL_closed {σ' : Sig} {Z Z' : Nat → Prop} (hk : Keep Z Z' w w') : ∀ (l : List SV) (ys : List Value), SV.closedL l = true → SV.relL σ Z w l ys → SV.relL σ' Z' w' l ys
  | [], ys, _, h => h
  | s :: l, ys, hc, h => by
    simp only [SV.closedL, Bool.and_eq_true] at hc
    obtain ⟨v, vs', e, h1, h2⟩ := h
    exact ⟨v, vs', e, SV.rel_closed hk s v hc.1 h1, SV.relL_closed hk l vs' hc.2 h2⟩
end

/-- Values that name no memory at all. -/
def RV.flat : RV → Bool
  | .any | .v _ | .bx _ => true
  | _ => false
mutual
def SV.flat : SV → Bool
  | .r x => x.flat
  | .ptr .. | .sl .. | .fn .. => false
  | .agg l => SV.flatL l
  | .tup l => SV.flatL l
def SV.flatL : List SV → Bool
  | [] => true
  | s :: l => s.flat && SV.flatL l
end
theorem RV.rel_flat {Z Z' : Nat → Prop} {x : RV} {y : Value} (hf : x.flat = true) (h : x.rel Z w y) : x.rel Z' w' y := by
  cases x <;> simp [RV.flat] at hf <;> exact h
mutual
theorem SV.rel_flat {σ' : Sig} {Z Z' : Nat → Prop} : ∀ (s : SV) (y : Value), s.flat = true → s.rel σ Z w y → s.rel σ' Z' w' y
  | .r x, y, hc, h => RV.rel_flat (Z := Z) (w := w) hc h
  | .ptr .., y, hc, h => by simp [SV.flat] at hc
  | .sl .., y, hc, h => by simp [SV.flat] at hc
  | .fn .., y, hc, h => by simp [SV.flat] at hc
  | .agg l, y, hc, h => by
    obtain ⟨vs, e, h1, h2⟩ := h
    exact ⟨vs, e, h1, SV.relL_flat l vs hc h2⟩
  | .tup l, y, hc, h => by
    obtain ⟨vs, e, h2⟩ := h
    exact ⟨vs, e, SV.relL_flat l vs hc h2⟩
theorem SV.relL_flat {σ' : Sig} {Z Z' : Nat → Prop} : ∀ (l : List SV) (ys : List Value), SV.flatL l = true → SV.relL σ Z w l ys → SV.relL σ' Z' w' l ys
  | [], ys, _, h => h
  | s :: l, ys, hc, h => by
    simp only [SV.flatL, Bool.and_eq_true] at hc
    obtain ⟨v, vs', e, h1, h2⟩ := h
    exact ⟨v, vs', e, SV.rel_flat s v hc.1 h1, SV.relL_flat l vs' hc.2 h2⟩
end

theorem callPost_pure {n0 : Nat} {w' : World} {y : Value} {s : SV} {K : SV → Mem → Nat → (SV → SV) → Prop} (hm : MOK B W n0 σ M (From nx) w) (hn : n0 ≤ w.heap.size) (hf : FrS (fun _ => False) w.heap.size w w') (hK : K s M nx id)
    (hs : s.rel σ (Zof B σ M w') w' y) : CallPost B W n0 σ M w K (.returned y) w' := by
  have hsame : ∀ b, b < w.heap.size → w'.heap[b]? = w.heap[b]? := fun b hb => hf.block b hb (fun h => h)
  have hk : Keep (Zof B σ M w) (Zof B σ M w') w w' := fun b hb => ⟨⟨⟨Nat.lt_of_lt_of_le hb.1.1 hf.size, hb.1.2⟩, hb.2⟩, hsame b hb.1.1⟩
  refine ⟨y, s, M, nx, σ, id, rfl, hK, ⟨hm.newB, hm.fresh, fun r R h => ?_, hm.inj, hm.own⟩, hk, hs, fun t z hz => SV.rel_mono (fun _ _ h => h) hk _ _ hz, ⟨hf.os, hf.tape, hf.output, hf.size, fun b hb _ => hsame b (by omega)⟩⟩
  obtain ⟨L, e1, e2⟩ := hm.reg r R h
  exact ⟨L, e1, e2.mono (fun _ _ h => h) hk fun b hb => hsame b (e2.block hb)⟩

/-- A call under a contract, the arguments name no region. -/
theorem callK_pure {f : FuncId} {args : List SV} {φ : SV → Prop} {K : SV → Mem → Nat → (SV → SV) → Prop} (hp : Pure P f args φ) (hc : SV.closedL args = true) (hcl : ∀ s, φ s → s.closed = true) (hK : ∀ s, φ s → K s M nx id) : CallK P f args M nx K := by
  intro B W n0 σ w vs hm hn ha
  obtain ⟨h1, h2⟩ := hp (Zof B σ M w) w vs (fun b hb => hb.1.1) (SV.relL_closed (fun b hb => ⟨hb, rfl⟩) _ _ hc ha)
  refine .inl ⟨h1, h2.mono fun e w' h => ?_⟩
  obtain ⟨y, s, rfl, hφ, hr, hf⟩ := h
  refine callPost_pure hm hn hf (hK s hφ) (SV.rel_closed (fun b hb => ⟨?_, rfl⟩) s y (hcl s hφ) hr)
  rcases hb with hb | hb
  · exact ⟨⟨Nat.lt_of_lt_of_le hb.1.1 hf.size, hb.1.2⟩, hb.2⟩
  · refine ⟨⟨hb.2, hm.newB b (.inl (by omega))⟩, fun r R L h1 h2 h3 => ?_⟩
    obtain ⟨L', e1, e2⟩ := hm.reg r R h1
    rw [h2] at e1; cases e1
    have := e2.block h3
    omega

/-- A call under a contract: the arguments are lent; what comes back names no memory. -/
theorem callK_lent {f : FuncId} {args : List SV} {φ : SV → Prop} {K : SV → Mem → Nat → (SV → SV) → Prop} (hp : gviewL M args fun l => Pure P f l φ) (hcl : ∀ s, φ s → s.flat = true) (hK : ∀ s, φ s → K s M nx id) : CallK P f args M nx K := by
  intro B W n0 σ w vs hm hn ha
  obtain ⟨l, hp', ha'⟩ := gviewL_rel (Z' := fun b => b < w.heap.size) hm (fun b hb => hb.1.1) (fun r R L b h1 h2 h3 => by
    obtain ⟨L', e1, e2⟩ := hm.reg r R h1
    rw [h2] at e1; cases e1
    exact e2.block h3) args _ vs hp ha
  obtain ⟨h1, h2⟩ := hp' (fun b => b < w.heap.size) w vs (fun b hb => hb) ha'
  refine .inl ⟨h1, h2.mono fun e w' h => ?_⟩
  obtain ⟨y, s, rfl, hφ, hr, hf⟩ := h
  exact callPost_pure hm hn hf (hK s hφ) (SV.rel_flat s y (hcl s hφ) hr)
end
end Go.Gx
