/-
  Memory under the operations: a new region, a region with another content, a region that has moved.
-/
import Derived.Test.YtaggojedpkddjaaGc
set_option linter.unusedVariables false
set_option linter.unusedSimpArgs false
namespace Go.Gx
open Go.RowKit

def upd {α : Type} (f : Nat → α) (k : Nat) (v : α) : Nat → α := fun x => if x = k then v else f x
theorem upd_same {α : Type} (f : Nat → α) (k : Nat) (v : α) : upd f k v k = v := by simp [upd]
theorem upd_ne {α : Type} (f : Nat → α) {k x : Nat} (v : α) (h : x ≠ k) : upd f k v x = f x := by simp [upd, h]

mutual
def SV.kill (ref : Nat) : SV → SV
  | .r x => .r x
  | .ptr q row k fld => if q = ref then .r .any else .ptr q row k fld
  | .sl q k lo n c => if q = ref then .r .any else .sl q k lo n c
  | .fn f fi ca => .fn f (SV.killL ref fi) (SV.killL ref ca)
  | .agg l => .agg (SV.killL ref l)
  | .tup l => .tup (SV.killL ref l)
def SV.killL (ref : Nat) : List SV → List SV
  | [] => []
  | s :: l => s.kill ref :: SV.killL ref l
end
def Reg.kill (ref : Nat) : Reg → Reg
  | .box l => .box (SV.killL ref l)
  | .vec e k n g => .vec e k n g
def killM (ref : Nat) (M : Mem) : Mem := fun r => (M r).map (Reg.kill ref)

structure FrS (W : Nat → Prop) (n0 : Nat) (w w' : World) : Prop where
  os : w'.os = w.os
  tape : w'.tape = w.tape
  output : w'.output = w.output
  size : w.heap.size ≤ w'.heap.size
  block : ∀ b, b < n0 → ¬ W b → w'.heap[b]? = w.heap[b]?
theorem FrS.refl (W : Nat → Prop) (n0 : Nat) (w : World) : FrS W n0 w w := ⟨rfl, rfl, rfl, Nat.le_refl _, fun _ _ _ => rfl⟩
theorem FrS.trans {W : Nat → Prop} {n0 : Nat} {a b c : World} (h : FrS W n0 a b) (k : FrS W n0 b c) : FrS W n0 a c :=
  ⟨k.os.trans h.os, k.tape.trans h.tape, k.output.trans h.output, Nat.le_trans h.size k.size, fun x hx hw => (k.block x hx hw).trans (h.block x hx hw)⟩

section
variable {B W F : Nat → Prop} {n0 : Nat} {σ σ' : Sig} {M : Mem} {nx : Nat} {w w' : World}

theorem heap_lt {b : Nat} {o : Obj} (h : w.heap[b]? = some o) : b < w.heap.size := by
  rcases Nat.lt_or_ge b w.heap.size with h1 | h1
  · exact h1
  · rw [Array.getElem?_eq_none h1] at h; cases h

theorem RegOK.block {Z : Nat → Prop} {L : Loc} {R : Reg} (h : RegOK σ Z w L R) {b : Nat} (hb : L.at_ = some b) : b < w.heap.size := by
  cases R with
  | box l =>
    obtain ⟨b', cs, ty, h1, h2, _⟩ := h
    rw [hb] at h1; cases h1
    exact heap_lt h2
  | vec e k n g =>
    obtain ⟨_, _, h | ⟨b', cs, h1, h2, _⟩⟩ := h
    · rw [hb] at h; cases h.1
    · rw [hb] at h1; cases h1
      exact heap_lt h2

theorem RegOK.mono {Z Z' : Nat → Prop} {L : Loc} {R : Reg} (hs : SigLe σ σ') (hk : Keep Z Z' w w') (hb : ∀ b, L.at_ = some b → w'.heap[b]? = w.heap[b]?) (h : RegOK σ Z w L R) : RegOK σ' Z' w' L R := by
  cases R with
  | box l =>
    obtain ⟨b', cs, ty, h1, h2, h3, h4⟩ := h
    exact ⟨b', cs, ty, h1, (hb _ h1).trans h2, h3, SV.relL_mono hs hk _ _ h4⟩
  | vec e k n g =>
    obtain ⟨h0, hm, h | ⟨b', cs, h1, h2, h3, ho, h5⟩⟩ := h
    · exact ⟨h0, hm, .inl h⟩
    · refine ⟨h0, hm, .inr ⟨b', cs, h1, (hb _ h1).trans h2, h3, ho, fun i j hi hj => ?_⟩⟩
      obtain ⟨v, hv, ho, hr⟩ := h5 i j hi hj
      exact ⟨v, hv, ho, RV.rel_mono hk _ _ hr⟩

theorem MOK.notZ (hm : MOK B W n0 σ M F w) {r : Nat} {R : Reg} {L : Loc} {b : Nat} (h1 : M r = some R) (h2 : σ r = some L) (h3 : L.at_ = some b) : ¬ Zof B σ M w b := fun h => h.2 r R L h1 h2 h3

theorem mem_new (hm : MOK B W n0 σ M F w) (hq : F nx) (hn0 : n0 ≤ w.heap.size) (hsz : w.heap.size ≤ w'.heap.size) (hsame : ∀ b, b < w.heap.size → w'.heap[b]? = w.heap[b]?) {L : Loc} {R : Reg}
    (hL : ∀ b, L.at_ = some b → w.heap.size ≤ b)
    (hR : ∀ σ' Z', SigLe σ σ' → Keep (Zof B σ M w) Z' w w' → RegOK σ' Z' w' L R) :
    MOK B W n0 (upd σ nx (some L)) (upd M nx (some R)) (fun r => F r ∧ r ≠ nx) w' ∧ Keep (Zof B σ M w) (Zof B (upd σ nx (some L)) (upd M nx (some R)) w') w w' ∧ SigLe σ (upd σ nx (some L)) := by
  have hs : SigLe σ (upd σ nx (some L)) := by
    intro r L' h
    by_cases hr : r = nx
    · subst hr; rw [hm.fresh r hq] at h; cases h
    · rw [upd_ne _ _ hr]; exact h
  have hk : Keep (Zof B σ M w) (Zof B (upd σ nx (some L)) (upd M nx (some R)) w') w w' := by
    intro b hb
    refine ⟨⟨⟨Nat.lt_of_lt_of_le hb.1.1 hsz, hb.1.2⟩, fun r R' L' h1 h2 h3 => ?_⟩, hsame b hb.1.1⟩
    by_cases hr : r = nx
    · subst hr
      rw [upd_same] at h1 h2
      cases h2
      have := hL b h3
      have := hb.1.1
      omega
    · rw [upd_ne _ _ hr] at h1 h2
      exact hb.2 r R' L' h1 h2 h3
  refine ⟨⟨hm.newB, fun r hr => ?_, fun r R' h => ?_, fun r r' R1 R2 L1 L2 b h1 h2 h3 h4 h5 h6 => ?_, fun r R' L' b h1 h2 h3 => ?_⟩, hk, hs⟩
  · rw [upd_ne _ _ hr.2]; exact hm.fresh r hr.1
  · by_cases hr : r = nx
    · subst hr
      rw [upd_same] at h; cases h
      exact ⟨L, upd_same .., hR _ _ hs hk⟩
    · rw [upd_ne _ _ hr] at h
      obtain ⟨L', h1, h2⟩ := hm.reg r R' h
      exact ⟨L', hs _ _ h1, h2.mono hs hk fun b hb => hsame b (h2.block hb)⟩
  · by_cases hr : r = nx
    · by_cases hr' : r' = nx
      · omega
      · subst hr
        rw [upd_same] at h3; cases h3
        rw [upd_ne _ _ hr'] at h2 h4
        obtain ⟨L', e1, e2⟩ := hm.reg r' R2 h2
        rw [h4] at e1; cases e1
        have h7 := e2.block h6
        have := hL b h5
        omega
    · by_cases hr' : r' = nx
      · subst hr'
        rw [upd_same] at h4; cases h4
        rw [upd_ne _ _ hr] at h1 h3
        obtain ⟨L', e1, e2⟩ := hm.reg r R1 h1
        rw [h3] at e1; cases e1
        have h7 := e2.block h5
        have := hL b h6
        omega
      · rw [upd_ne _ _ hr] at h1 h3
        rw [upd_ne _ _ hr'] at h2 h4
        exact hm.inj r r' R1 R2 L1 L2 b h1 h2 h3 h4 h5 h6
  · by_cases hr : r = nx
    · subst hr
      rw [upd_same] at h2; cases h2
      have := hL b h3
      omega
    · rw [upd_ne _ _ hr] at h1 h2
      exact hm.own r R' L' b h1 h2 h3

theorem mem_set (hm : MOK B W n0 σ M F w) {ref : Nat} {R0 R : Reg} {L : Loc} {b : Nat} (hM : M ref = some R0) (hσ : σ ref = some L) (hb : L.at_ = some b)
    (hsz : w'.heap.size = w.heap.size) (hsame : ∀ x, x ≠ b → w'.heap[x]? = w.heap[x]?)
    (hR : ∀ Z', Keep (Zof B σ M w) Z' w w' → RegOK σ Z' w' L R) :
    MOK B W n0 σ (upd M ref (some R)) F w' ∧ Keep (Zof B σ M w) (Zof B σ (upd M ref (some R)) w') w w' := by
  have hs : SigLe σ σ := fun _ _ h => h
  have hk : Keep (Zof B σ M w) (Zof B σ (upd M ref (some R)) w') w w' := by
    intro x hx
    refine ⟨⟨⟨by rw [hsz]; exact hx.1.1, hx.1.2⟩, fun r R' L' h1 h2 h3 => ?_⟩, hsame x fun e => ?_⟩
    · by_cases hr : r = ref
      · subst hr; exact hx.2 r R0 L' hM h2 h3
      · rw [upd_ne _ _ hr] at h1; exact hx.2 r R' L' h1 h2 h3
    · subst e; exact hm.notZ hM hσ hb hx
  refine ⟨⟨hm.newB, hm.fresh, fun r R' h => ?_, fun r r' R1 R2 L1 L2 x h1 h2 h3 h4 h5 h6 => ?_, fun r R' L' x h1 h2 h3 => ?_⟩, hk⟩
  · by_cases hr : r = ref
    · subst hr
      rw [upd_same] at h; cases h
      exact ⟨L, hσ, hR _ hk⟩
    · rw [upd_ne _ _ hr] at h
      obtain ⟨L', h1, h2⟩ := hm.reg r R' h
      refine ⟨L', h1, h2.mono hs hk fun x hx => hsame x fun e => ?_⟩
      subst e
      exact hr (hm.inj r ref R' R0 L' L x h hM h1 hσ hx hb)
  · have a1 : ∃ R', M r = some R' := by
      by_cases hr : r = ref
      · exact ⟨R0, by rw [hr]; exact hM⟩
      · rw [upd_ne _ _ hr] at h1; exact ⟨_, h1⟩
    have a2 : ∃ R', M r' = some R' := by
      by_cases hr : r' = ref
      · exact ⟨R0, by rw [hr]; exact hM⟩
      · rw [upd_ne _ _ hr] at h2; exact ⟨_, h2⟩
    obtain ⟨R1', a1⟩ := a1
    obtain ⟨R2', a2⟩ := a2
    exact hm.inj r r' R1' R2' L1 L2 x a1 a2 h3 h4 h5 h6
  · by_cases hr : r = ref
    · subst hr; exact hm.own r R0 L' x hM h2 h3
    · rw [upd_ne _ _ hr] at h1; exact hm.own r R' L' x h1 h2 h3

/-! ### a region that has moved -/
mutual
theorem SV.rel_kill {ref : Nat} {Z Z' : Nat → Prop} (hs : ∀ r L, r ≠ ref → σ r = some L → σ' r = some L) (hk : Keep Z Z' w w') : ∀ (s : SV) (y : Value), s.rel σ Z w y → (s.kill ref).rel σ' Z' w' y
  | .r x, y, h => by
    unfold SV.kill
    exact RV.rel_mono hk x y h
  | .ptr q row k fld, y, h => by
    unfold SV.kill
    split
    · trivial
    · rename_i hr
      obtain ⟨L, b, h1, h2, h3⟩ := h
      exact ⟨L, b, hs _ _ hr h1, h2, h3⟩
  | .sl q k lo n c, y, h => by
    unfold SV.kill
    split
    · trivial
    · rename_i hr
      obtain ⟨L, A, h1, h2⟩ := h
      exact ⟨L, A, hs _ _ hr h1, h2⟩
  | .fn f fi ca, y, h => by
    obtain ⟨vs, ws, e, h1, h2⟩ := h
    exact ⟨vs, ws, e, SV.relL_kill hs hk _ _ h1, SV.relL_kill hs hk _ _ h2⟩
  | .agg l, y, h => by
    obtain ⟨vs, e, h1, h2⟩ := h
    exact ⟨vs, e, h1, SV.relL_kill hs hk _ _ h2⟩
  | .tup l, y, h => by
    obtain ⟨vs, e, h2⟩ := h
    exact ⟨vs, e, SV.relL_kill hs hk _ _ h2⟩
theorem SV.relL_kill {ref : Nat} {Z Z' : Nat → Prop} (hs : ∀ r L, r ≠ ref → σ r = some L → σ' r = some L) (hk : Keep Z Z' w w') : ∀ (l : List SV) (ys : List Value), SV.relL σ Z w l ys → SV.relL σ' Z' w' (SV.killL ref l) ys
  | [], ys, h => h
  | s :: l, ys, h => by
    obtain ⟨v, vs', e, h1, h2⟩ := h
    exact ⟨v, vs', e, SV.rel_kill hs hk s v h1, SV.relL_kill hs hk l vs' h2⟩
end

theorem RegOK.kill {ref : Nat} {Z Z' : Nat → Prop} {L : Loc} {R : Reg} (hs : ∀ r L, r ≠ ref → σ r = some L → σ' r = some L) (hk : Keep Z Z' w w') (hb : ∀ b, L.at_ = some b → w'.heap[b]? = w.heap[b]?) (h : RegOK σ Z w L R) : RegOK σ' Z' w' L (R.kill ref) := by
  cases R with
  | box l =>
    obtain ⟨b', cs, ty, h1, h2, h3, h4⟩ := h
    exact ⟨b', cs, ty, h1, (hb _ h1).trans h2, h3, SV.relL_kill hs hk _ _ h4⟩
  | vec e k n g =>
    obtain ⟨h0, hm, h | ⟨b', cs, h1, h2, h3, ho, h5⟩⟩ := h
    · exact ⟨h0, hm, .inl h⟩
    · refine ⟨h0, hm, .inr ⟨b', cs, h1, (hb _ h1).trans h2, h3, ho, fun i j hi hj => ?_⟩⟩
      obtain ⟨v, hv, ho, hr⟩ := h5 i j hi hj
      exact ⟨v, hv, ho, RV.rel_mono hk _ _ hr⟩

/-- Of region 'ref' the block may be another one now (its own old one, or a new one). -/
theorem mem_app (hm : MOK B W n0 σ M F w) (hn0 : n0 ≤ w.heap.size) {ref : Nat} {R0 R : Reg} {L0 L : Loc} (hM : M ref = some R0) (hσ : σ ref = some L0)
    (hsz : w.heap.size ≤ w'.heap.size) (hsame : ∀ x, x < w.heap.size → L0.at_ ≠ some x → w'.heap[x]? = w.heap[x]?)
    (hL : ∀ b, L.at_ = some b → L0.at_ = some b ∨ w.heap.size ≤ b)
    (hR : ∀ σ' Z', Keep (Zof B σ M w) Z' w w' → RegOK σ' Z' w' L R) :
    MOK B W n0 (upd σ ref (some L)) (upd (killM ref M) ref (some R)) F w' ∧ Keep (Zof B σ M w) (Zof B (upd σ ref (some L)) (upd (killM ref M) ref (some R)) w') w w' ∧
    (∀ r L', r ≠ ref → σ r = some L' → upd σ ref (some L) r = some L') := by
  have hs : ∀ r L', r ≠ ref → σ r = some L' → upd σ ref (some L) r = some L' := fun r L' hr h => by rw [upd_ne _ _ hr]; exact h
  have hkm : ∀ r R', killM ref M r = some R' → ∃ R1, M r = some R1 ∧ R' = R1.kill ref := by
    intro r R' h
    unfold killM at h
    cases hq : M r with
    | none => rw [hq] at h; cases h
    | some R1 => rw [hq] at h; cases h; exact ⟨R1, rfl, rfl⟩
  have hk : Keep (Zof B σ M w) (Zof B (upd σ ref (some L)) (upd (killM ref M) ref (some R)) w') w w' := by
    intro x hx
    refine ⟨⟨⟨Nat.lt_of_lt_of_le hx.1.1 hsz, hx.1.2⟩, fun r R' L' h1 h2 h3 => ?_⟩, hsame x hx.1.1 fun e => hm.notZ hM hσ e hx⟩
    by_cases hr : r = ref
    · subst hr
      rw [upd_same] at h2; cases h2
      rcases hL x h3 with h | h
      · exact hm.notZ hM hσ h hx
      · have := hx.1.1; omega
    · rw [upd_ne _ _ hr] at h1 h2
      obtain ⟨R1, e1, _⟩ := hkm r R' h1
      exact hx.2 r R1 L' e1 h2 h3
  refine ⟨⟨hm.newB, fun r hr => by rw [upd_ne _ _ (fun e => by subst e; rw [hm.fresh _ hr] at hσ; cases hσ)]; exact hm.fresh r hr, fun r R' h => ?_, fun r r' R1 R2 L1 L2 x h1 h2 h3 h4 h5 h6 => ?_, fun r R' L' x h1 h2 h3 => ?_⟩, hk, hs⟩
  · by_cases hr : r = ref
    · subst hr
      rw [upd_same] at h; cases h
      exact ⟨L, upd_same .., hR _ _ hk⟩
    · rw [upd_ne _ _ hr] at h
      obtain ⟨R1, e1, rfl⟩ := hkm r R' h
      obtain ⟨L', h1, h2⟩ := hm.reg r R1 e1
      refine ⟨L', hs _ _ hr h1, h2.kill hs hk fun x hx => hsame x (h2.block hx) fun e => ?_⟩
      exact hr (hm.inj r ref R1 R0 L' L0 x e1 hM h1 hσ hx e)
  · by_cases hr : r = ref
    · by_cases hr' : r' = ref
      · omega
      · subst hr
        rw [upd_same] at h3; cases h3
        rw [upd_ne _ _ hr'] at h2 h4
        obtain ⟨R3, e1, _⟩ := hkm r' R2 h2
        rcases hL x h5 with h | h
        · exact hm.inj r r' R0 R3 L0 L2 x hM e1 hσ h4 h h6
        · obtain ⟨L', e2, e3⟩ := hm.reg r' R3 e1
          rw [h4] at e2; cases e2
          have := e3.block h6
          omega
    · by_cases hr' : r' = ref
      · subst hr'
        rw [upd_same] at h4; cases h4
        rw [upd_ne _ _ hr] at h1 h3
        obtain ⟨R3, e1, _⟩ := hkm r R1 h1
        rcases hL x h6 with h | h
        · exact hm.inj r r' R3 R0 L1 L0 x e1 hM h3 hσ h5 h
        · obtain ⟨L', e2, e3⟩ := hm.reg r R3 e1
          rw [h3] at e2; cases e2
          have := e3.block h5
          omega
      · rw [upd_ne _ _ hr] at h1 h3
        rw [upd_ne _ _ hr'] at h2 h4
        obtain ⟨R3, e1, _⟩ := hkm r R1 h1
        obtain ⟨R4, e2, _⟩ := hkm r' R2 h2
        exact hm.inj r r' R3 R4 L1 L2 x e1 e2 h3 h4 h5 h6
  · by_cases hr : r = ref
    · subst hr
      rw [upd_same] at h2; cases h2
      rcases hL x h3 with h | h
      · exact hm.own r R0 L0 x hM hσ h
      · right; omega
    · rw [upd_ne _ _ hr] at h1 h2
      obtain ⟨R3, e1, _⟩ := hkm r R' h1
      exact hm.own r R3 L' x e1 h2 h3
end
end Go.Gx
