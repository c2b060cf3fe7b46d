/-
  Each operation does what 'gop' says: arithmetic, slices, fields, indices, new variables, stores.
-/
import Derived.Test.YtaggojedpkddjaaGe
set_option linter.unusedVariables false
set_option linter.unusedSimpArgs false
namespace Go.Gx
open Go.RowKit

section
variable {P : Program} {T : Tab} {B W F : Nat → Prop} {n0 : Nat} {σ : Sig} {M : Mem} {nx : Nat} {w : World} {a : Act} {E : Env}

/-- A value's run as an operation's. -/
def vrun (r : Result Value) : Result Next := r.andThen fun v w' => .ok (.value v) w'
theorem vrun_ok (v : Value) (w : World) : vrun (.ok v w) = .ok (.value v) w := rfl

theorem POut.val {s : SV} {y : Value} (h : s.rel σ (Zof B σ M w) w y) : POut B σ M w (.ok (.value y) w) s := ⟨y, .inl rfl, h⟩
theorem POut.of {s : SV} {y : Value} {r : Result Value} (hr : r = .ok y w) (h : s.rel σ (Zof B σ M w) w y) : POut B σ M w (vrun r) s := ⟨y, .inl (by rw [hr]; rfl), h⟩

theorem eqGuard_scalar (op : BinOp) (t : TypeId) (x y : Operand) (u v : Value) (hu : ∀ c, u ≠ .agg c) (hn : u ≠ .nilIface) : (eqGuard op t x y u v).run P w = .ok () w := by
  unfold eqGuard
  by_cases h : (op matches .eql | .neq) = true
  · cases op <;> simp at h <;> (cases u <;> cases v <;> simp_all)
  · cases op <;> simp_all

theorem snd_bin (op : BinOp) (t : TypeId) (ox oy : Operand) {s s' : SV} {x y : Value} (hx : s.rel σ (Zof B σ M w) w x) (hy : s'.rel σ (Zof B σ M w) w y) :
    Snd P B W n0 σ M F nx w (vrun ((do eqGuard op t ox oy x y; binOp op t x y : Sem Value).run P w)) (gbin op s s') := by
  unfold gbin
  split
  all_goals first | trivial | skip
  all_goals (cases hx; cases hy)
  all_goals (intro ob; rw [Sem.run_bind, eqGuard_scalar _ t ox oy _ _ (by simp) (by simp), Result.andThen_ok])
  · exact POut.of (by simp [binOp, Op.shift, ob, Int.not_lt.2 ob]) rfl
  · exact POut.of (by simp [binOp, Op.shift, ob, Int.not_lt.2 ob]) rfl
  · obtain ⟨rfl, h⟩ := ob; exact POut.of (by simp [binOp, Op.intArith, wrap_inr h]) rfl
  · obtain ⟨rfl, h⟩ := ob; exact POut.of (by simp [binOp, Op.intArith, wrap_inr h]) rfl
  · obtain ⟨rfl, h⟩ := ob; exact POut.of (by simp [binOp, Op.intArith, wrap_inr h]) rfl
  · obtain ⟨rfl, h0, h⟩ := ob; exact POut.of (by simp [binOp, Op.intDiv, h0, wrap_inr h]) rfl
  · obtain ⟨rfl, h0⟩ := ob; exact POut.of (by simp [binOp, Op.intDiv, h0]) rfl
  · subst ob; exact POut.of (by simp [binOp, Op.intCmp]; rfl) rfl
  · subst ob; exact POut.of (by simp [binOp, Op.intCmp]; rfl) rfl
  · subst ob; exact POut.of (by simp [binOp, Op.intCmp]) rfl
  · subst ob; exact POut.of (by simp [binOp, Op.intCmp]) rfl
  · subst ob; exact POut.of (by simp [binOp, Op.intCmp]) rfl
  · subst ob; exact POut.of (by simp [binOp, Op.intCmp]) rfl

theorem scal_rel {Z : Nat → Prop} : ∀ {cs : List CK} {xs : List SV} {us vs : List Value}, scal cs xs = some us → SV.relL σ Z w xs vs → us = vs ∧ hasL cs vs
  | [], [], us, vs, h, hr => by
    simp [scal] at h; subst h
    cases hr; exact ⟨rfl, rfl⟩
  | [], _ :: _, us, vs, h, hr => by simp [scal] at h
  | c :: cs, [], us, vs, h, hr => by cases c <;> simp [scal] at h
  | .int k :: cs, x :: xs, us, vs, h, hr => by
    obtain ⟨v, vs', rfl, h1, h2⟩ := hr
    cases x with
    | r x => cases x with
      | v x => cases x with
        | int k' n =>
          simp only [scal] at h
          split at h
          · rename_i hk; subst hk
            cases hq : scal cs xs with
            | none => rw [hq] at h; simp at h
            | some l =>
              rw [hq] at h; simp at h; subst h
              obtain ⟨e1, e2⟩ := scal_rel hq h2
              cases h1
              exact ⟨by rw [e1], _, _, rfl, ⟨n, rfl⟩, e2⟩
          · simp at h
        | _ => simp [scal] at h
      | _ => simp [scal] at h
    | _ => simp [scal] at h
  | .bool :: cs, x :: xs, us, vs, h, hr => by
    obtain ⟨v, vs', rfl, h1, h2⟩ := hr
    cases x with
    | r x => cases x with
      | v x => cases x with
        | bool b =>
          simp only [scal] at h
          cases hq : scal cs xs with
          | none => rw [hq] at h; simp at h
          | some l =>
            rw [hq] at h; simp at h; subst h
            obtain ⟨e1, e2⟩ := scal_rel hq h2
            cases h1
            exact ⟨by rw [e1], _, _, rfl, ⟨b, rfl⟩, e2⟩
        | _ => simp [scal] at h
      | _ => simp [scal] at h
    | _ => simp [scal] at h

theorem und_sliceK (hT : TabOK P T) {t : TypeId} (ob : ((T.ti t).map (·.kind)).any (fun | .slice _ => true | _ => false) = true) : ∃ e, P.underlying t = some (.slice e) := by
  cases ht : T.ti t with
  | none => rw [ht] at ob; simp at ob
  | some i =>
    rw [ht] at ob
    simp only [Option.map_some, Option.any_some] at ob
    cases hk : i.kind with
    | slice e => exact ⟨e, und_slice (hT.ti t i ht) hk⟩
    | _ => rw [hk] at ob; simp at ob

theorem run_eq_nil {t e : TypeId} (h : P.underlying t = some (.slice e)) (A : Option Addr) (n c : Nat) : (Op.equal t (.slice A n c) (.slice none 0 0)).run P w = .ok A.isNone w := by
  have key : ∀ d, (Op.equalIn (d + 1) t (.slice A n c) (.slice none 0 0)).run P w = .ok A.isNone w := by
    intro d
    cases A <;> simp [Op.equalIn, run_underlying h]
  exact key 9999

theorem eqGuard_slice (op : BinOp) (t : TypeId) (x y : Operand) (A : Option Addr) (n c : Nat) (v : Value) : (eqGuard op t x y (.slice A n c) v).run P w = .ok () w :=
  eqGuard_scalar op t x y _ _ (by simp) (by simp)

theorem snd_eq (hT : TabOK P T) (neg : Bool) (op : BinOp) (hop : op = if neg then .neq else .eql) (t : TypeId) (ox oy : Operand) {s s' : SV} {x y : Value} (hx : s.rel σ (Zof B σ M w) w x) (hy : s'.rel σ (Zof B σ M w) w y) :
    Snd P B W n0 σ M F nx w (vrun ((do eqGuard op t ox oy x y; binOp op t x y : Sem Value).run P w)) (geq T t s s' neg) := by
  have hb : ∀ (b : Bool), (∀ k n, x ≠ .int k n) → (∀ k n, x ≠ .float k n) → (∀ k n m, x ≠ .complex k n m) → (∀ s, x ≠ .string s) → (Op.equal t x y).run P w = .ok b w → (eqGuard op t ox oy x y).run P w = .ok () w →
      (do eqGuard op t ox oy x y; binOp op t x y : Sem Value).run P w = .ok (.bool (if neg then !b else b)) w := by
    intro b h1 h2 h3 h4 h5 h6
    rw [Sem.run_bind, h6, Result.andThen_ok]
    subst hop
    cases neg <;> cases x <;> simp_all [binOp]
  unfold geq
  split
  · rename_i a b
    cases hx; cases hy
    intro ob
    have hu : P.underlying t = some .bool := by
      cases ht : T.ti t with
      | none => rw [ht] at ob; simp at ob
      | some i => rw [ht] at ob; simp at ob; exact und_bool (hT.ti t i ht) ob
    refine POut.of (hb (a == b) (by simp) (by simp) (by simp) (by simp) (run_equal_bool w t a b hu) (eqGuard_scalar _ _ _ _ _ _ (by simp) (by simp))) ?_
    cases neg <;> simp [SV.rel, RV.rel] <;> rfl
  · rename_i xs ys
    obtain ⟨us, rfl, _, hl⟩ := hx
    obtain ⟨vs, rfl, _, hl'⟩ := hy
    split
    · rename_i cs hcs
      split
      · rename_i us' vs' h1 h2
        obtain ⟨rfl, e1⟩ := scal_rel h1 hl
        obtain ⟨rfl, e2⟩ := scal_rel h2 hl'
        intro _
        have h3 := hT.eq t cs hcs us' vs' w e1 e2
        refine POut.of (hb (eqVL us' vs') (by simp) (by simp) (by simp) (by simp) h3.1 (h3.2 _ _ _)) ?_
        cases neg <;> rfl
      · trivial
    · trivial
  · rename_i k n get
    cases hy
    obtain ⟨A, c, rfl, hc, hA⟩ := hx
    intro ob
    obtain ⟨e, hu⟩ := und_sliceK hT ob
    refine POut.of (hb A.isNone (by simp) (by simp) (by simp) (by simp) (run_eq_nil hu A n c) (eqGuard_slice ..)) ?_
    refine ⟨_, fun h => ?_, rfl⟩
    have h' : A.isNone = true := by cases neg <;> simpa using h
    rcases Nat.eq_zero_or_pos n with h0 | h0
    · exact h0
    · obtain ⟨b, o, e1, _⟩ := hA h0
      rw [e1] at h'; simp at h'
  · rename_i ref k lo n c
    cases hy
    obtain ⟨L, A, h1, rfl, hc, _, hA, _⟩ := hx
    intro ob
    obtain ⟨e, hu⟩ := und_sliceK hT ob
    refine POut.of (hb A.isNone (by simp) (by simp) (by simp) (by simp) (run_eq_nil hu A n _) (eqGuard_slice ..)) ?_
    refine ⟨_, fun h => ?_, rfl⟩
    have h' : A.isNone = true := by cases neg <;> simpa using h
    rcases Nat.eq_zero_or_pos n with h0 | h0
    · exact h0
    · obtain ⟨b, e0, e1⟩ := hA (by omega)
      rw [e1] at h'; simp at h'
  · cases hx; cases hy
    intro ob
    obtain ⟨e, hu⟩ := und_sliceK hT ob
    refine POut.of (hb true (by simp) (by simp) (by simp) (by simp) (run_eq_nil hu none 0 0) (eqGuard_slice ..)) ?_
    cases neg <;> rfl
  · trivial
end
end Go.Gx
