/-
  '==' at structs of integers and bools.
-/
import Derived.Test.YtaggojedpkddjaaGo
import Derived.Laws.StructEq
set_option linter.unusedVariables false
set_option linter.unusedSimpArgs false
namespace Go.Gx
open Go.RowKit

def ekind (P : Program) (t : TypeId) : CK → Bool
  | .int k => match P.underlying t with | some (.int k') => decide (k' = k) | _ => false
  | .bool => match P.underlying t with | some .bool => true | _ => false
def echk (P : Program) : List Field → List CK → Nat → Bool
  | [], [], _ => true
  | f :: fs, c :: cs, o => decide (f.name ≠ "_") && decide (f.offset = o) && ekind P f.type c && echk P fs cs (o + 1)
  | _, _, _ => false
def eqChk (P : Program) (t : TypeId) (cs : List CK) : Bool :=
  (match P.underlying t with | some (.struct fa) => echk P fa.toList cs 0 | _ => false) && !P.stoodInHeld t && !P.eqGuardType P.depth t

theorem ekind_int {P : Program} {t : TypeId} {k : IntKind} (h : ekind P t (.int k) = true) : P.underlying t = some (.int k) := by
  simp only [ekind] at h
  cases hu : P.underlying t with
  | none => rw [hu] at h; simp at h
  | some d => rw [hu] at h; cases d <;> simp_all
theorem ekind_bool {P : Program} {t : TypeId} (h : ekind P t .bool = true) : P.underlying t = some .bool := by
  simp only [ekind] at h
  cases hu : P.underlying t with
  | none => rw [hu] at h; simp at h
  | some d => rw [hu] at h; cases d <;> simp_all

theorem eqFields_run {P : Program} (w : World) (d : Nat) (xs ys : List Value) : ∀ (fs : List Field) (cs : List CK) (o : Nat), echk P fs cs o = true → hasL cs (xs.drop o) → hasL cs (ys.drop o) →
    (Op.eqFields (d + 1) xs.toArray ys.toArray fs).run P w = .ok (eqVL (xs.drop o) (ys.drop o)) w
  | [], [], o, _, hx, hy => by
    simp only [hasL] at hx hy
    rw [hx, hy]; rfl
  | [], _ :: _, o, h, _, _ => by simp [echk] at h
  | _ :: _, [], o, h, _, _ => by simp [echk] at h
  | f :: fs, c :: cs, o, h, hx, hy => by
    simp only [echk, Bool.and_eq_true, decide_eq_true_eq] at h
    obtain ⟨⟨⟨h1, h2⟩, h3⟩, h4⟩ := h
    obtain ⟨x, xs', ex, hx1, hx2⟩ := hx
    obtain ⟨y, ys', ey, hy1, hy2⟩ := hy
    have ex' : xs[o]? = some x := by rw [← List.head?_drop, ex]; rfl
    have ey' : ys[o]? = some y := by rw [← List.head?_drop, ey]; rfl
    have dx : xs.drop (o + 1) = xs' := by rw [← List.drop_drop, ex]; rfl
    have dy : ys.drop (o + 1) = ys' := by rw [← List.drop_drop, ey]; rfl
    have ih := eqFields_run w d xs ys fs cs (o + 1) h4 (by rw [dx]; exact hx2) (by rw [dy]; exact hy2)
    have hag : (isAgg f.type).run P w = .ok false w := by
      unfold isAgg
      rw [Sem.run_bind]
      cases c with
      | int k => rw [run_underlying (ekind_int h3)]; rfl
      | bool => rw [run_underlying (ekind_bool h3)]; rfl
    have px : (part f.type xs.toArray f.offset).run P w = .ok x w := by
      unfold part
      rw [Sem.run_bind, hag, h2]
      simp [ex']
    have py : (part f.type ys.toArray f.offset).run P w = .ok y w := by
      unfold part
      rw [Sem.run_bind, hag, h2]
      simp [ey']
    have he : (Op.equalIn (d + 1) f.type x y).run P w = .ok (eqV x y) w := by
      cases c with
      | int k =>
        obtain ⟨n, rfl⟩ := hx1
        obtain ⟨m, rfl⟩ := hy1
        rw [run_equalIn_int w d f.type k _ n m (ekind_int h3)]; rfl
      | bool =>
        obtain ⟨n, rfl⟩ := hx1
        obtain ⟨m, rfl⟩ := hy1
        rw [run_equalIn_bool w d f.type n m (ekind_bool h3)]; rfl
    unfold Op.eqFields
    rw [if_pos h1, Sem.run_bind, px, Result.andThen_ok, Sem.run_bind, py, Result.andThen_ok, Sem.run_bind, he, Result.andThen_ok]
    rw [ex, ey]
    simp only [eqVL]
    cases hq : eqV x y
    · simp
    · simp only [Bool.not_true, Bool.false_eq_true, if_false, Bool.true_and]
      rw [ih, dx, dy]

theorem eq_of_chk {P : Program} {t : TypeId} {cs : List CK} (h : eqChk P t cs = true) (xs ys : List Value) (w : World) (hx : hasL cs xs) (hy : hasL cs ys) :
    (Op.equal t (.agg xs.toArray) (.agg ys.toArray)).run P w = .ok (eqVL xs ys) w ∧ (∀ (op : BinOp) (x y : Operand), (eqGuard op t x y (.agg xs.toArray) (.agg ys.toArray)).run P w = .ok () w) := by
  unfold eqChk at h
  simp only [Bool.and_eq_true, Bool.not_eq_true'] at h
  obtain ⟨⟨h1, h2⟩, h3⟩ := h
  refine ⟨?_, fun op x y => run_eqGuard_agg w op t x y _ _ h3⟩
  split at h1
  · rename_i fa hu
    have hf : P.fieldsOf t = fa := by unfold Program.fieldsOf; rw [hu]
    have := run_equalIn_struct w 9999 t xs.toArray ys.toArray (by rw [hf]; exact hu) h2
    rw [hf, show (9999 : Nat) = 9998 + 1 from rfl, eqFields_run w 9998 xs ys fa.toList cs 0 h1 (by simpa using hx) (by simpa using hy)] at this
    simpa [Op.equal, Op.maxDepth] using this
  · cases h1
end Go.Gx
