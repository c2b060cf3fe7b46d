/-
  Equality of arrays of numbers.
-/
import Derived.Test.YtnajladibkpeaaaK6
import Derived.ChangeKeysEq
set_option linter.unusedVariables false
set_option linter.unusedSimpArgs false
namespace Go.Gx
open Go.RowKit

def eqChkA (P : Program) (t : TypeId) (cs : List CK) : Bool :=
  match P.underlying t with
  | some (.array n e) => decide (cs.length = n) && (cs.all fun c => ekind P e c) && (P.info? e).isSome && decide (P.cellsOf e = 1) && !P.eqGuardType P.depth t
  | _ => false
theorem hasL_get : ∀ {cs : List CK} {xs : List Value}, hasL cs xs → xs.length = cs.length
  | [], xs, h => by simp only [hasL] at h; subst h; rfl
  | c :: cs, xs, h => by
    obtain ⟨x, xs', rfl, _, h2⟩ := h
    simp [hasL_get h2]
theorem eqItems_run {P : Program} (w : World) (d : Nat) (e : TypeId) (xs ys : List Value) : ∀ (cs : List CK) (o : Nat), (∀ c ∈ cs, ekind P e c = true) → hasL cs (xs.drop o) → hasL cs (ys.drop o) →
    (Op.eqItems (d + 1) e 1 xs.toArray ys.toArray (List.range' o cs.length)).run P w = .ok (eqVL (xs.drop o) (ys.drop o)) w
  | [], o, _, hx, hy => by
    simp only [hasL] at hx hy
    rw [hx, hy]; rfl
  | c :: cs, o, h, hx, hy => by
    have h3 := h c (by simp)
    obtain ⟨x, xs', ex, hx1, hx2⟩ := hx
    obtain ⟨y, ys', ey, hy1, hy2⟩ := hy
    have ex' : xs[o]? = some x := by rw [← List.head?_drop, ex]; rfl
    have ey' : ys[o]? = some y := by rw [← List.head?_drop, ey]; rfl
    have dx : xs.drop (o + 1) = xs' := by rw [← List.drop_drop, ex]; rfl
    have dy : ys.drop (o + 1) = ys' := by rw [← List.drop_drop, ey]; rfl
    have ih := eqItems_run w d e xs ys cs (o + 1) (fun c hc => h c (by simp [hc])) (by rw [dx]; exact hx2) (by rw [dy]; exact hy2)
    have hag : (isAgg e).run P w = .ok false w := by
      unfold isAgg
      rw [Sem.run_bind]
      cases c with
      | int k => rw [run_underlying (ekind_int h3)]; rfl
      | bool => rw [run_underlying (ekind_bool h3)]; rfl
    have px : (part e xs.toArray (o * 1)).run P w = .ok x w := by
      unfold part
      rw [Sem.run_bind, hag]
      simp [ex']
    have py : (part e ys.toArray (o * 1)).run P w = .ok y w := by
      unfold part
      rw [Sem.run_bind, hag]
      simp [ey']
    have he : (Op.equalIn (d + 1) e x y).run P w = .ok (eqV x y) w := by
      cases c with
      | int k =>
        obtain ⟨n, rfl⟩ := hx1
        obtain ⟨m, rfl⟩ := hy1
        rw [run_equalIn_int w d e k _ n m (ekind_int h3)]; rfl
      | bool =>
        obtain ⟨n, rfl⟩ := hx1
        obtain ⟨m, rfl⟩ := hy1
        rw [run_equalIn_bool w d e n m (ekind_bool h3)]; rfl
    rw [List.length_cons, List.range'_succ]
    unfold Op.eqItems
    rw [Sem.run_bind, px, Result.andThen_ok, Sem.run_bind, py, Result.andThen_ok, Sem.run_bind, he, Result.andThen_ok]
    rw [ex, ey]
    simp only [eqVL]
    cases hq : eqV x y
    · simp
    · simp only [Bool.not_true, Bool.false_eq_true, if_false, Bool.true_and]
      rw [ih, dx, dy]
theorem eq_of_chkA {P : Program} {t : TypeId} {cs : List CK} (h : eqChkA P t cs = true) (xs ys : List Value) (w : World) (hx : hasL cs xs) (hy : hasL cs ys) :
    (Op.equal t (.agg xs.toArray) (.agg ys.toArray)).run P w = .ok (eqVL xs ys) w ∧ (∀ (op : BinOp) (x y : Operand), (eqGuard op t x y (.agg xs.toArray) (.agg ys.toArray)).run P w = .ok () w) := by
  unfold eqChkA at h
  split at h
  · rename_i n e hu
    simp only [Bool.and_eq_true, Bool.not_eq_true', decide_eq_true_eq, List.all_eq_true] at h
    obtain ⟨⟨⟨⟨h1, h2⟩, h3⟩, h4⟩, h5⟩ := h
    refine ⟨?_, fun op x y => run_eqGuard_agg w op t x y _ _ h5⟩
    obtain ⟨i, hi⟩ := Option.isSome_iff_exists.1 h3
    have := run_equalIn_array w 9999 xs.toArray ys.toArray hu hi
    rw [h4, List.range_eq_range', ← h1, show (9999 : Nat) = 9998 + 1 from rfl, eqItems_run w 9998 e xs ys cs 0 h2 (by simpa using hx) (by simpa using hy)] at this
    simpa [Op.equal, Op.maxDepth] using this
  · cases h
end Go.Gx
