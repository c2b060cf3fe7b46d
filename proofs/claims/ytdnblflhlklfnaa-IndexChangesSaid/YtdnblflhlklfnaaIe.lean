/-
  iris.distance; Match, Distance.
-/
import Derived.Test.YtdnblflhlklfnaaId
set_option linter.unusedVariables false
set_option linter.unusedSimpArgs false
set_option maxRecDepth 20000
set_option maxHeartbeats 4000000
namespace Go.Gx.Ix
open Go.RowKit Go.Proofs Go.Proofs.Ytdnblflhlklfnaa

theorem ds1_le : ∀ n X, ds 1 n X ≤ n
  | 0, _ => Nat.le_refl _
  | n + 1, X => by
    have := ds1_le n (X / 2 ^ 1)
    show X % 2 + ds 1 n (X / 2 ^ 1) ≤ n + 1
    omega
theorem cnt_le (x : BitVec 64) : cnt x ≤ 64 := ds1_le 64 _
theorem IrG.n_le (x y : IrG) (t : Int) : x.n y t ≤ 64 := cnt_le _
theorem IrG.d_le (x y : IrG) (t : Int) : x.d y t ≤ 64 := cnt_le _
/-- The best part so far. -/
structure Pt where
  n : Nat
  d : Nat
  t : Int
def Pt.less (p q : Pt) : Bool := decide (0 < p.d) && (decide (q.d = 0) || decide (p.n * q.d < q.n * p.d))
def pstep (x y : IrG) (b : Pt) (t : Int) : Pt := if 16 ≤ x.d y t ∧ (Pt.mk (x.n y t) (x.d y t) t).less b = true then ⟨x.n y t, x.d y t, t⟩ else b
def distL (x y : IrG) (l : List Int) : Pt := l.foldl (pstep x y) ⟨0, 0, 0⟩
def dist (x y : IrG) (k : Nat) : Pt := distL x y (ordP (k + 1))
theorem distL_snoc (x y : IrG) (l : List Int) (t : Int) : distL x y (l ++ [t]) = pstep x y (distL x y l) t := by simp [distL]
structure Pt.Sm (p : Pt) : Prop where
  n : p.n ≤ 64
  d : p.d ≤ 64
theorem pstep_le (x y : IrG) {b : Pt} (t : Int) (h : b.Sm) : (pstep x y b t).Sm := by
  unfold pstep
  split
  · have h1 := x.n_le y t
    have h2 := x.d_le y t
    generalize x.n y t = a at h1
    generalize x.d y t = b at h2
    exact ⟨h1, h2⟩
  · exact h
theorem foldl_sm (x y : IrG) (l : List Int) : ∀ b : Pt, b.Sm → (l.foldl (pstep x y) b).Sm := by
  induction l with
  | nil => intro b h; rw [List.foldl_nil]; exact h
  | cons t l ih => intro b h; rw [List.foldl_cons]; exact ih _ (pstep_le x y t h)
theorem distL_le (x y : IrG) (l : List Int) : (distL x y l).Sm := foldl_sm x y l _ ⟨Nat.zero_le _, Nat.zero_le _⟩
abbrev Pt.sv (p : Pt) : SV := .agg [.i p.n, .i p.d, .i p.t]
theorem Pt.less_iff (p q : Pt) : p.less q = (decide ((0 : Int) < p.d) && (decide ((q.d : Int) = 0) || decide ((p.n : Int) * q.d < q.n * p.d))) := by
  unfold Pt.less
  have e1 : ((0 : Int) < p.d) = (0 < p.d) := by simp
  have e2 : ((q.d : Int) = 0) = (q.d = 0) := by simp
  have e3 : ((p.n : Int) * q.d < q.n * p.d) = (p.n * q.d < q.n * p.d) := by
    rw [← Int.natCast_mul, ← Int.natCast_mul, Int.ofNat_lt]
  simp only [e1, e2, e3]
theorem mul_le64 {a b : Nat} (ha : a ≤ 64) (hb : b ≤ 64) : inr .i64 ((a : Int) * b) := by
  have h : a * b ≤ 64 * 64 := Nat.mul_le_mul ha hb
  have e : ((a : Int) * b) = ((a * b : Nat) : Int) := by simp
  rw [e]
  simp only [inr]; omega
theorem distance71 (x y : IrG) (k : Nat) (hk : k ≤ 7) : Pure Try.prog 71 [x.sv, y.sv, .i k] (· = (dist x y k).sv) := by
  refine pure_of_GC T_ok Try.func71 rfl (by kernel_rfl) (Nat.le_of_ble_eq_true rfl) rfl rfl ?_
  simp [go_sem]
  refine callK_own [] (orders89 k) (by simp) rfl trivial ?_
  simp [go_sem]
  refine GRange_pre (GSt.freeze 4 rfl) ?_
  refine GRange_p T_ok (fun t : Int => [SV.i t]) (ordP (k + 1)) 4 (fun pre M nx => M 0 = some (.box [.w x.c, .w x.m]) ∧ M 1 = some (.box [.w y.c, .w y.m]) ∧ M 2 = some (.box [.i 0, .i 0, .i 0]) ∧
      M 3 = some (.box [.i (distL x y pre).n, .i (distL x y pre).d, .i (distL x y pre).t]) ∧ 4 ≤ nx)
    (gf := 102) (ca := [.r (.rp 1 1 (gbox [.i k]) 0 0)]) ?_ (orders102 k hk _ rfl) (fun _ => rfl) (by simp) ⟨by kernel_rfl, by kernel_rfl⟩ rfl (Nat.zero_le _) (by decide) ?_ ?_ ?_ ?_
  · simp [go_sem]
  · simp [go_sem, distL]
  · rintro pre M nx R hn ⟨h0, h1, h2, h3, h4⟩
    have e0 : ¬ 0 = nx := by omega
    have e1 : ¬ 1 = nx := by omega
    have e2 : ¬ 2 = nx := by omega
    have e3 : ¬ 3 = nx := by omega
    simp [go_sem, e0, e1, e2, e3, h0, h1, h2, h3]
    omega
  · rintro pre t hpre M nx hn ⟨h0, h1, h2, h3, h4⟩
    have e0 : ¬ 0 = nx := by omega
    have e1 : ¬ 1 = nx := by omega
    have e2 : ¬ 2 = nx := by omega
    have e3 : ¬ 3 = nx := by omega
    simp [go_sem]
    refine GDraw_all T_ok (by kernel_rfl) (by kernel_rfl) ?_
    simp [go_sem, h0, h1]
    have hc : Pure Try.prog 88 [.agg [.w (turnW x.c t), .w (turnW x.m t)], y.sv] (· = .tup [.i (x.n y t), .i (x.d y t)]) := compare88 (turnW x.c t) (turnW x.m t) y.c y.m
    have hsn := distL_snoc x y pre t
    have hle := distL_le x y pre
    have l1 := x.n_le y t
    have l2 := x.d_le y t
    unfold pstep at hsn
    rw [hsn]
    clear hsn
    generalize distL x y pre = b at *
    generalize x.n y t = a at *
    generalize x.d y t = dd at *
    have hl := less90 a dd t b.n b.d b.t (mul_le64 l1 hle.d) (mul_le64 hle.n l2)
    rw [← Pt.less_iff ⟨a, dd, t⟩ b] at hl
    refine ⟨by omega, _, dcall_val (turn87 x.c x.m t) rfl rfl, by omega, by simp [SV.refs, SV.refsL], _, dcall_val hc rfl rfl, by simp [SV.refs, SV.refsL], ?_⟩
    by_cases d1 : 16 ≤ dd
    · have d1' : (16 : Int) ≤ dd := by omega
      simp [go_sem, e0, e1, e2, e3, h0, h1, h2, h3, d1']
      refine call_val hl rfl rfl ?_
      cases hb : Pt.less ⟨a, dd, t⟩ b
      · simp [go_sem, e0, e1, e2, e3, h0, h1, h2, h3]
        omega
      · simp [go_sem, e0, e1, e2, e3, h0, h1, h2, h3, d1]
        omega
    · have d1' : ¬ (16 : Int) ≤ dd := by omega
      simp [go_sem, e0, e1, e2, e3, h0, h1, h2, h3, d1, d1']
      omega
  · rintro M nx hn ⟨h0, h1, h2, h3, h4⟩
    simp [go_sem, h0, h1, h2, h3]
    exact ⟨rfl, rfl, rfl⟩

def mE (x y : IrG) (turns num den : Int) : Int := if x.ok && y.ok then if btw 0 7 turns && vL num den then 0 else 2 else 30
theorem vL_eq (num den : Int) : vL num den = (btw 1 1000 den && btw 0 den num) := by unfold vL; exact Bool.and_comm ..
/-- Valid codes match. -/
def matB (x y : IrG) (k : Nat) (num den : Int) : Bool := decide (0 < (dist x y k).d) && decide ((dist x y k).n * den ≤ num * (dist x y k).d)
theorem match39 (x y : IrG) (turns num den : Int) : Pure Try.prog 39 [x.sv, y.sv, .i turns, .agg [.i num, .i den]] (· = .tup [.b (decide (mE x y turns num den = 0) && matB x y turns.toNat num den), .i (mE x y turns num den)]) := by
  refine pure_of_GC T_ok Try.func39 rfl (by kernel_rfl) (Nat.le_of_ble_eq_true rfl) rfl rfl ?_
  simp [go_sem]
  refine call_lent (v := .b (x.ok && y.ok)) (by simp [go_sem]; refine valid2 x y _ (fun j hj => ?_) (fun j hj => ?_) <;> rcases (show j = 0 ∨ j = 1 by omega) with rfl | rfl <;> rfl) rfl ?_
  cases hx : x.ok && y.ok
  · simp [go_sem, mE, hx]
  simp [go_sem]
  refine call_val (within70 turns 0 7) rfl rfl ?_
  cases hb : btw 0 7 turns
  · simp [go_sem, mE, hx, hb]
  simp [go_sem]
  refine call_val (within70 den 1 1000) rfl rfl ?_
  cases hb2 : btw 1 1000 den
  · simp [go_sem, mE, hx, hb, vL_eq, hb2]
  simp [go_sem]
  refine call_val (within70 num 0 den) rfl rfl ?_
  cases hb3 : btw 0 den num
  · simp [go_sem, mE, hx, hb, vL_eq, hb2, hb3]
  simp [go_sem]
  have hv : mE x y turns num den = 0 := by simp [mE, hx, hb, vL_eq, hb2, hb3]
  simp only [btw, Bool.and_eq_true, decide_eq_true_eq] at hb hb2 hb3
  obtain ⟨k, rfl⟩ : ∃ k : Nat, turns = k := ⟨turns.toNat, by omega⟩
  have hle : (dist x y k).Sm := distL_le x y (ordP (k + 1))
  have hdi := distance71 x y k (by omega)
  obtain ⟨p, hp⟩ : ∃ p, dist x y k = p := ⟨_, rfl⟩
  have hm : matB x y (k : Int).toNat num den = (decide (0 < p.d) && decide (p.n * den ≤ num * p.d)) := by rw [Int.toNat_natCast]; unfold matB; rw [hp]
  rw [hp] at hle hdi
  simp only [hv, hm]
  refine call_val hdi rfl rfl ?_
  have h1 : -64000 ≤ (p.n : Int) * den ∧ (p.n : Int) * den ≤ 64000 := by
    have := hle.n
    have a1 : 0 ≤ (p.n : Int) * den := Int.mul_nonneg (by omega) (by omega)
    have a2 : (p.n : Int) * den ≤ 64 * 1000 := Int.mul_le_mul (by omega) (by omega) (by omega) (by omega)
    omega
  have h2 : -64000 ≤ num * (p.d : Int) ∧ num * (p.d : Int) ≤ 64000 := by
    have := hle.d
    have a1 : 0 ≤ num * (p.d : Int) := Int.mul_nonneg (by omega) (by omega)
    have a2 : num * (p.d : Int) ≤ 1000 * 64 := Int.mul_le_mul (by omega) (by omega) (by omega) (by omega)
    omega
  by_cases hd : 0 < p.d
  · simp [go_sem, hd]
    omega
  · simp [go_sem, hd]
def dE (x y : IrG) (turns : Int) : Int := if x.ok && y.ok then if btw 0 7 turns then if (dist x y turns.toNat).d = 0 then 6 else 0 else 2 else 30
theorem distance42 (x y : IrG) (turns : Int) : Pure Try.prog 42 [x.sv, y.sv, .i turns]
    (· = .tup [.i (if dE x y turns = 0 then (dist x y turns.toNat).n else 0 : Nat), .i (if dE x y turns = 0 then (dist x y turns.toNat).d else 0 : Nat), .i (if dE x y turns = 0 then (dist x y turns.toNat).t else 0), .i (dE x y turns)]) := by
  refine pure_of_GC T_ok Try.func42 rfl (by kernel_rfl) (Nat.le_of_ble_eq_true rfl) rfl rfl ?_
  simp [go_sem]
  refine call_lent (v := .b (x.ok && y.ok)) (by simp [go_sem]; refine valid2 x y _ (fun j hj => ?_) (fun j hj => ?_) <;> rcases (show j = 0 ∨ j = 1 by omega) with rfl | rfl <;> rfl) rfl ?_
  cases hx : x.ok && y.ok
  · simp [go_sem, dE, hx]
  simp [go_sem]
  refine call_val (within70 turns 0 7) rfl rfl ?_
  cases hb : btw 0 7 turns
  · simp [go_sem, dE, hx, hb]
  simp [go_sem]
  have hb' := hb
  simp only [btw, Bool.and_eq_true, decide_eq_true_eq] at hb'
  obtain ⟨k, rfl⟩ : ∃ k : Nat, turns = k := ⟨turns.toNat, by omega⟩
  have hdi := distance71 x y k (by omega)
  obtain ⟨p, hp⟩ : ∃ p, dist x y k = p := ⟨_, rfl⟩
  have hm : dE x y (k : Int) = if p.d = 0 then 6 else 0 := by unfold dE; rw [Int.toNat_natCast, hp, hx, hb]; simp
  rw [hp] at hdi
  simp only [hm, Int.toNat_natCast, hp]
  refine call_val hdi rfl rfl ?_
  by_cases hd : p.d = 0
  · simp [go_sem, hd]
  · have hd' : ¬ (p.d : Int) = 0 := by omega
    simp [go_sem, hd, hd']
    refine GDraw_all T_ok (by kernel_rfl) (by kernel_rfl) ?_
    simp [go_sem]
end Go.Gx.Ix
