/-
  Seat Z of Index: search7, nearest10, the reference's Pairs; IndexSearches.
-/
import Derived.Test.YtdnblflhlklfnaaGreatZc
set_option linter.unusedVariables false
set_option linter.unusedSimpArgs false
set_option maxRecDepth 20000
set_option maxHeartbeats 4000000
namespace Go.Gx.Ix
open Go.RowKit Go.Proofs Go.Proofs.YtdnblflhlklfnaaGreat

theorem search7 (x : IxG) (h : x.Sm) (b : IrG) (turns num den : Int) : Pure Tryz.prog 7 [x.sv, b.sv, .i turns, .agg [.i num, .i den]] (· = .tup [.agg [ils (srIds x b turns num den), .i (srSn x b turns num den)], .i (srE x b turns num den)]) := by
  obtain ⟨e, he⟩ : ∃ e, srE x b turns num den = e := ⟨_, rfl⟩
  have hI : srIds x b turns num den = if e = 0 then fndM x.ms b turns.toNat num.toNat den.toNat else [] := by unfold srIds; rw [he]
  have hS : srSn x b turns num den = if e = 0 then snM x.ms b turns.toNat num.toNat den.toNat else 0 := by unfold srSn; rw [he]
  rw [he, hI, hS]
  refine pure_ofLe ?_
  refine pure_of_GC T_ok Tryz.func7 rfl (by kernel_rfl) (Nat.le_of_ble_eq_true rfl) rfl rfl ?_
  have hv := valid59 x h
  have nilF : ∀ e : Int, (SV.tup [.agg [nilS, .i 0], .i e]).le (.tup [.agg [ils [], .i 0], .i e]) := fun e => le_tup ⟨le_agg ⟨le_r (nil_rs 1 _), SV.le.rfl, trivial⟩, SV.le.rfl, trivial⟩
  simp [go_sem, sv_ixC] at hv ⊢
  refine call_val hv rfl rfl ?_
  cases hx : validX x
  · have e1 : e = 40 := by rw [← he, srE, if_pos hx]
    subst e1
    simp [go_sem]
    exact nilF 40
  have em : e = mE b b turns num den := by rw [← he, srE, if_neg (by rw [hx]; simp)]
  simp [go_sem]
  refine call_val (valid34 b.c b.m) rfl rfl ?_
  have hok : vI b.c b.m = b.ok := rfl
  rw [hok]
  cases hb : b.ok
  · have e1 : e = 30 := by rw [em, mE, hb]; rfl
    subst e1
    simp [go_sem]
    exact nilF 30
  simp [go_sem]
  refine call_val (within53 turns 0 7) rfl rfl ?_
  cases ht : btw 0 7 turns
  · have e1 : e = 2 := by rw [em, mE, hb, ht]; rfl
    subst e1
    simp [go_sem]
    exact nilF 2
  simp [go_sem]
  refine call_val (limit35 num den) rfl rfl ?_
  cases hl : vL num den
  · have e1 : e = 2 := by rw [em, mE, hb, ht, hl]; rfl
    subst e1
    simp [go_sem]
    exact nilF 2
  have e1 : e = 0 := by rw [em, mE, hb, ht, hl]; rfl
  obtain ⟨_, _, k2, k3, k4⟩ := mE_ok (em.symm.trans e1)
  subst e1
  obtain ⟨v1, v2, v3⟩ := valid_eq hx
  obtain ⟨n, rfl⟩ : ∃ n : Nat, turns = n := ⟨turns.toNat, by omega⟩
  obtain ⟨nm, rfl⟩ : ∃ n : Nat, num = n := ⟨num.toNat, by omega⟩
  obtain ⟨dn, rfl⟩ : ∃ n : Nat, den = n := ⟨den.toNat, by omega⟩
  have hs := searched28 x.ms v1.len b n (by omega) nm dn (by omega) (by omega) (by omega)
  simp [go_sem]
  refine call_val hs rfl rfl ?_
  simp [go_sem]
  exact SV.le.rfl
theorem nst_neg (g : Nat → IrG) (b : IrG) (n : Nat) : ∀ k, (nst g b n k).2 < 0 ↔ (nst g b n k).1.d = 0
  | k => by
    obtain ⟨h1, h2⟩ := nst_nb g b n k
    rcases h1 with ⟨k1, k2⟩ | ⟨i, k1, k2, k3, k4⟩
    · rw [h2, k1]; simp
    · rw [k1] at h2 ⊢
      rw [if_neg (by omega), Int.toNat_natCast] at h2
      rw [h2]
      simp only at k3
      constructor
      · intro h; omega
      · intro h; omega
/-- The number at a place, or -1. -/
def idN (ms : List MbG) (q : Int) : Int := if q < 0 then -1 else (ms[q.toNat]!).id
theorem idN_no (ms : List MbG) {q : Int} (h : q < 0) : idN ms q = -1 := if_pos h
theorem idN_nat (ms : List MbG) (k : Nat) : idN ms (k : Int) = (ms[k]!).id := by unfold idN; rw [if_neg (by omega), Int.toNat_natCast]
theorem nearest10 (x : IxG) (h : x.Sm) (b : IrG) (turns : Int) : Pure Tryz.prog 10 [x.sv, b.sv, .i turns] (· = .tup [.i (nrI x b turns), .i (nrE x b turns)]) := by
  obtain ⟨e, he⟩ : ∃ e, nrE x b turns = e := ⟨_, rfl⟩
  obtain ⟨r, hr⟩ : ∃ r, nrI x b turns = r := ⟨_, rfl⟩
  have hr0 : e ≠ 0 → r = 0 := fun h => by rw [← hr, nrI, he, if_neg h]
  rw [he, hr]
  refine pure_of_GC T_ok Tryz.func10 rfl (by kernel_rfl) (Nat.le_of_ble_eq_true rfl) rfl rfl ?_
  have hv := valid59 x h
  simp [go_sem, sv_ixC] at hv ⊢
  refine call_val hv rfl rfl ?_
  cases hx : validX x
  · have e1 : e = 40 := by rw [← he, nrE, if_pos hx]
    have r1 := hr0 (by omega)
    subst e1 r1
    simp [go_sem]
  have em : e = if mE b b turns 0 1 = 0 then if nrAt x.ms b turns.toNat < 0 then 6 else 0 else mE b b turns 0 1 := by rw [← he, nrE, if_neg (by rw [hx]; simp)]
  simp [go_sem]
  refine call_val (valid34 b.c b.m) rfl rfl ?_
  have hok : vI b.c b.m = b.ok := rfl
  rw [hok]
  cases hb : b.ok
  · have m1 : mE b b turns 0 1 = 30 := by rw [mE, hb]; rfl
    have e1 : e = 30 := by rw [em, m1]; rfl
    have r1 := hr0 (by omega)
    subst e1 r1
    simp [go_sem]
  simp [go_sem]
  refine call_val (within53 turns 0 7) rfl rfl ?_
  cases ht : btw 0 7 turns
  · have m1 : mE b b turns 0 1 = 2 := by rw [mE, hb, ht]; rfl
    have e1 : e = 2 := by rw [em, m1]; rfl
    have r1 := hr0 (by omega)
    subst e1 r1
    simp [go_sem]
  have m1 : mE b b turns 0 1 = 0 := by rw [mE, hb, ht]; rfl
  rw [m1, if_pos rfl] at em
  obtain ⟨_, _, k2, _, _⟩ := mE_ok m1
  obtain ⟨v1, v2, v3⟩ := valid_eq hx
  obtain ⟨n, rfl⟩ : ∃ n : Nat, turns = n := ⟨turns.toNat, by omega⟩
  rw [Int.toNat_natCast] at em
  have hlen := v1.len
  have hun : (nst (cdM x.ms) b n x.ms.length).2 = nrP x.ms b n := NB.uniq (nst_nb (cdM x.ms) b n x.ms.length).1 (nr_nb x.ms b n)
  have hP : nrP x.ms b n = if nrAt x.ms b n < 0 then -1 else (((nrL x.ms b n ((x.ms.length + 63) / 64))[(nrAt x.ms b n).toNat]! : Nat) : Int) := rfl
  simp [go_sem]
  refine GLoop_s T_ok (α := Nat) (fun k => [(2, .i n), (3, .ptr 0 0 9 0), (4, .ptr 1 0 2 0), (8, .i (nst (cdM x.ms) b n k).1.n), (9, .i (if (nst (cdM x.ms) b n k).1.d = 0 then 1 else (nst (cdM x.ms) b n k).1.d : Nat)), (10, .i (idN x.ms (nst (cdM x.ms) b n k).2)), (11, .i k)])
    (fun _ => [some (.box (ixC x)), some (.box [.w b.c, .w b.m])]) 2 (fun k => k ≤ x.ms.length) (fun k => x.ms.length - k) 0 (fun _ => rfl) (by simp) (by simp [go_sem, nst, idN]) (by simp [go_sem]) ?_
  intro k J hk
  by_cases hkl : k < x.ms.length
  · have r0 := mrow hkl 0
    have r1 := mrow hkl 1
    have r2 := mrow hkl 2
    have hf := far32 x.ms[k].x b n (by omega)
    unfold farS at hf
    have hcd : cdM x.ms k = x.ms[k].x := by unfold cdM; rw [getElem!_pos x.ms k hkl]
    have hsu : nst (cdM x.ms) b n (k + 1) = if (dist (cdM x.ms k) b n).less (nst (cdM x.ms) b n k).1 = true then (dist (cdM x.ms k) b n, (k : Int)) else nst (cdM x.ms) b n k := rfl
    rw [hcd] at hsu
    have hng := nst_neg (cdM x.ms) b n k
    have hlt := nst_lt (cdM x.ms) b n k
    have hsm1 : (dist x.ms[k].x b n).Sm := distL_le _ _ _
    have hsm2 := nst_sm (cdM x.ms) b n k
    have hids : ∀ i : Nat, i < x.ms.length → 0 ≤ (x.ms[i]!).id := fun i hi => by
      rw [getElem!_pos x.ms i hi]
      have := v1.num _ (List.getElem_mem hi)
      simp [okN, btw] at this
      exact this.1
    have hge : x.ms[k]! = x.ms[k] := getElem!_pos x.ms k hkl
    generalize nst (cdM x.ms) b n k = q at *
    generalize dist x.ms[k].x b n = d at *
    generalize x.ms[k] = a at *
    simp [go_sem, hkl]
    have hq2 : idN x.ms q.2 < 0 ↔ q.1.d = 0 := by
      rw [← hng]
      constructor
      · intro h
        rcases Int.lt_or_le q.2 0 with h2 | h2
        · exact h2
        · obtain ⟨i, hi⟩ : ∃ i : Nat, q.2 = i := ⟨q.2.toNat, by omega⟩
          rw [hi, idN_nat] at h
          have := hids i (by omega)
          omega
      · intro h
        rw [idN_no _ h]; decide
    have hka : idN x.ms (k : Int) = a.id := by rw [idN_nat, hge]
    obtain ⟨z, hz⟩ : ∃ z, idN x.ms q.2 = z := ⟨_, rfl⟩
    rw [hz] at hq2 ⊢
    refine GDraw_l (t := (.take 0 (.take 1 (.take 2 (.take 3 (.take 4 (.take 5 (.take 6 (.take 7 (.alt 8 [7, 6, 5, 4, 3, 2, 1, 0] (.take 9 (.take 10 (.take 11 (.take 12 (.take 13 (.take 14 (.take 15 (.take 16 (.take 17 (.done [17, 16, 15, 14, 13, 12, 11, 10, 9, 4, 3, 2, 1, 0])))))))))) .nil)))))))))) T_ok (by kernel_rfl) (by kernel_rfl) (by kernel_rfl) (fun _ _ _ _ h => h) ?_
    simp [go_sem, hkl, r0, r1, r2]
    refine call_val hf rfl rfl ?_
    by_cases hd0 : d.d = 0
    · have hls : d.less q.1 = false := by unfold Pt.less; simp [hd0]
      rw [hls, if_neg (by simp)] at hsu
      simp [go_sem, hd0]
      refine ⟨hkl, by omega, k + 1, by omega, by omega, ?_⟩
      rw [hsu, hz]
      exact ⟨rfl, rfl, rfl, by omega⟩
    have hd1 : 0 < d.d := by omega
    by_cases hq0 : q.1.d = 0
    · have hls : d.less q.1 = true := by unfold Pt.less; simp [hd1, hq0]
      rw [hls, if_pos rfl] at hsu
      have hz0 := hq2.2 hq0
      simp [go_sem, hd0, hd1, hz0, hq0]
      refine ⟨hkl, ?_⟩
      refine GDraw_l (t := (.take 0 (.take 1 (.take 2 (.take 3 (.take 4 (.take 5 (.take 6 (.take 7 (.take 8 (.take 9 (.take 10 (.done [10, 9, 8, 7, 6, 5, 4, 3, 2, 1, 0]))))))))))))) T_ok (by kernel_rfl) (by kernel_rfl) (by kernel_rfl) (fun _ _ _ _ h => h) ?_
      simp [go_sem, hkl, r0]
      refine ⟨by omega, k + 1, by omega, by omega, ?_⟩
      rw [hsu]
      simp [hd0, hka]
    · have hz0 : ¬ z < 0 := fun h => hq0 (hq2.1 h)
      have m3 : d.n * q.1.d ≤ 64 * 64 := Nat.mul_le_mul hsm1.n hsm2.d
      have m4 : q.1.n * d.d ≤ 64 * 64 := Nat.mul_le_mul hsm2.n hsm1.d
      have c1 : (d.n : Int) * q.1.d = ((d.n * q.1.d : Nat) : Int) := by simp
      have c2 : (q.1.n : Int) * d.d = ((q.1.n * d.d : Nat) : Int) := by simp
      have hls : d.less q.1 = decide (d.n * q.1.d < q.1.n * d.d) := by unfold Pt.less; simp [hd1, hq0]
      rw [hls] at hsu
      simp [go_sem, hd0, hd1, hz0, hq0]
      rw [c1, c2]
      refine ⟨hkl, by omega, by omega, ?_⟩
      by_cases hlt2 : d.n * q.1.d < q.1.n * d.d
      · rw [if_pos (by simpa using hlt2)] at hsu
        rw [if_pos (by omega)]
        refine GDraw_l (t := (.take 0 (.take 1 (.take 2 (.take 3 (.take 4 (.take 5 (.take 6 (.take 7 (.take 8 (.take 9 (.take 10 (.done [10, 9, 8, 7, 6, 5, 4, 3, 2, 1, 0]))))))))))))) T_ok (by kernel_rfl) (by kernel_rfl) (by kernel_rfl) (fun _ _ _ _ h => h) ?_
        simp [go_sem, hkl, r0]
        refine ⟨by omega, k + 1, by omega, by omega, ?_⟩
        rw [hsu]
        simp [hd0, hka]
      · rw [if_neg (by simpa using hlt2)] at hsu
        rw [if_neg (by omega)]
        refine ⟨by omega, k + 1, by omega, by omega, ?_⟩
        rw [hsu, hz]
        simp [hq0]
  · have hke : k = x.ms.length := by omega
    subst hke
    rw [hun]
    simp [go_sem]
    have hid : e = 0 → r = (x.ms[(nrL x.ms b n ((x.ms.length + 63) / 64))[(nrAt x.ms b n).toNat]!]!).id := fun h => by rw [← hr, nrI, he, if_pos h, Int.toNat_natCast]
    by_cases hat : nrAt x.ms b n < 0
    · rw [if_pos hat] at em hP
      have r1 := hr0 (by omega)
      rw [hP, idN_no _ (by decide)]
      simp [em, r1]
    · rw [if_neg hat] at em hP
      rw [hP, idN_nat, ← hid em]
      have hr1 : 0 ≤ r := by
        rcases (nr_nb x.ms b n) with ⟨k1, _⟩ | ⟨i, k1, k3, _⟩
        · omega
        · rw [hP] at k1
          rw [hid em, show (nrL x.ms b n ((x.ms.length + 63) / 64))[(nrAt x.ms b n).toNat]! = i by omega, getElem!_pos x.ms i k3]
          have := v1.num _ (List.getElem_mem k3)
          simp [okN, btw] at this
          exact this.1
      have hr2 : ¬ r < 0 := by omega
      simp [hr2, em]

theorem rwP_first (ms : List MbG) (n num den i : Nat) : rwP ms n num den i (i + 1) = [] := by
  unfold rwP
  rw [List.drop_eq_nil_of_le (by rw [List.length_take]; omega)]; rfl
theorem qP_len (ms : List MbG) (n num den i j : Nat) : (qP ms n num den i j).length ≤ i * ms.length + ms.length := by
  unfold qP rwP
  rw [List.length_append, List.length_map]
  have h1 := prK_le ms n num den i
  have h2 := List.length_filter_le (fun m : MbG => matB (ms[i]!).x m.x n num den) ((ms.take j).drop (i + 1))
  rw [List.length_drop, List.length_take] at h2
  omega
theorem qjoin' (np r : Nat) (Q : List (Int × Int)) (p : Int × Int) (i j : Nat) (hi : i < Q.length + 1) (hj : j < 2) : SV.trim np (SV.kill r (joined Q.length 1 (fun a b => SV.r (qrows Q a b)) (fun i j => [SV.i p.1, SV.i p.2][i * 2 + j]?.getD (SV.r RV.any)) i j)) = SV.r (qrows (Q ++ [p]) i j) := by
  unfold joined qrows rowsL
  by_cases h : i < Q.length
  · rw [if_pos h, List.getElem?_append_left h]; rfl
  · obtain rfl : i = Q.length := by omega
    rw [if_neg h, if_pos (by omega), List.getElem?_append_right (Nat.le_refl _), Nat.sub_self]
    rcases (show j = 0 ∨ j = 1 by omega) with rfl | rfl <;> rfl
theorem pairs12 (x : IxG) (h : x.Sm) (turns num den : Int) : Pure Tryz.prog 12 [x.sv, .i turns, .agg [.i num, .i den]] (· = .tup [qls (prL x turns num den), .i (prE x turns num den)]) := by
  obtain ⟨e, he⟩ : ∃ e, prE x turns num den = e := ⟨_, rfl⟩
  have hL : prL x turns num den = if e = 0 then prK x.ms turns.toNat num.toNat den.toNat x.ms.length else [] := by unfold prL; rw [he]
  rw [he, hL]
  refine pure_ofLe ?_
  refine pure_of_GC T_ok Tryz.func12 rfl (by kernel_rfl) (Nat.le_of_ble_eq_true rfl) rfl rfl ?_
  have hv := valid59 x h
  have nilF : ∀ e : Int, (SV.tup [nilS, .i e]).le (.tup [qls [], .i e]) := fun e => le_tup ⟨le_r (nil_rs 2 _), SV.le.rfl, trivial⟩
  simp [go_sem, sv_ixC] at hv ⊢
  refine call_val hv rfl rfl ?_
  cases hx : validX x
  · have e1 : e = 40 := by rw [← he, prE, if_pos hx]
    subst e1
    simp [go_sem]
    exact nilF 40
  have em : e = mE ⟨0, 0⟩ ⟨0, 0⟩ turns num den := by rw [← he, prE, if_neg (by rw [hx]; simp)]
  simp [go_sem]
  refine call_val (within53 turns 0 7) rfl rfl ?_
  cases ht : btw 0 7 turns
  · have e1 : e = 2 := by rw [em, mE, zero_ok, ht]; rfl
    subst e1
    simp [go_sem]
    exact nilF 2
  simp [go_sem]
  refine call_val (limit35 num den) rfl rfl ?_
  cases hl : vL num den
  · have e1 : e = 2 := by rw [em, mE, zero_ok, ht, hl]; rfl
    subst e1
    simp [go_sem]
    exact nilF 2
  have e1 : e = 0 := by rw [em, mE, zero_ok, ht, hl]; rfl
  obtain ⟨_, _, k2, k3, k4⟩ := mE_ok (em.symm.trans e1)
  subst e1
  obtain ⟨v1, v2, v3⟩ := valid_eq hx
  obtain ⟨n, rfl⟩ : ∃ n : Nat, turns = n := ⟨turns.toNat, by omega⟩
  obtain ⟨nm, rfl⟩ : ∃ n : Nat, num = n := ⟨num.toNat, by omega⟩
  obtain ⟨dn, rfl⟩ : ∃ n : Nat, den = n := ⟨den.toNat, by omega⟩
  have hlen := v1.len
  simp only [Int.toNat_natCast, if_true]
  simp [go_sem]
  refine GLoop_pre (GSt.adopt 8 88 2 (fun i j => .r (qrows [] i j)) (by rfl)) ?_
  refine GLoop_s T_ok (α := Nat) (fun i => [(1, .i n), (3, .ptr 0 0 9 0), (5, .ptr 1 0 2 0), (8, .sl 2 2 0 (prK x.ms n nm dn i).length none), (9, .i i)])
    (fun i => [some (.box (ixC x)), some (.box [.i nm, .i dn]), some (.vec 88 2 (prK x.ms n nm dn i).length fun a b => .r (qrows (prK x.ms n nm dn i) a b))]) 3 (fun i => i ≤ x.ms.length) (fun i => x.ms.length - i) 0 (fun _ => rfl) (by simp) (by simp [go_sem, prK]) (by simp [go_sem, prK]) ?_
  intro i J hi
  by_cases hil : i < x.ms.length
  · have r0 := mrow hil 0
    have r1 := mrow hil 1
    have r2 := mrow hil 2
    have hrs := fun j (hj : j < x.ms.length) => rwP_succ x.ms n nm dn i hj
    simp only [getElem!_pos x.ms i hil] at hrs
    have hq0 : prK x.ms n nm dn i = qP x.ms n nm dn i (i + 1) := by unfold qP; rw [rwP_first, List.append_nil]
    have hqe : prK x.ms n nm dn (i + 1) = qP x.ms n nm dn i x.ms.length := by unfold qP; rw [rwP_all v2 n nm dn hil, prK_succ]
    have hql := fun j => qP_len x.ms n nm dn i j
    have hm1 : i * x.ms.length ≤ 256 * 256 := Nat.mul_le_mul (by omega) hlen
    rw [hq0]
    generalize x.ms[i] = a at *
    simp [go_sem, hil]
    refine ⟨by omega, ?_⟩
    refine GLoop_s T_ok (α := Nat) (fun j => [(1, .i n), (3, .ptr 0 0 9 0), (5, .ptr 1 0 2 0), (8, .sl 2 2 0 (qP x.ms n nm dn i j).length none), (9, .i i), (10, .i j)])
      (fun j => [some (.box (ixC x)), some (.box [.i nm, .i dn]), some (.vec 88 2 (qP x.ms n nm dn i j).length fun a b => .r (qrows (qP x.ms n nm dn i j) a b))]) 3 (fun j => i < j ∧ j ≤ x.ms.length) (fun j => x.ms.length - j) (i + 1) (fun _ => rfl) (by omega) (by simp [go_sem]) (by simp [go_sem]) ?_
    rintro j J ⟨hij, hj⟩
    by_cases hjl : j < x.ms.length
    · have s0 := mrow hjl 0
      have s1 := mrow hjl 1
      have s2 := mrow hjl 2
      have hmt := matched33 a.x x.ms[j].x n (by omega) nm dn (by omega) (by omega)
      have hq1 : qP x.ms n nm dn i (j + 1) = qP x.ms n nm dn i j ++ if i < j ∧ matB a.x x.ms[j].x n nm dn = true then [(a.id, x.ms[j].id)] else [] := by
        unfold qP; rw [hrs j hjl, List.append_assoc]
      have hqj := hql j
      generalize x.ms[j] = b at *
      generalize matB a.x b.x n nm dn = is at *
      obtain ⟨q, hq⟩ : ∃ q, qP x.ms n nm dn i j = q := ⟨_, rfl⟩
      rw [hq] at hq1 hqj ⊢
      simp [go_sem, hjl]
      refine GDraw_l (t := (.take 0 (.take 1 (.take 2 (.take 3 (.take 4 (.take 5 (.take 6 (.take 7 (.take 8 (.take 9 (.take 10 (.take 11 (.take 12 (.take 13 (.alt 14 [13, 12, 11, 10, 9, 8, 7, 6, 5, 4, 3, 2, 1, 0] (.done [10, 9, 8, 7, 6, 4, 3, 2, 1, 0]) .nil)))))))))))))))) T_ok (by kernel_rfl) (by kernel_rfl) (by kernel_rfl) (fun _ _ _ _ h => h) ?_
      simp [go_sem, hil, hjl, r0, r1, r2, s0, s1, s2]
      refine call_val hmt rfl rfl ?_
      cases is
      · rw [if_neg (by simp), List.append_nil] at hq1
        simp [go_sem]
        refine ⟨⟨hjl, hil⟩, by omega, j + 1, by omega, by omega, ?_⟩
        rw [hq1]
        exact ⟨⟨rfl, by omega⟩, Nat.le_refl _, fun _ _ _ _ => rfl⟩
      · rw [if_pos ⟨hij, rfl⟩] at hq1
        simp [go_sem, hil, hjl, r0, s0]
        refine GDraw_l (t := (.take 0 (.take 1 (.take 2 (.take 3 (.take 4 (.take 5 (.take 6 (.take 7 (.take 8 (.take 9 (.take 10 (.take 11 (.take 12 (.take 13 (.alt 14 [13, 12, 11, 10, 9, 8, 7, 6, 5, 4, 3, 2, 1, 0] (.alt 15 [12, 11, 10, 9, 8, 7, 6, 5, 4, 3, 2, 1, 0] (.alt 16 [12, 11, 10, 9, 8, 7, 6, 5, 4, 3, 2, 1] (.done []) .nil) .nil) .nil)))))))))))))))) T_ok (by kernel_rfl) (by kernel_rfl) (by kernel_rfl) (fun _ _ _ _ h => h) ?_
        simp [go_sem, hil, hjl, r0, s0]
        refine ⟨⟨by omega, by omega⟩, by omega, j + 1, by omega, by omega, ?_⟩
        rw [hq1]
        refine ⟨⟨by rw [List.length_append, List.length_singleton], by omega⟩, by rw [List.length_append, List.length_singleton]; omega, fun u v hu hw => qjoin' 3 2 q (a.id, b.id) u v (by rw [List.length_append, List.length_singleton] at hu; exact hu) hw⟩
    · have hje : j = x.ms.length := by omega
      subst hje
      rw [← hqe]
      simp [go_sem]
      refine ⟨by omega, i + 1, by omega, by omega, ⟨rfl, by omega⟩, Nat.le_refl _, fun _ _ _ _ => rfl⟩
  · have hie : i = x.ms.length := by omega
    subst hie
    simp [go_sem]
    exact SV.le.rfl
theorem prL_le (x : IxG) (turns num den : Int) : (prL x turns num den).length ≤ 65536 := by
  unfold prL
  split
  · rename_i h
    have hv : validX x = true := by
      cases hv : validX x
      · unfold prE at h; rw [if_pos hv] at h; cases h
      · rfl
    have h1 := prK_le x.ms turns.toNat num.toNat den.toNat x.ms.length
    have h2 := (valid_eq hv).1.len
    have h3 : x.ms.length * x.ms.length ≤ 256 * 256 := Nat.mul_le_mul h2 h2
    omega
  · simp
theorem srIds_le (x : IxG) (h : x.Sm) (b : IrG) (turns num den : Int) : (srIds x b turns num den).length ≤ 1000 := by
  unfold srIds
  split
  · have h1 := fndM_le x.ms b turns.toNat num.toNat den.toNat
    have h2 := h.ms
    omega
  · simp
theorem law3 (x : IxG) (b : IrG) (turns num den : Int) (h1 : -9223372036854775808 ≤ turns) (h2 : turns ≤ 9223372036854775807) : Pure Tryz.prog 3 [x.sv, b.sv, .i turns, .agg [.i num, .i den]] (· = .b true) := by
  refine pure_of_GC T_ok Tryz.func3 rfl (by kernel_rfl) (Nat.le_of_ble_eq_true rfl) rfl rfl ?_
  have hg := great15 x
  simp [go_sem, sv_ixC] at hg ⊢
  refine call_val hg rfl rfl ?_
  cases hgr : grB x
  rotate_left
  · simp [go_sem]
  have hsm := grB_sm hgr
  have ht := twin23 x hsm
  have hs1 := search33f x hsm b turns num den
  have hs2 := search7 x hsm b turns num den
  have hn1 := nearest40 x hsm (fun hv a ha => (valid_eq hv).1.ok a ha) b turns
  have hn2 := nearest10 x hsm b turns
  have hp1 := pairs38 x hsm turns num den
  have hp2 := pairs12 x hsm turns num den
  have hi := ints37 (srIds x b turns num den) (srIds x b turns num den) (by have := srIds_le x hsm b turns num den; omega)
  have hq := pairs46 (prL x turns num den) (prL x turns num den) (by have := prL_le x turns num den; omega)
  have hsame := same18 x x hsm
  rw [eqB_self] at hsame
  generalize srIds x b turns num den = A at *
  generalize srSn x b turns num den = sa at *
  generalize srE x b turns num den = ea at *
  generalize nrI x b turns = nn at *
  generalize nrE x b turns = ne at *
  generalize prL x turns num den = P at *
  generalize prE x turns num den = pe at *
  simp [go_sem, sv_ixC] at ht hs1 hs2 hn1 hn2 hp1 hp2 hsame
  simp [go_sem]
  refine call_val ht rfl rfl ?_
  simp [go_sem]
  refine call_val hs1 rfl rfl ?_
  simp [go_sem]
  refine call_val hs2 rfl rfl ?_
  simp [go_sem]
  refine call_val hi rfl rfl ?_
  simp [go_sem]
  refine call_val hn1 rfl rfl ?_
  simp [go_sem]
  refine call_val hn2 rfl rfl ?_
  simp [go_sem]
  refine call_val hp1 rfl rfl ?_
  simp [go_sem]
  refine call_val hp2 rfl rfl ?_
  simp [go_sem]
  refine call_val hq rfl rfl ?_
  simp [go_sem]
  refine call_val hsame rfl rfl ?_
  simp [go_sem]
end Go.Gx.Ix
