/-
  The program: Why.
-/
import Derived.Test.YtnajladibkpeaaaFa
set_option linter.unusedVariables false
set_option linter.unusedSimpArgs false
set_option maxRecDepth 20000
set_option maxHeartbeats 4000000
namespace Go.Gx
open Go.RowKit Go.Proofs Go.Proofs.Ytnajladibkpeaaa

theorem why20 (g : EG) (h : g.OK) (hnl : g.nl ≤ 1000) (a b : Int) : Pure Try.prog 20 [g.sv, .i a, .i b] (· = .tup [g.wS a b, .i (g.wE a b)]) := by
  refine Pure.ofSub ?_
  refine pure_of_GC T_ok Try.func20 rfl (by kernel_rfl) (Nat.le_of_ble_eq_true rfl) rfl rfl ?_
  have := h.nr
  simp [go_sem]
  have hk := fun get hg => known48 g h 2 (by decide) (fun i => if i = 0 then a else b) get hg
  rw [EG.kE2] at hk
  have harg : ∀ i, i < 2 → (fun i j => [SV.i a, SV.i b][i + j]?.getD (.r .any)) i 0 = SV.i (if i = 0 then a else b) := fun i hi => by
    rcases (by omega : i = 0 ∨ i = 1) with rfl | rfl <;> rfl
  rcases g.pE2_cases a b with ⟨hv, ta, tb, he⟩ | he
  rotate_left
  · simp only [EG.kS, EG.kR, if_neg he] at hk
    have e : g.wE a b = g.pE2 a b := by
      by_cases hv : g.valid = true
      · by_cases ht : (g.th a && g.th b) = true
        · exact absurd (show g.pE2 a b = 0 by unfold EG.pE2; rw [if_pos hv, if_pos ht]) he
        · unfold EG.wE EG.pE2
          rw [if_pos hv, if_pos hv, if_neg ht, if_neg]
          intro hh
          simp only [Bool.and_eq_true] at hh ht
          exact ht hh.1
      · unfold EG.wE EG.pE2
        rw [if_neg hv, if_neg hv]
    rw [EG.wS_no (by rw [e]; exact he), e]
    refine callK_own [2] (hk (fun i j => [SV.i a, SV.i b][i + j]?.getD (.r .any)) harg) (by simp) rfl (by simp [go_sem]) ?_
    simp [go_sem, he]
  simp only [EG.kS, EG.kR, if_pos he] at hk
  refine callK_own [2] (hk (fun i j => [SV.i a, SV.i b][i + j]?.getD (.r .any)) harg) (by simp) rfl (by simp [go_sem]) ?_
  have ia := EG.th_iff.1 ta
  have ib := EG.th_iff.1 tb
  have hth := EG.valid_lth hv
  have hl := EG.valid_inl hv
  obtain ⟨a, rfl⟩ : ∃ n : Nat, a = n := ⟨a.toNat, by omega⟩
  obtain ⟨b, rfl⟩ : ∃ n : Nat, b = n := ⟨b.toNat, by omega⟩
  have ha1 : a < g.nr := by omega
  have hb1 : b < g.nr := by omega
  have hcon : g.pm g.nl a = g.pm g.nl b ↔ 0 ≤ g.far a b := by
    constructor
    · intro hq
      obtain ⟨n, _, _, hn, _⟩ := EG.far_ex hl ha1 ((EG.rc_iff hl ia.1 ia.2.1 (x := b)).2 hq)
      omega
    · intro hf
      have h1 : g.far a b = ((g.far a b).toNat : Int) := by omega
      exact EG.con_iff.1 (EG.rc_con hl (EG.far_rc h1).1)
  simp [go_sem]
  refine GDraw_all T_ok (by kernel_rfl) (by kernel_rfl) ?_
  by_cases hq : g.pm g.nl a = g.pm g.nl b
  rotate_left
  · have e : g.wE a b = 6 := by
      have : ¬ 0 ≤ g.far a b := fun h => hq (hcon.2 h)
      simp [EG.wE, hv, this]
    rw [EG.wS_no (by rw [e]; decide), e]
    simp [go_sem, ta, tb, hq]
  have h0 := hcon.1 hq
  have e : g.wE a b = 0 := by simp [EG.wE, hv, ta, tb, h0]
  obtain ⟨n, hn⟩ : ∃ n : Nat, g.far a b = n := ⟨(g.far a b).toNat, by omega⟩
  have hnr := (g.far_lt a b).2
  rw [hn] at hnr
  rw [EG.wS_yes e hn, e]
  simp [go_sem, ta, tb, hq]
  refine GLoop_pre (GSt.freeze 4 rfl) ?_
  refine GLoop_pre (GSt.freeze 3 rfl) ?_
  refine GLoop_pre (GSt.freeze 5 rfl) ?_
  let D : Nat → Nat → RV := gbox [g.rr, g.ll, g.cc, .r (.mp g.th fun a => .i (g.pm g.nl a))]
  let C : Nat → Nat → RV := gbox [.r (.rp 4 1 D 0 0)]
  have hC : C 0 0 = .rp 4 1 D 0 0 := rfl
  have hD : D 0 1 = .rs 3 g.nl fun i j => (g.l i).c j := rfl
  refine GLoop_fit T_ok (α := BF) (fun t => [(2, .i b), (4, .ptr 1 0 1 0), (10, .ptr 7 0 1 0), (11, .fn (.func 54) [] [.r (.rp 1 1 C 0 0)]), (12, .ptr 9 0 1 0)])
    (fun t => memL [g.bx, some (.box [.i a]), none, none, none, none, some (.map t.h (fun a => .i (t.v a)) none), some (.box [.mp 6]), some (.vec 3 1 t.L.length (ints t.L)), some (.box [.sl 8 1 t.lo (t.L.length - t.lo) none])]) 10
    (fun t => t.lo ≤ t.L.length ∧ BInv g b t.h t.v (t.L.drop t.lo) ∧ t.L.length ≤ t.cn g ∧ ∀ x : Nat, t.h x = true → t.v x < t.cn g) (fun t => 2 * (g.nr - t.cn g) + (t.L.drop t.lo).length) ⟨fun a => decide (a = (b : Int)), fun _ => 0, 0, [b]⟩ ?_ ?_ ?_
  · refine ⟨by simp, BInv.init hb1, ?_, ?_⟩
    · have : b ∈ (List.range g.nr).filter fun i : Nat => decide ((i : Int) = (b : Int)) := List.mem_filter.2 ⟨List.mem_range.2 hb1, by simp⟩
      have := List.length_pos_of_mem this
      exact this
    · intro x hx
      have : b ∈ (List.range g.nr).filter fun i : Nat => decide ((i : Int) = (b : Int)) := List.mem_filter.2 ⟨List.mem_range.2 hb1, by simp⟩
      have := List.length_pos_of_mem this
      simp only [BF.cn]
      omega
  · refine Fit.of_regs (by decide) rfl ?_ ?_
    · simp [go_sem]
      rfl
    · simp [go_sem]
      rfl
  rintro t J ⟨tlo, tinv, tlen, tvl⟩
  have hcnr := t.cn_le g
  by_cases hQe : t.lo = t.L.length
  · -- the line is empty
    have hQ : t.L.drop t.lo = [] := by rw [hQe]; simp
    rw [hQ] at tinv
    obtain ⟨d1, d2⟩ := BInv.done hl hb1 tinv
    simp [go_sem, hQe]
    refine GLoop_s T_ok (α := Nat) (fun k => [(2, .i b), (4, .ptr 1 0 1 0), (10, .ptr 7 0 1 0), (11, .fn (.func 54) [] [.r (.rp 1 1 C 0 0)]), (14, .sl 10 1 0 (k + 1) none)])
      (fun k => [g.bx, some (.box [.i (g.cu b a k : Nat)]), none, none, none, none, some (.map t.h (fun a => .i (t.v a)) none), some (.box [.mp 6]), none, none, some (.vec 3 1 (k + 1) (ints (g.way a b k)))]) 11 (fun k => k ≤ n) (fun k => n - k) 0 (fun _ => rfl) (by simp) (by simp [go_sem]) (by
        simp [go_sem, EG.cu]
        simp [nth, EG.way, EG.cu]) ?_
    intro k J2 hi
    obtain ⟨c1, c2⟩ := EG.cu_ok hl ha1 hn k hi
    have ceq := EG.cu_eq hl ha1 hn hi
    generalize hx : g.cu b a k = x at *
    by_cases hk : k = n
    · have hxb : x = b := ceq.2 hk
      subst hk
      simp [go_sem, hxb]
    have hne : ¬ (x : Int) = (b : Int) := fun e => hk (ceq.1 (by omega))
    have hfx : g.far x b = ((n - (k + 1)) + 1 : Nat) := by rw [c2]; congr 1; omega
    have hcu : g.cu b a (k + 1) = g.nx b x := by simp only [EG.cu]; rw [hx]
    -- what is known of x and its neighbours
    have hrx : g.rc b (n - k) x = true := EG.rc_symm hl (EG.far_rc c2).1
    obtain ⟨hx1, _⟩ := d1 _ x hrx
    have hvx := d2 x hx1
    have hnb : ∀ j, j < g.nl → g.tch x j = true → t.h (g.ot x j) = true := fun j hj ht =>
      ((tinv.old x hx1 (by simp)).2 (g.ot x j) ((EG.tch_adj hl).2 ⟨j, hj, ht, rfl⟩)).1
    simp [go_sem, hne]
    refine callK_ownX [7, 6, 1, 11] (next54b g h hl x C D hC hD t.h t.v ⟨by omega, by omega⟩ hx1 ⟨by omega, by omega⟩ hnb) (by simp) (by simp) (by simp [go_sem]) (by simp [go_sem]) ?_
    rintro S Rs' ⟨rfl, s', hs', rfl⟩
    have hs2 : s' = (g.nx b x : Nat) := EG.lst_nx hl c1 hfx hvx (fun j hj ht => d2 _ (hnb j hj ht)) hs'
    subst hs2
    simp [go_sem]
    refine ⟨by omega, k + 1, by omega, by omega, rfl, by rw [hcu], by omega, fun i hi => ?_⟩
    unfold ints
    rw [← way_row g hi, hcu]
    unfold joined
    by_cases h5 : i < k + 1
    · rw [if_pos h5, if_pos h5]; rfl
    · have h6 : i - (k + 1) = 0 := by omega
      rw [if_neg h5, if_neg h5, if_pos (by omega), h6]; rfl
  have hlt : t.lo < t.L.length := by omega
  have hQ : t.L.drop t.lo = nth t.L t.lo :: t.L.drop (t.lo + 1) := by
    rw [List.drop_eq_getElem_cons hlt]
    simp [nth, List.getD, List.getElem?_eq_getElem hlt]
  generalize hcc : nth t.L t.lo = c at *
  have hch : t.h c = true := tinv.inq c (by rw [hQ]; simp)
  have hcr := tinv.rng c hch
  obtain ⟨vn, hvn, _⟩ := tinv.wk c hch
  have hvc := tvl c hch
  have hnr24 := EG.valid_nr hv
  have hci : ints t.L t.lo 0 = SV.i (c : Int) := by simp only [ints, hcc]
  have hsub : 0 < t.L.length - t.lo := by omega
  simp [go_sem, hsub, hci]
  refine ⟨hlt, ?_⟩
  refine callK_ownX [7, 6, 10, 9, 8] (next54a g h hl c c hcr C D hC hD t hch ⟨by omega, by omega⟩ tlo (by omega) hnl) (by simp) (by simp) (by simp [go_sem]) (by simp [go_sem]) ?_
  rintro S Rs' ⟨rfl, u, hu, rfl⟩
  have hb := BSc.of_sts hl (Nat.le_refl _) hu tinv hQ tlen tvl
  obtain ⟨Q1, hQ1⟩ := hb.hd
  have hul : u.lo < u.L.length := by
    rcases Nat.lt_or_ge u.lo u.L.length with h1 | h1
    · exact h1
    · rw [List.drop_eq_nil_of_le h1] at hQ1; cases hQ1
  have hQ2 : u.L.drop (u.lo + 1) = Q1 := by
    rw [List.drop_eq_getElem_cons hul] at hQ1
    exact (List.cons.inj hQ1).2
  have hpop := hb.pop hl hQ1
  have hmu := hb.mu
  rw [hQ1] at hmu
  have hQl : Q1.length = u.L.length - (u.lo + 1) := by rw [← hQ2]; simp
  have htl : (t.L.drop t.lo).length = t.L.length - t.lo := by simp
  rw [htl] at hmu
  simp only [List.length_cons, hQl] at hmu
  simp [go_sem]
  refine ⟨by omega, ⟨u.h, u.v, u.lo + 1, u.L⟩, ⟨by show u.lo + 1 ≤ u.L.length; omega, by show BInv g b u.h u.v (u.L.drop (u.lo + 1)); rw [hQ2]; exact hpop, hb.len, hb.vlt⟩, ?_, Fit.vw (GSt.move 15 8 (by decide) (by decide) (by decide) (by decide)) (Fit.vw (GSt.move 16 9 (by decide) (by decide) (by decide) (by decide)) (Fit.of_regs (by decide) rfl ?_ ?_))⟩
  · show 2 * (g.nr - u.cn g) + (u.L.length - (u.lo + 1)) < _
    omega
  · simp [go_sem]
  · simp [go_sem]
    omega
end Go.Gx
