/-
  Morphs: the walk.
-/
import Derived.Test.YtnajladibkpeaaaGreatW5
set_option linter.unusedVariables false
set_option linter.unusedSimpArgs false
set_option maxRecDepth 20000
set_option maxHeartbeats 4000000
namespace Go.Gx
open Go.RowKit Go.Proofs Go.Proofs.YtnajladibkpeaaaGreat

theorem isL_one_iff {x : Nat} {f : Nat → Nat → SV} : isL (some (.vec 3 1 1 f)) [x] ↔ f 0 0 = SV.i (x : Nat) := by
  refine ⟨fun ⟨f', h1, h2⟩ => ?_, fun h => isL_one h rfl⟩
  cases h1
  exact h2 0 Nat.zero_lt_one
def EG.mrs (g : EG) (m : MG) (k : Nat) : List Nat := (List.range k).filter fun a => g.morA (g.looks m a m.l.length)
theorem EG.mrs_succ (g : EG) (m : MG) (k : Nat) : g.mrs m (k + 1) = if g.morA (g.looks m k m.l.length) then g.mrs m k ++ [k] else g.mrs m k := by
  unfold EG.mrs
  rw [List.range_succ, List.filter_append]
  cases h : g.morA (g.looks m k m.l.length) <;> simp [h]
theorem EG.mrs_len (g : EG) (m : MG) (k : Nat) : (g.mrs m k).length ≤ k := by
  have := List.length_filter_le (fun a => g.morA (g.looks m a m.l.length)) (List.range k)
  rwa [List.length_range] at this
theorem EG.looks_th {g : EG} {m : MG} (hok : ∀ i, i < m.n → g.okm (m.p i) = true) {a b k : Nat} (h : b ∈ g.looks m a k) : g.th a = true ∧ g.th b = true := by
  unfold EG.looks at h
  obtain ⟨p, hp, he⟩ := List.mem_filterMap.1 h
  obtain ⟨i, hi, rfl⟩ := MG.l_iff.1 (List.mem_of_mem_take hp)
  obtain ⟨t1, t2, _⟩ := EG.okm_q (hok i hi)
  have c1 := EG.th_iff.1 t1
  have c2 := EG.th_iff.1 t2
  by_cases e0 : g.q (m.q i).a = g.q (m.q i).b
  · rw [if_pos e0] at he; cases he
  rw [if_neg e0] at he
  by_cases e1 : (m.q i).a = a
  · rw [if_pos e1] at he
    have he := Option.some.inj he
    rw [← e1, show (b : Int) = (m.q i).b by omega]
    exact ⟨t1, t2⟩
  rw [if_neg e1] at he
  by_cases e2 : (m.q i).b = a
  · rw [if_pos e2] at he
    have he := Option.some.inj he
    rw [← e2, show (b : Int) = (m.q i).a by omega]
    exact ⟨t2, t1⟩
  · rw [if_neg e2] at he; cases he
theorem EG.mrs_eq {g : EG} {m : MG} (he : g.askE m = 0) : g.mrs m g.nr = g.morL m g.nr := by
  rcases g.ask_cases m with ⟨hv, h60, hok, _⟩ | h
  rotate_left
  · exact absurd he h
  unfold EG.mrs EG.morL
  refine List.filter_congr fun a ha => ?_
  have ha := List.mem_range.1 ha
  rw [EG.morph_lk he ha]
  cases hm : g.morA (g.looks m a m.l.length) with
  | false => simp
  | true =>
    obtain ⟨b, c, hb, _⟩ := (EG.morA_iff hv).1 hm
    rw [(EG.looks_th hok hb).1]
    rfl
theorem morphs43 (g : EG) (h : g.Sm) (m : MG) (hn : m.n ≤ 1000000) : Pure Tryz.prog 34 [g.sv, m.sv] (· = g.morS m) := by
  refine Pure.ofSub ?_
  refine pure_of_GC T_ok Tryz.func34 rfl (by kernel_rfl) (Nat.le_of_ble_eq_true rfl) rfl rfl ?_
  simp [go_sem]
  have hm := matched97p sortOK g h.ok m hn
  unfold EG.matP at hm
  rcases g.ask_cases m with ⟨hv, h60, hok, he⟩ | he
  rotate_left
  · rw [if_neg he] at hm
    refine call_val hm rfl rfl ?_
    simp [go_sem, he, EG.morS]
  rw [if_pos he] at hm
  refine call_val hm rfl rfl ?_
  simp [go_sem, EG.morS, he]
  have hll := m.l_len
  have hnr := h.nr
  refine GLoop_p T_ok (α := Nat) (fun k => [(6, dk g.dD), (9, .mp 1), (25, prs m.l), (26, .i m.l.length), (27, .i k)])
    (fun k M nx => k ≤ m.l.length ∧ ∃ has val pos, LkI g m k M nx has val pos) (fun k => m.l.length - k) 0 ?_ (by simp [go_sem]) ?_
  · refine ⟨Nat.zero_le _, fun _ => false, _, fun _ => 0, ⟨by simp [go_sem], Nat.le_refl _, ⟨none, by simp [go_sem]; rfl⟩, fun x => ?_, fun c hc => (by cases hc), fun c d hc => (by cases hc)⟩⟩
    simp [EG.looks]
  rintro k J M nx hN ⟨hk, has, val, pos, hI⟩
  obtain ⟨st, hM1⟩ := hI.hm
  have hM0 := hI.h0
  have h2n := hI.hn
  have z0 : ¬ nx = 0 := by omega
  have z1 : ¬ nx = 1 := by omega
  have z0' : ¬ 0 = nx := by omega
  have z1' : ¬ 1 = nx := by omega
  by_cases hlt : k < m.l.length
  rotate_left
  · have e : k = m.l.length := by omega
    subst e
    have hd0 : ∀ r, g.dD r 0 = .rs 2 g.nr fun i j => (g.r i).c j := fun _ => rfl
    simp [go_sem, hd0]
    refine GLoop_pre (GSt.adopt 12 3 1 (fun _ _ => .r .any) rfl) ?_
    refine GLoop_p T_ok (α := Nat) (fun k => [(6, dk g.dD), (9, .mp 1), (12, .sl nx 1 0 (g.mrs m k).length none), (76, .i g.nr), (77, .i k)])
      (fun k M nx' => k ≤ g.nr ∧ (∃ val, LkI g m m.l.length M nx' has val pos) ∧ isL (M nx) (g.mrs m k) ∧ nx < nx' ∧ ∀ c : Nat, has c = true → ¬ pos c = nx) (fun k => g.nr - k) 0 ?_ (by simp [go_sem, EG.mrs]) ?_
    · refine ⟨Nat.zero_le _, ⟨val, hI.same (fun _ => rfl) (by omega) fun r hr => ?_⟩, ⟨_, by simp [go_sem, EG.mrs]; rfl, fun i hi => by simp [EG.mrs] at hi⟩, by omega, fun c hc => by have := (hI.hv c hc).2.2.1; omega⟩
      have : ¬ r = nx := by omega
      simp [go_sem, this]
    rintro k J M2 nx2 hN ⟨hk2, ⟨val2, hI2⟩, hL, hnx, hne⟩
    obtain ⟨st2, hM12⟩ := hI2.hm
    by_cases hlt2 : k < g.nr
    rotate_left
    · have e : k = g.nr := by omega
      subst e
      obtain ⟨f, hf1, hf2⟩ := hL
      simp [go_sem, hf1]
      rw [EG.mrs_eq he]
      refine ⟨rfl, fun i hi => ?_⟩
      rw [EG.mrs_eq he] at hf2
      rw [hf2 i hi]
      rfl
    have hmo : Pure Tryz.prog 69 [dk g.dD, .r (.rs 1 (g.looks m k m.l.length).length (intsR (g.looks m k m.l.length)))] (· = .b (g.morA (g.looks m k m.l.length))) :=
      morph98 g h.ok (EG.valid_lth hv) g.dD rfl rfl _ (Nat.le_trans (g.looks_len m k _) (by omega)) fun i hi => by
        have : nth (g.looks m k m.l.length) i = (g.looks m k m.l.length)[i] := by simp [nth, List.getD, hi]
        rw [this]
        exact (EG.looks_th hok (List.getElem_mem hi)).2
    have hms := g.mrs_succ m k
    have hml := g.mrs_len m k
    have p1 : ¬ nx2 = 0 := by omega
    have p2 : ¬ nx2 = 1 := by omega
    have p1' : ¬ 0 = nx2 := by omega
    have p2' : ¬ 1 = nx2 := by omega
    have p3 : ¬ nx = nx2 := by omega
    have p3' : ¬ nx2 = nx := by omega
    have hM02 := hI2.h0
    obtain ⟨f, hf1, hf2⟩ := hL
    simp [go_sem, hlt2, hM12]
    have hkills := hI2.kills (by omega) hne (Nat.le_succ nx2) (M' := upd (killM nx (upd M2 nx2 (some (Reg.vec 3 1 1 fun i j => [SV.i k][i + j]?.getD (SV.r RV.any))))) nx
      (some (Reg.vec 3 1 ((g.mrs m k).length + 1) fun i j => SV.kill nx (joined (g.mrs m k).length 1 f (fun i j => [SV.i k][i + j]?.getD (SV.r RV.any)) i j)))) fun q hq hqr => by
        have : ¬ q = nx2 := by omega
        simp [go_sem, hqr, this, killM]
    have hnx1 : ¬ 1 = nx := by omega
    by_cases lk : g.looks m k m.l.length = []
    · have hk0 := hI2.no lk
      have hmo' : Pure Tryz.prog 69 [dk g.dD, nilS] (· = .b (g.morA (g.looks m k m.l.length))) := hmo.args ⟨SV.le.rfl, le_of_sub (by simp [go_sem, lk]), trivial⟩
      simp [go_sem, hk0]
      refine call_val hmo' rfl rfl ?_
      cases hb : g.morA (g.looks m k m.l.length)
      · rw [hb] at hms
        simp [go_sem, hb]
        refine ⟨by omega, k + 1, by omega, ⟨by rw [hms]; rfl, by simp⟩, by omega, ⟨val2, hI2⟩, ?_, hnx, hne⟩
        rw [hms]
        exact ⟨f, hf1, hf2⟩
      · rw [hb] at hms
        simp [go_sem, hb, hf1, p1, p2, p1', p2', p3, p3']
        refine ⟨by omega, by omega, k + 1, by omega, ⟨hnx1, by rw [hms]; simp, by simp⟩, by omega, ⟨_, hkills⟩, ?_, by omega, hne⟩
        rw [hms]
        exact isL_app hf2 rfl rfl
    · have hk1 := hI2.yes hlt2 lk
      obtain ⟨q1, q2, q3, q4⟩ := hI2.hv k hk1
      obtain ⟨f4, q5, q6⟩ := q4
      simp [go_sem, hk1, q1]
      refine call_lent (v := .b (g.morA (g.looks m k m.l.length))) ?_ rfl ?_
      · simp [go_sem, q5]
        refine hmo.args ⟨le_of_sub ?_, le_of_sub ?_, trivial⟩
        · simp [go_sem]
        · simp [go_sem]
          intro i hi
          rw [q6 i hi]
          rfl
      cases hb : g.morA (g.looks m k m.l.length)
      · rw [hb] at hms
        simp [go_sem, hb]
        refine ⟨by omega, k + 1, by omega, ⟨by rw [hms]; rfl, by simp⟩, by omega, ⟨val2, hI2⟩, ?_, hnx, hne⟩
        rw [hms]
        exact ⟨f, hf1, hf2⟩
      · rw [hb] at hms
        simp [go_sem, hb, hf1, p1, p2, p1', p2', p3, p3']
        refine ⟨by omega, by omega, k + 1, by omega, ⟨hnx1, by rw [hms]; simp, by simp⟩, by omega, ⟨_, hkills⟩, ?_, by omega, hne⟩
        rw [hms]
        exact isL_app hf2 rfl rfl
  have hmem : m.l[k] ∈ m.l := List.getElem_mem hlt
  have hs := fun a => g.looks_succ m a hlt
  simp [go_sem, hlt]
  generalize m.l[k] = p at hmem hs
  obtain ⟨i0, hi0, hq⟩ := MG.l_of hmem
  obtain ⟨t1, t2, t3⟩ := EG.okm_q (hok i0 hi0)
  rw [hq] at t1 t2 t3
  obtain ⟨a, ha⟩ : ∃ a : Nat, p.a = a := ⟨p.a.toNat, by have := EG.th_iff.1 t1; omega⟩
  obtain ⟨b, hb⟩ : ∃ b : Nat, p.b = b := ⟨p.b.toNat, by have := EG.th_iff.1 t2; omega⟩
  rw [ha] at t1 t3
  rw [hb] at t2 t3
  simp only [ha, hb] at hs ⊢
  have b1 := EG.th_iff.1 t1
  have b2 := EG.th_iff.1 t2
  have hd3 : ∀ r, g.dD r 3 = .mp g.th fun a => .i (g.q a) := fun _ => rfl
  refine GDraw_l (t := (.take 0 (.take 1 (.take 2 (.take 3 (.take 4 (.take 5 (.take 6 (.take 7 (.take 8 (.take 9 (.take 10 (.take 11 (.take 12 (.take 13 (.take 14 (.done [14, 13, 12, 11, 10, 9, 8, 7, 6, 5, 4, 3, 2, 1, 0]))))))))))))))))) T_ok (by kernel_rfl) (by kernel_rfl) (by kernel_rfl) (fun _ _ _ _ h => h) ?_
  by_cases hqq : g.q a = g.q b
  · simp [go_sem, hd3, t1, t2, hqq]
    refine ⟨by omega, k + 1, by omega, by simp, by omega, has, val, pos, hI.same (fun c => by rw [hs c, if_pos hqq, List.append_nil]) (by omega) fun r hr => ?_⟩
    have : ¬ r = nx := by omega
    simp [go_sem, this]
  simp [go_sem, hd3, t1, t2, hqq]
  have hs' : ∀ c : Nat, g.looks m c (k + 1) = g.looks m c k ++ if (a : Int) = (c : Int) then [b] else if (b : Int) = (c : Int) then [a] else [] := fun c => by
    rw [hs c, if_neg hqq]; simp
  refine GDraw_p (t := (.take 0 (.take 1 (.take 2 (.take 3 (.take 4 (.take 5 (.take 6 (.take 7 (.take 8 (.take 9 (.take 10 (.take 11 (.take 14 (.take 15 (.take 16 (.take 17 (.take 18 (.take 19 (.alt 12 [19, 18, 17, 16, 15, 14, 11, 10, 9, 8, 7, 6, 5, 4, 3, 2, 1, 0] (.alt 13 [19, 18, 17, 16, 15, 14, 10, 9, 8, 7, 6, 5, 4, 3, 2, 1, 0] (.alt 20 [19, 18, 17, 16, 15, 14, 10, 8, 7, 6, 5, 4, 3, 2, 1, 0] (.alt 21 [18, 17, 16, 15, 14, 10, 8, 7, 6, 5, 4, 3, 2, 1, 0] (.alt 22 [18, 16, 15, 14, 10, 8, 7, 6, 5, 4, 3, 2, 1, 0] (.take 23 (.alt 24 [23, 18, 16, 15, 14, 10, 8, 7, 6, 5, 4, 3, 1] (.alt 25 [18, 16, 15, 14, 5, 4, 3] (.done []) .nil) .nil)) .nil) .nil) .nil) (.alt 20 [19, 18, 17, 16, 15, 14, 10, 9, 8, 7, 6, 5, 4, 3, 2, 1, 0] (.alt 13 [18, 17, 16, 15, 14, 10, 9, 8, 7, 6, 5, 4, 3, 2, 1, 0] (.alt 21 [18, 17, 16, 15, 14, 10, 8, 7, 6, 5, 4, 3, 2, 1, 0] (.alt 22 [18, 16, 15, 14, 10, 8, 7, 6, 5, 4, 3, 2, 1, 0] (.take 23 (.alt 24 [23, 18, 16, 15, 14, 10, 8, 7, 6, 5, 4, 3, 1] (.alt 25 [18, 16, 15, 14, 5, 4, 3] (.done []) .nil) .nil)) .nil) .nil) .nil) .nil)) (.alt 20 [19, 18, 17, 16, 15, 14, 11, 10, 9, 8, 7, 6, 5, 4, 3, 2, 1, 0] (.alt 12 [18, 17, 16, 15, 14, 11, 10, 9, 8, 7, 6, 5, 4, 3, 2, 1, 0] (.alt 13 [18, 17, 16, 15, 14, 10, 9, 8, 7, 6, 5, 4, 3, 2, 1, 0] (.alt 21 [18, 17, 16, 15, 14, 10, 8, 7, 6, 5, 4, 3, 2, 1, 0] (.alt 22 [18, 16, 15, 14, 10, 8, 7, 6, 5, 4, 3, 2, 1, 0] (.take 23 (.alt 24 [23, 18, 16, 15, 14, 10, 8, 7, 6, 5, 4, 3, 1] (.alt 25 [18, 16, 15, 14, 5, 4, 3] (.done []) .nil) .nil)) .nil) .nil) .nil) .nil) .nil))))))))))))))))))))) [(6, dk g.dD), (9, .mp 1), (25, prs m.l), (26, .i m.l.length), (27, .i k)]
    (fun M nx => ∃ has val pos, LkI g m (k + 1) M nx has val pos) T_ok (by kernel_rfl) (by kernel_rfl) (by kernel_rfl) (fun _ _ _ _ h => h) ?_ ?_
  rotate_left
  · rintro J' M' nx' ⟨has, val, pos, hI⟩
    simp [go_sem]
    exact ⟨by omega, k + 1, by omega, by simp, by omega, has, val, pos, hI⟩
  have x0 : ¬ a = b := by omega
  have n3 : a < g.nr := by omega
  have n4 : b < g.nr := by omega
  clear hs hmem hm
  have x0' : ¬ b = a := by omega
  -- CASES
  have xi : ¬ (a : Int) = b := by omega
  have xi' : ¬ (b : Int) = a := by omega
  have nn01 : ¬ nx = nx + 1 := by omega
  have nn02 : ¬ nx = nx + 1 + 1 := by omega
  have nn03 : ¬ nx = nx + 1 + 1 + 1 := by omega
  have nn04 : ¬ nx = nx + 1 + 1 + 1 + 1 := by omega
  have nn05 : ¬ nx = nx + 1 + 1 + 1 + 1 + 1 := by omega
  have no00 : ¬ nx = 0 := by omega
  have no00' : ¬ 0 = nx := by omega
  have no01 : ¬ nx = 1 := by omega
  have no01' : ¬ 1 = nx := by omega
  have nn10 : ¬ nx + 1 = nx := by omega
  have nn12 : ¬ nx + 1 = nx + 1 + 1 := by omega
  have nn13 : ¬ nx + 1 = nx + 1 + 1 + 1 := by omega
  have nn14 : ¬ nx + 1 = nx + 1 + 1 + 1 + 1 := by omega
  have nn15 : ¬ nx + 1 = nx + 1 + 1 + 1 + 1 + 1 := by omega
  have no10 : ¬ nx + 1 = 0 := by omega
  have no10' : ¬ 0 = nx + 1 := by omega
  have no11 : ¬ nx + 1 = 1 := by omega
  have no11' : ¬ 1 = nx + 1 := by omega
  have nn20 : ¬ nx + 1 + 1 = nx := by omega
  have nn21 : ¬ nx + 1 + 1 = nx + 1 := by omega
  have nn23 : ¬ nx + 1 + 1 = nx + 1 + 1 + 1 := by omega
  have nn24 : ¬ nx + 1 + 1 = nx + 1 + 1 + 1 + 1 := by omega
  have nn25 : ¬ nx + 1 + 1 = nx + 1 + 1 + 1 + 1 + 1 := by omega
  have no20 : ¬ nx + 1 + 1 = 0 := by omega
  have no20' : ¬ 0 = nx + 1 + 1 := by omega
  have no21 : ¬ nx + 1 + 1 = 1 := by omega
  have no21' : ¬ 1 = nx + 1 + 1 := by omega
  have nn30 : ¬ nx + 1 + 1 + 1 = nx := by omega
  have nn31 : ¬ nx + 1 + 1 + 1 = nx + 1 := by omega
  have nn32 : ¬ nx + 1 + 1 + 1 = nx + 1 + 1 := by omega
  have nn34 : ¬ nx + 1 + 1 + 1 = nx + 1 + 1 + 1 + 1 := by omega
  have nn35 : ¬ nx + 1 + 1 + 1 = nx + 1 + 1 + 1 + 1 + 1 := by omega
  have no30 : ¬ nx + 1 + 1 + 1 = 0 := by omega
  have no30' : ¬ 0 = nx + 1 + 1 + 1 := by omega
  have no31 : ¬ nx + 1 + 1 + 1 = 1 := by omega
  have no31' : ¬ 1 = nx + 1 + 1 + 1 := by omega
  have nn40 : ¬ nx + 1 + 1 + 1 + 1 = nx := by omega
  have nn41 : ¬ nx + 1 + 1 + 1 + 1 = nx + 1 := by omega
  have nn42 : ¬ nx + 1 + 1 + 1 + 1 = nx + 1 + 1 := by omega
  have nn43 : ¬ nx + 1 + 1 + 1 + 1 = nx + 1 + 1 + 1 := by omega
  have nn45 : ¬ nx + 1 + 1 + 1 + 1 = nx + 1 + 1 + 1 + 1 + 1 := by omega
  have no40 : ¬ nx + 1 + 1 + 1 + 1 = 0 := by omega
  have no40' : ¬ 0 = nx + 1 + 1 + 1 + 1 := by omega
  have no41 : ¬ nx + 1 + 1 + 1 + 1 = 1 := by omega
  have no41' : ¬ 1 = nx + 1 + 1 + 1 + 1 := by omega
  have nn50 : ¬ nx + 1 + 1 + 1 + 1 + 1 = nx := by omega
  have nn51 : ¬ nx + 1 + 1 + 1 + 1 + 1 = nx + 1 := by omega
  have nn52 : ¬ nx + 1 + 1 + 1 + 1 + 1 = nx + 1 + 1 := by omega
  have nn53 : ¬ nx + 1 + 1 + 1 + 1 + 1 = nx + 1 + 1 + 1 := by omega
  have nn54 : ¬ nx + 1 + 1 + 1 + 1 + 1 = nx + 1 + 1 + 1 + 1 := by omega
  have no50 : ¬ nx + 1 + 1 + 1 + 1 + 1 = 0 := by omega
  have no50' : ¬ 0 = nx + 1 + 1 + 1 + 1 + 1 := by omega
  have no51 : ¬ nx + 1 + 1 + 1 + 1 + 1 = 1 := by omega
  have no51' : ¬ 1 = nx + 1 + 1 + 1 + 1 + 1 := by omega
  by_cases la : g.looks m a k = []
  · have ha0 := hI.no la
    by_cases lb : g.looks m b k = []
    · have hb0 := hI.no lb
      simp [go_sem, ha0, hb0, hM1, z0, z1, z0', z1', x0, x0', xi, xi', nn01, nn02, nn03, nn04, nn05, no00, no00', no01, no01', nn10, nn12, nn13, nn14, nn15, no10, no10', no11, no11', nn20, nn21, nn23, nn24, nn25, no20, no20', no21, no21', nn30, nn31, nn32, nn34, nn35, no30, no30', no31, no31', nn40, nn41, nn42, nn43, nn45, no40, no40', no41, no41', nn50, nn51, nn52, nn53, nn54, no50, no50', no51, no51']
      refine ⟨⟨?_, ?_⟩, ?_⟩
      · refine GOp_mapEntry T_ok (t := 119) (q := 1) (a := (a : Int)) (has := has) (val := fun x => val x) (st := st) (e := 42) (ei := ⟨1, 24, [.sl], .slice 3⟩) ?_ ?_ ?_ ?_ ?_ ?_ ?_ fun f c => ?_
        · rfl
        · rfl
        · simp [go_sem, ha0, hb0, hM1, z0, z1, z0', z1', x0, x0', xi, xi', nn01, nn02, nn03, nn04, nn05, no00, no00', no01, no01', nn10, nn12, nn13, nn14, nn15, no10, no10', no11, no11', nn20, nn21, nn23, nn24, nn25, no20, no20', no21, no21', nn30, nn31, nn32, nn34, nn35, no30, no30', no31, no31', nn40, nn41, nn42, nn43, nn45, no40, no40', no41, no41', nn50, nn51, nn52, nn53, nn54, no50, no50', no51, no51']
        · rfl
        · rfl
        · rfl
        · simp [go_sem]
        simp [go_sem, ha0, hb0, hM1, z0, z1, z0', z1', x0, x0', xi, xi', nn01, nn02, nn03, nn04, nn05, no00, no00', no01, no01', nn10, nn12, nn13, nn14, nn15, no10, no10', no11, no11', nn20, nn21, nn23, nn24, nn25, no20, no20', no21, no21', nn30, nn31, nn32, nn34, nn35, no30, no30', no31, no31', nn40, nn41, nn42, nn43, nn45, no40, no40', no41, no41', nn50, nn51, nn52, nn53, nn54, no50, no50', no51, no51']
        refine GOp_entryStore (a : Int) (has := fun x => if x = (a : Int) then true else has x) (val := fun x => if x = (a : Int) then (if has (a : Int) = true then (val (a : Int)) else .r (.v (.slice none 0 0))) else val x) (f := f) (c := c) (q := 1) ?_ ?_ ?_ ?_ ?_ ?_ ?_
        · rfl
        · rfl
        · simp [go_sem, ha0, hb0, hM1, z0, z1, z0', z1', x0, x0', xi, xi', nn01, nn02, nn03, nn04, nn05, no00, no00', no01, no01', nn10, nn12, nn13, nn14, nn15, no10, no10', no11, no11', nn20, nn21, nn23, nn24, nn25, no20, no20', no21, no21', nn30, nn31, nn32, nn34, nn35, no30, no30', no31, no31', nn40, nn41, nn42, nn43, nn45, no40, no40', no41, no41', nn50, nn51, nn52, nn53, nn54, no50, no50', no51, no51']
        · simp
        · rfl
        · simp [go_sem]
        simp [go_sem, ha0, hb0, hM1, z0, z1, z0', z1', x0, x0', xi, xi', nn01, nn02, nn03, nn04, nn05, no00, no00', no01, no01', nn10, nn12, nn13, nn14, nn15, no10, no10', no11, no11', nn20, nn21, nn23, nn24, nn25, no20, no20', no21, no21', nn30, nn31, nn32, nn34, nn35, no30, no30', no31, no31', nn40, nn41, nn42, nn43, nn45, no40, no40', no41, no41', nn50, nn51, nn52, nn53, nn54, no50, no50', no51, no51']
        refine ⟨_, _, _, hI.grow x0 n3 n4 hs' (ra := nx + 1 + 1) (rb := nx + 1 + 1 + 1 + 1) ?_ ?_ rfl ?_ ?_ ?_ ?_ ?_ ?_ ?_ ?_ ?_ ?_⟩
        · simp [go_sem, ha0, hb0, hM1, z0, z1, z0', z1', x0, x0', xi, xi', nn01, nn02, nn03, nn04, nn05, no00, no00', no01, no01', nn10, nn12, nn13, nn14, nn15, no10, no10', no11, no11', nn20, nn21, nn23, nn24, nn25, no20, no20', no21, no21', nn30, nn31, nn32, nn34, nn35, no30, no30', no31, no31', nn40, nn41, nn42, nn43, nn45, no40, no40', no41, no41', nn50, nn51, nn52, nn53, nn54, no50, no50', no51, no51', hM0, killM]
        · omega
        · intro x
          rfl
        · simp [go_sem, ha0, hb0, hM1, z0, z1, z0', z1', x0, x0', xi, xi', nn01, nn02, nn03, nn04, nn05, no00, no00', no01, no01', nn10, nn12, nn13, nn14, nn15, no10, no10', no11, no11', nn20, nn21, nn23, nn24, nn25, no20, no20', no21, no21', nn30, nn31, nn32, nn34, nn35, no30, no30', no31, no31', nn40, nn41, nn42, nn43, nn45, no40, no40', no41, no41', nn50, nn51, nn52, nn53, nn54, no50, no50', no51, no51', la]
        · simp [go_sem, ha0, hb0, hM1, z0, z1, z0', z1', x0, x0', xi, xi', nn01, nn02, nn03, nn04, nn05, no00, no00', no01, no01', nn10, nn12, nn13, nn14, nn15, no10, no10', no11, no11', nn20, nn21, nn23, nn24, nn25, no20, no20', no21, no21', nn30, nn31, nn32, nn34, nn35, no30, no30', no31, no31', nn40, nn41, nn42, nn43, nn45, no40, no40', no41, no41', nn50, nn51, nn52, nn53, nn54, no50, no50', no51, no51', lb]
        · intro c c1 c2 c3
          obtain ⟨w1, w2, w3, w4⟩ := hI.hv c c3
          have ci1 : ¬ (c : Int) = a := by omega
          have ci2 : ¬ (c : Int) = b := by omega
          have pc0 : ¬ pos c = nx := by omega
          have pc1 : ¬ pos c = nx + 1 := by omega
          have pc2 : ¬ pos c = nx + 1 + 1 := by omega
          have pc3 : ¬ pos c = nx + 1 + 1 + 1 := by omega
          have pc4 : ¬ pos c = nx + 1 + 1 + 1 + 1 := by omega
          have pc5 : ¬ pos c = nx + 1 + 1 + 1 + 1 + 1 := by omega
          have pc6 : ¬ pos c = 1 := by omega
          simp [go_sem, ha0, hb0, hM1, z0, z1, z0', z1', x0, x0', xi, xi', nn01, nn02, nn03, nn04, nn05, no00, no00', no01, no01', nn10, nn12, nn13, nn14, nn15, no10, no10', no11, no11', nn20, nn21, nn23, nn24, nn25, no20, no20', no21, no21', nn30, nn31, nn32, nn34, nn35, no30, no30', no31, no31', nn40, nn41, nn42, nn43, nn45, no40, no40', no41, no41', nn50, nn51, nn52, nn53, nn54, no50, no50', no51, no51', ci1, ci2, pc0, pc1, pc2, pc3, pc4, pc5, pc6, c1, c2, w1]
        · omega
        · omega
        · rw [la]
          simp [go_sem, ha0, hb0, hM1, z0, z1, z0', z1', x0, x0', xi, xi', nn01, nn02, nn03, nn04, nn05, no00, no00', no01, no01', nn10, nn12, nn13, nn14, nn15, no10, no10', no11, no11', nn20, nn21, nn23, nn24, nn25, no20, no20', no21, no21', nn30, nn31, nn32, nn34, nn35, no30, no30', no31, no31', nn40, nn41, nn42, nn43, nn45, no40, no40', no41, no41', nn50, nn51, nn52, nn53, nn54, no50, no50', no51, no51', isL_one_iff]
        · rw [lb]
          simp [go_sem, ha0, hb0, hM1, z0, z1, z0', z1', x0, x0', xi, xi', nn01, nn02, nn03, nn04, nn05, no00, no00', no01, no01', nn10, nn12, nn13, nn14, nn15, no10, no10', no11, no11', nn20, nn21, nn23, nn24, nn25, no20, no20', no21, no21', nn30, nn31, nn32, nn34, nn35, no30, no30', no31, no31', nn40, nn41, nn42, nn43, nn45, no40, no40', no41, no41', nn50, nn51, nn52, nn53, nn54, no50, no50', no51, no51', isL_one_iff]
        · omega
        · intro c c1 c2 c3
          obtain ⟨w1, w2, w3, w4⟩ := hI.hv c c3
          have ci1 : ¬ (c : Int) = a := by omega
          have ci2 : ¬ (c : Int) = b := by omega
          have pc0 : ¬ pos c = nx := by omega
          have pc1 : ¬ pos c = nx + 1 := by omega
          have pc2 : ¬ pos c = nx + 1 + 1 := by omega
          have pc3 : ¬ pos c = nx + 1 + 1 + 1 := by omega
          have pc4 : ¬ pos c = nx + 1 + 1 + 1 + 1 := by omega
          have pc5 : ¬ pos c = nx + 1 + 1 + 1 + 1 + 1 := by omega
          have pc6 : ¬ pos c = 1 := by omega
          refine ⟨by omega, by omega, ?_⟩
          simp [go_sem, ha0, hb0, hM1, z0, z1, z0', z1', x0, x0', xi, xi', nn01, nn02, nn03, nn04, nn05, no00, no00', no01, no01', nn10, nn12, nn13, nn14, nn15, no10, no10', no11, no11', nn20, nn21, nn23, nn24, nn25, no20, no20', no21, no21', nn30, nn31, nn32, nn34, nn35, no30, no30', no31, no31', nn40, nn41, nn42, nn43, nn45, no40, no40', no41, no41', nn50, nn51, nn52, nn53, nn54, no50, no50', no51, no51', ci1, ci2, pc0, pc1, pc2, pc3, pc4, pc5, pc6, killM]
          exact w4
      · refine GOp_mapEntry T_ok (t := 119) (q := 1) (a := (a : Int)) (has := has) (val := fun x => val x) (st := st) (e := 42) (ei := ⟨1, 24, [.sl], .slice 3⟩) ?_ ?_ ?_ ?_ ?_ ?_ ?_ fun f c => ?_
        · rfl
        · rfl
        · simp [go_sem, ha0, hb0, hM1, z0, z1, z0', z1', x0, x0', xi, xi', nn01, nn02, nn03, nn04, nn05, no00, no00', no01, no01', nn10, nn12, nn13, nn14, nn15, no10, no10', no11, no11', nn20, nn21, nn23, nn24, nn25, no20, no20', no21, no21', nn30, nn31, nn32, nn34, nn35, no30, no30', no31, no31', nn40, nn41, nn42, nn43, nn45, no40, no40', no41, no41', nn50, nn51, nn52, nn53, nn54, no50, no50', no51, no51']
        · rfl
        · rfl
        · rfl
        · simp [go_sem]
        simp [go_sem, ha0, hb0, hM1, z0, z1, z0', z1', x0, x0', xi, xi', nn01, nn02, nn03, nn04, nn05, no00, no00', no01, no01', nn10, nn12, nn13, nn14, nn15, no10, no10', no11, no11', nn20, nn21, nn23, nn24, nn25, no20, no20', no21, no21', nn30, nn31, nn32, nn34, nn35, no30, no30', no31, no31', nn40, nn41, nn42, nn43, nn45, no40, no40', no41, no41', nn50, nn51, nn52, nn53, nn54, no50, no50', no51, no51']
        refine GOp_entryStore (a : Int) (has := fun x => if x = (a : Int) then true else has x) (val := fun x => if x = (a : Int) then (if has (a : Int) = true then (val (a : Int)) else .r (.v (.slice none 0 0))) else val x) (f := f) (c := c) (q := 1) ?_ ?_ ?_ ?_ ?_ ?_ ?_
        · rfl
        · rfl
        · simp [go_sem, ha0, hb0, hM1, z0, z1, z0', z1', x0, x0', xi, xi', nn01, nn02, nn03, nn04, nn05, no00, no00', no01, no01', nn10, nn12, nn13, nn14, nn15, no10, no10', no11, no11', nn20, nn21, nn23, nn24, nn25, no20, no20', no21, no21', nn30, nn31, nn32, nn34, nn35, no30, no30', no31, no31', nn40, nn41, nn42, nn43, nn45, no40, no40', no41, no41', nn50, nn51, nn52, nn53, nn54, no50, no50', no51, no51']
        · simp
        · rfl
        · simp [go_sem]
        simp [go_sem, ha0, hb0, hM1, z0, z1, z0', z1', x0, x0', xi, xi', nn01, nn02, nn03, nn04, nn05, no00, no00', no01, no01', nn10, nn12, nn13, nn14, nn15, no10, no10', no11, no11', nn20, nn21, nn23, nn24, nn25, no20, no20', no21, no21', nn30, nn31, nn32, nn34, nn35, no30, no30', no31, no31', nn40, nn41, nn42, nn43, nn45, no40, no40', no41, no41', nn50, nn51, nn52, nn53, nn54, no50, no50', no51, no51']
        refine ⟨_, _, _, hI.grow x0 n3 n4 hs' (ra := nx + 1 + 1 + 1) (rb := nx + 1 + 1 + 1 + 1) ?_ ?_ rfl ?_ ?_ ?_ ?_ ?_ ?_ ?_ ?_ ?_ ?_⟩
        · simp [go_sem, ha0, hb0, hM1, z0, z1, z0', z1', x0, x0', xi, xi', nn01, nn02, nn03, nn04, nn05, no00, no00', no01, no01', nn10, nn12, nn13, nn14, nn15, no10, no10', no11, no11', nn20, nn21, nn23, nn24, nn25, no20, no20', no21, no21', nn30, nn31, nn32, nn34, nn35, no30, no30', no31, no31', nn40, nn41, nn42, nn43, nn45, no40, no40', no41, no41', nn50, nn51, nn52, nn53, nn54, no50, no50', no51, no51', hM0, killM]
        · omega
        · intro x
          rfl
        · simp [go_sem, ha0, hb0, hM1, z0, z1, z0', z1', x0, x0', xi, xi', nn01, nn02, nn03, nn04, nn05, no00, no00', no01, no01', nn10, nn12, nn13, nn14, nn15, no10, no10', no11, no11', nn20, nn21, nn23, nn24, nn25, no20, no20', no21, no21', nn30, nn31, nn32, nn34, nn35, no30, no30', no31, no31', nn40, nn41, nn42, nn43, nn45, no40, no40', no41, no41', nn50, nn51, nn52, nn53, nn54, no50, no50', no51, no51', la]
        · simp [go_sem, ha0, hb0, hM1, z0, z1, z0', z1', x0, x0', xi, xi', nn01, nn02, nn03, nn04, nn05, no00, no00', no01, no01', nn10, nn12, nn13, nn14, nn15, no10, no10', no11, no11', nn20, nn21, nn23, nn24, nn25, no20, no20', no21, no21', nn30, nn31, nn32, nn34, nn35, no30, no30', no31, no31', nn40, nn41, nn42, nn43, nn45, no40, no40', no41, no41', nn50, nn51, nn52, nn53, nn54, no50, no50', no51, no51', lb]
        · intro c c1 c2 c3
          obtain ⟨w1, w2, w3, w4⟩ := hI.hv c c3
          have ci1 : ¬ (c : Int) = a := by omega
          have ci2 : ¬ (c : Int) = b := by omega
          have pc0 : ¬ pos c = nx := by omega
          have pc1 : ¬ pos c = nx + 1 := by omega
          have pc2 : ¬ pos c = nx + 1 + 1 := by omega
          have pc3 : ¬ pos c = nx + 1 + 1 + 1 := by omega
          have pc4 : ¬ pos c = nx + 1 + 1 + 1 + 1 := by omega
          have pc5 : ¬ pos c = nx + 1 + 1 + 1 + 1 + 1 := by omega
          have pc6 : ¬ pos c = 1 := by omega
          simp [go_sem, ha0, hb0, hM1, z0, z1, z0', z1', x0, x0', xi, xi', nn01, nn02, nn03, nn04, nn05, no00, no00', no01, no01', nn10, nn12, nn13, nn14, nn15, no10, no10', no11, no11', nn20, nn21, nn23, nn24, nn25, no20, no20', no21, no21', nn30, nn31, nn32, nn34, nn35, no30, no30', no31, no31', nn40, nn41, nn42, nn43, nn45, no40, no40', no41, no41', nn50, nn51, nn52, nn53, nn54, no50, no50', no51, no51', ci1, ci2, pc0, pc1, pc2, pc3, pc4, pc5, pc6, c1, c2, w1]
        · omega
        · omega
        · rw [la]
          simp [go_sem, ha0, hb0, hM1, z0, z1, z0', z1', x0, x0', xi, xi', nn01, nn02, nn03, nn04, nn05, no00, no00', no01, no01', nn10, nn12, nn13, nn14, nn15, no10, no10', no11, no11', nn20, nn21, nn23, nn24, nn25, no20, no20', no21, no21', nn30, nn31, nn32, nn34, nn35, no30, no30', no31, no31', nn40, nn41, nn42, nn43, nn45, no40, no40', no41, no41', nn50, nn51, nn52, nn53, nn54, no50, no50', no51, no51', isL_one_iff]
        · rw [lb]
          simp [go_sem, ha0, hb0, hM1, z0, z1, z0', z1', x0, x0', xi, xi', nn01, nn02, nn03, nn04, nn05, no00, no00', no01, no01', nn10, nn12, nn13, nn14, nn15, no10, no10', no11, no11', nn20, nn21, nn23, nn24, nn25, no20, no20', no21, no21', nn30, nn31, nn32, nn34, nn35, no30, no30', no31, no31', nn40, nn41, nn42, nn43, nn45, no40, no40', no41, no41', nn50, nn51, nn52, nn53, nn54, no50, no50', no51, no51', isL_one_iff]
        · omega
        · intro c c1 c2 c3
          obtain ⟨w1, w2, w3, w4⟩ := hI.hv c c3
          have ci1 : ¬ (c : Int) = a := by omega
          have ci2 : ¬ (c : Int) = b := by omega
          have pc0 : ¬ pos c = nx := by omega
          have pc1 : ¬ pos c = nx + 1 := by omega
          have pc2 : ¬ pos c = nx + 1 + 1 := by omega
          have pc3 : ¬ pos c = nx + 1 + 1 + 1 := by omega
          have pc4 : ¬ pos c = nx + 1 + 1 + 1 + 1 := by omega
          have pc5 : ¬ pos c = nx + 1 + 1 + 1 + 1 + 1 := by omega
          have pc6 : ¬ pos c = 1 := by omega
          refine ⟨by omega, by omega, ?_⟩
          simp [go_sem, ha0, hb0, hM1, z0, z1, z0', z1', x0, x0', xi, xi', nn01, nn02, nn03, nn04, nn05, no00, no00', no01, no01', nn10, nn12, nn13, nn14, nn15, no10, no10', no11, no11', nn20, nn21, nn23, nn24, nn25, no20, no20', no21, no21', nn30, nn31, nn32, nn34, nn35, no30, no30', no31, no31', nn40, nn41, nn42, nn43, nn45, no40, no40', no41, no41', nn50, nn51, nn52, nn53, nn54, no50, no50', no51, no51', ci1, ci2, pc0, pc1, pc2, pc3, pc4, pc5, pc6, killM]
          exact w4
      · refine GOp_mapEntry T_ok (t := 119) (q := 1) (a := (a : Int)) (has := has) (val := fun x => val x) (st := st) (e := 42) (ei := ⟨1, 24, [.sl], .slice 3⟩) ?_ ?_ ?_ ?_ ?_ ?_ ?_ fun f c => ?_
        · rfl
        · rfl
        · simp [go_sem, ha0, hb0, hM1, z0, z1, z0', z1', x0, x0', xi, xi', nn01, nn02, nn03, nn04, nn05, no00, no00', no01, no01', nn10, nn12, nn13, nn14, nn15, no10, no10', no11, no11', nn20, nn21, nn23, nn24, nn25, no20, no20', no21, no21', nn30, nn31, nn32, nn34, nn35, no30, no30', no31, no31', nn40, nn41, nn42, nn43, nn45, no40, no40', no41, no41', nn50, nn51, nn52, nn53, nn54, no50, no50', no51, no51']
        · rfl
        · rfl
        · rfl
        · simp [go_sem]
        simp [go_sem, ha0, hb0, hM1, z0, z1, z0', z1', x0, x0', xi, xi', nn01, nn02, nn03, nn04, nn05, no00, no00', no01, no01', nn10, nn12, nn13, nn14, nn15, no10, no10', no11, no11', nn20, nn21, nn23, nn24, nn25, no20, no20', no21, no21', nn30, nn31, nn32, nn34, nn35, no30, no30', no31, no31', nn40, nn41, nn42, nn43, nn45, no40, no40', no41, no41', nn50, nn51, nn52, nn53, nn54, no50, no50', no51, no51']
        refine GOp_entryStore (a : Int) (has := fun x => if x = (a : Int) then true else has x) (val := fun x => if x = (a : Int) then (if has (a : Int) = true then (val (a : Int)) else .r (.v (.slice none 0 0))) else val x) (f := f) (c := c) (q := 1) ?_ ?_ ?_ ?_ ?_ ?_ ?_
        · rfl
        · rfl
        · simp [go_sem, ha0, hb0, hM1, z0, z1, z0', z1', x0, x0', xi, xi', nn01, nn02, nn03, nn04, nn05, no00, no00', no01, no01', nn10, nn12, nn13, nn14, nn15, no10, no10', no11, no11', nn20, nn21, nn23, nn24, nn25, no20, no20', no21, no21', nn30, nn31, nn32, nn34, nn35, no30, no30', no31, no31', nn40, nn41, nn42, nn43, nn45, no40, no40', no41, no41', nn50, nn51, nn52, nn53, nn54, no50, no50', no51, no51']
        · simp
        · rfl
        · simp [go_sem]
        simp [go_sem, ha0, hb0, hM1, z0, z1, z0', z1', x0, x0', xi, xi', nn01, nn02, nn03, nn04, nn05, no00, no00', no01, no01', nn10, nn12, nn13, nn14, nn15, no10, no10', no11, no11', nn20, nn21, nn23, nn24, nn25, no20, no20', no21, no21', nn30, nn31, nn32, nn34, nn35, no30, no30', no31, no31', nn40, nn41, nn42, nn43, nn45, no40, no40', no41, no41', nn50, nn51, nn52, nn53, nn54, no50, no50', no51, no51']
        refine ⟨_, _, _, hI.grow x0 n3 n4 hs' (ra := nx + 1 + 1 + 1) (rb := nx + 1 + 1 + 1 + 1) ?_ ?_ rfl ?_ ?_ ?_ ?_ ?_ ?_ ?_ ?_ ?_ ?_⟩
        · simp [go_sem, ha0, hb0, hM1, z0, z1, z0', z1', x0, x0', xi, xi', nn01, nn02, nn03, nn04, nn05, no00, no00', no01, no01', nn10, nn12, nn13, nn14, nn15, no10, no10', no11, no11', nn20, nn21, nn23, nn24, nn25, no20, no20', no21, no21', nn30, nn31, nn32, nn34, nn35, no30, no30', no31, no31', nn40, nn41, nn42, nn43, nn45, no40, no40', no41, no41', nn50, nn51, nn52, nn53, nn54, no50, no50', no51, no51', hM0, killM]
        · omega
        · intro x
          rfl
        · simp [go_sem, ha0, hb0, hM1, z0, z1, z0', z1', x0, x0', xi, xi', nn01, nn02, nn03, nn04, nn05, no00, no00', no01, no01', nn10, nn12, nn13, nn14, nn15, no10, no10', no11, no11', nn20, nn21, nn23, nn24, nn25, no20, no20', no21, no21', nn30, nn31, nn32, nn34, nn35, no30, no30', no31, no31', nn40, nn41, nn42, nn43, nn45, no40, no40', no41, no41', nn50, nn51, nn52, nn53, nn54, no50, no50', no51, no51', la]
        · simp [go_sem, ha0, hb0, hM1, z0, z1, z0', z1', x0, x0', xi, xi', nn01, nn02, nn03, nn04, nn05, no00, no00', no01, no01', nn10, nn12, nn13, nn14, nn15, no10, no10', no11, no11', nn20, nn21, nn23, nn24, nn25, no20, no20', no21, no21', nn30, nn31, nn32, nn34, nn35, no30, no30', no31, no31', nn40, nn41, nn42, nn43, nn45, no40, no40', no41, no41', nn50, nn51, nn52, nn53, nn54, no50, no50', no51, no51', lb]
        · intro c c1 c2 c3
          obtain ⟨w1, w2, w3, w4⟩ := hI.hv c c3
          have ci1 : ¬ (c : Int) = a := by omega
          have ci2 : ¬ (c : Int) = b := by omega
          have pc0 : ¬ pos c = nx := by omega
          have pc1 : ¬ pos c = nx + 1 := by omega
          have pc2 : ¬ pos c = nx + 1 + 1 := by omega
          have pc3 : ¬ pos c = nx + 1 + 1 + 1 := by omega
          have pc4 : ¬ pos c = nx + 1 + 1 + 1 + 1 := by omega
          have pc5 : ¬ pos c = nx + 1 + 1 + 1 + 1 + 1 := by omega
          have pc6 : ¬ pos c = 1 := by omega
          simp [go_sem, ha0, hb0, hM1, z0, z1, z0', z1', x0, x0', xi, xi', nn01, nn02, nn03, nn04, nn05, no00, no00', no01, no01', nn10, nn12, nn13, nn14, nn15, no10, no10', no11, no11', nn20, nn21, nn23, nn24, nn25, no20, no20', no21, no21', nn30, nn31, nn32, nn34, nn35, no30, no30', no31, no31', nn40, nn41, nn42, nn43, nn45, no40, no40', no41, no41', nn50, nn51, nn52, nn53, nn54, no50, no50', no51, no51', ci1, ci2, pc0, pc1, pc2, pc3, pc4, pc5, pc6, c1, c2, w1]
        · omega
        · omega
        · rw [la]
          simp [go_sem, ha0, hb0, hM1, z0, z1, z0', z1', x0, x0', xi, xi', nn01, nn02, nn03, nn04, nn05, no00, no00', no01, no01', nn10, nn12, nn13, nn14, nn15, no10, no10', no11, no11', nn20, nn21, nn23, nn24, nn25, no20, no20', no21, no21', nn30, nn31, nn32, nn34, nn35, no30, no30', no31, no31', nn40, nn41, nn42, nn43, nn45, no40, no40', no41, no41', nn50, nn51, nn52, nn53, nn54, no50, no50', no51, no51', isL_one_iff]
        · rw [lb]
          simp [go_sem, ha0, hb0, hM1, z0, z1, z0', z1', x0, x0', xi, xi', nn01, nn02, nn03, nn04, nn05, no00, no00', no01, no01', nn10, nn12, nn13, nn14, nn15, no10, no10', no11, no11', nn20, nn21, nn23, nn24, nn25, no20, no20', no21, no21', nn30, nn31, nn32, nn34, nn35, no30, no30', no31, no31', nn40, nn41, nn42, nn43, nn45, no40, no40', no41, no41', nn50, nn51, nn52, nn53, nn54, no50, no50', no51, no51', isL_one_iff]
        · omega
        · intro c c1 c2 c3
          obtain ⟨w1, w2, w3, w4⟩ := hI.hv c c3
          have ci1 : ¬ (c : Int) = a := by omega
          have ci2 : ¬ (c : Int) = b := by omega
          have pc0 : ¬ pos c = nx := by omega
          have pc1 : ¬ pos c = nx + 1 := by omega
          have pc2 : ¬ pos c = nx + 1 + 1 := by omega
          have pc3 : ¬ pos c = nx + 1 + 1 + 1 := by omega
          have pc4 : ¬ pos c = nx + 1 + 1 + 1 + 1 := by omega
          have pc5 : ¬ pos c = nx + 1 + 1 + 1 + 1 + 1 := by omega
          have pc6 : ¬ pos c = 1 := by omega
          refine ⟨by omega, by omega, ?_⟩
          simp [go_sem, ha0, hb0, hM1, z0, z1, z0', z1', x0, x0', xi, xi', nn01, nn02, nn03, nn04, nn05, no00, no00', no01, no01', nn10, nn12, nn13, nn14, nn15, no10, no10', no11, no11', nn20, nn21, nn23, nn24, nn25, no20, no20', no21, no21', nn30, nn31, nn32, nn34, nn35, no30, no30', no31, no31', nn40, nn41, nn42, nn43, nn45, no40, no40', no41, no41', nn50, nn51, nn52, nn53, nn54, no50, no50', no51, no51', ci1, ci2, pc0, pc1, pc2, pc3, pc4, pc5, pc6, killM]
          exact w4
    · skip
      have hcb := hI.yes n4 lb
      obtain ⟨qb1, qb2, qb3, fb, qb5, qb6⟩ := hI.hv b hcb
      have vb := qb1
      have bb1 : ((g.looks m b k).length + 1) * 8 ≤ 140737488355328 := by have := g.looks_len m b k; omega
      have bb2 : (g.looks m b k).length ≤ 9223372036854775806 := by have := g.looks_len m b k; omega
      have pb0 : ¬ pos b = nx := by omega
      have pb0' : ¬ nx = pos b := by omega
      have pb1 : ¬ pos b = nx + 1 := by omega
      have pb1' : ¬ nx + 1 = pos b := by omega
      have pb2 : ¬ pos b = nx + 1 + 1 := by omega
      have pb2' : ¬ nx + 1 + 1 = pos b := by omega
      have pb3 : ¬ pos b = nx + 1 + 1 + 1 := by omega
      have pb3' : ¬ nx + 1 + 1 + 1 = pos b := by omega
      have pb4 : ¬ pos b = nx + 1 + 1 + 1 + 1 := by omega
      have pb4' : ¬ nx + 1 + 1 + 1 + 1 = pos b := by omega
      have pb5 : ¬ pos b = nx + 1 + 1 + 1 + 1 + 1 := by omega
      have pb5' : ¬ nx + 1 + 1 + 1 + 1 + 1 = pos b := by omega
      have rb0 : ¬ pos b = 0 := by omega
      have rb0' : ¬ 0 = pos b := by omega
      have rb1 : ¬ pos b = 1 := by omega
      have rb1' : ¬ 1 = pos b := by omega
      simp [go_sem, ha0, vb, qb5, hcb, bb1, bb2, pb0, pb0', pb1, pb1', pb2, pb2', pb3, pb3', pb4, pb4', pb5, pb5', rb0, rb0', rb1, rb1', hM1, z0, z1, z0', z1', x0, x0', xi, xi', nn01, nn02, nn03, nn04, nn05, no00, no00', no01, no01', nn10, nn12, nn13, nn14, nn15, no10, no10', no11, no11', nn20, nn21, nn23, nn24, nn25, no20, no20', no21, no21', nn30, nn31, nn32, nn34, nn35, no30, no30', no31, no31', nn40, nn41, nn42, nn43, nn45, no40, no40', no41, no41', nn50, nn51, nn52, nn53, nn54, no50, no50', no51, no51']
      refine ⟨⟨?_, ?_⟩, ?_⟩
      · refine GOp_mapEntry T_ok (t := 119) (q := 1) (a := (a : Int)) (has := has) (val := fun x => (val x).kill (pos b)) (st := st) (e := 42) (ei := ⟨1, 24, [.sl], .slice 3⟩) ?_ ?_ ?_ ?_ ?_ ?_ ?_ fun f c => ?_
        · rfl
        · rfl
        · simp [go_sem, ha0, vb, qb5, hcb, bb1, bb2, pb0, pb0', pb1, pb1', pb2, pb2', pb3, pb3', pb4, pb4', pb5, pb5', rb0, rb0', rb1, rb1', hM1, z0, z1, z0', z1', x0, x0', xi, xi', nn01, nn02, nn03, nn04, nn05, no00, no00', no01, no01', nn10, nn12, nn13, nn14, nn15, no10, no10', no11, no11', nn20, nn21, nn23, nn24, nn25, no20, no20', no21, no21', nn30, nn31, nn32, nn34, nn35, no30, no30', no31, no31', nn40, nn41, nn42, nn43, nn45, no40, no40', no41, no41', nn50, nn51, nn52, nn53, nn54, no50, no50', no51, no51']
        · rfl
        · rfl
        · rfl
        · simp [go_sem]
        simp [go_sem, ha0, vb, qb5, hcb, bb1, bb2, pb0, pb0', pb1, pb1', pb2, pb2', pb3, pb3', pb4, pb4', pb5, pb5', rb0, rb0', rb1, rb1', hM1, z0, z1, z0', z1', x0, x0', xi, xi', nn01, nn02, nn03, nn04, nn05, no00, no00', no01, no01', nn10, nn12, nn13, nn14, nn15, no10, no10', no11, no11', nn20, nn21, nn23, nn24, nn25, no20, no20', no21, no21', nn30, nn31, nn32, nn34, nn35, no30, no30', no31, no31', nn40, nn41, nn42, nn43, nn45, no40, no40', no41, no41', nn50, nn51, nn52, nn53, nn54, no50, no50', no51, no51']
        refine GOp_entryStore (a : Int) (has := fun x => if x = (a : Int) then true else has x) (val := fun x => if x = (a : Int) then (if has (a : Int) = true then ((val (a : Int)).kill (pos b)) else .r (.v (.slice none 0 0))) else (val x).kill (pos b)) (f := f) (c := c) (q := 1) ?_ ?_ ?_ ?_ ?_ ?_ ?_
        · rfl
        · rfl
        · simp [go_sem, ha0, vb, qb5, hcb, bb1, bb2, pb0, pb0', pb1, pb1', pb2, pb2', pb3, pb3', pb4, pb4', pb5, pb5', rb0, rb0', rb1, rb1', hM1, z0, z1, z0', z1', x0, x0', xi, xi', nn01, nn02, nn03, nn04, nn05, no00, no00', no01, no01', nn10, nn12, nn13, nn14, nn15, no10, no10', no11, no11', nn20, nn21, nn23, nn24, nn25, no20, no20', no21, no21', nn30, nn31, nn32, nn34, nn35, no30, no30', no31, no31', nn40, nn41, nn42, nn43, nn45, no40, no40', no41, no41', nn50, nn51, nn52, nn53, nn54, no50, no50', no51, no51']
        · simp
        · rfl
        · simp [go_sem]
        simp [go_sem, ha0, vb, qb5, hcb, bb1, bb2, pb0, pb0', pb1, pb1', pb2, pb2', pb3, pb3', pb4, pb4', pb5, pb5', rb0, rb0', rb1, rb1', hM1, z0, z1, z0', z1', x0, x0', xi, xi', nn01, nn02, nn03, nn04, nn05, no00, no00', no01, no01', nn10, nn12, nn13, nn14, nn15, no10, no10', no11, no11', nn20, nn21, nn23, nn24, nn25, no20, no20', no21, no21', nn30, nn31, nn32, nn34, nn35, no30, no30', no31, no31', nn40, nn41, nn42, nn43, nn45, no40, no40', no41, no41', nn50, nn51, nn52, nn53, nn54, no50, no50', no51, no51']
        refine ⟨_, _, _, hI.grow x0 n3 n4 hs' (ra := nx + 1 + 1) (rb := pos b) ?_ ?_ rfl ?_ ?_ ?_ ?_ ?_ ?_ ?_ ?_ ?_ ?_⟩
        · simp [go_sem, ha0, vb, qb5, hcb, bb1, bb2, pb0, pb0', pb1, pb1', pb2, pb2', pb3, pb3', pb4, pb4', pb5, pb5', rb0, rb0', rb1, rb1', hM1, z0, z1, z0', z1', x0, x0', xi, xi', nn01, nn02, nn03, nn04, nn05, no00, no00', no01, no01', nn10, nn12, nn13, nn14, nn15, no10, no10', no11, no11', nn20, nn21, nn23, nn24, nn25, no20, no20', no21, no21', nn30, nn31, nn32, nn34, nn35, no30, no30', no31, no31', nn40, nn41, nn42, nn43, nn45, no40, no40', no41, no41', nn50, nn51, nn52, nn53, nn54, no50, no50', no51, no51', hM0, killM]
        · omega
        · intro x
          rfl
        · simp [go_sem, ha0, vb, qb5, hcb, bb1, bb2, pb0, pb0', pb1, pb1', pb2, pb2', pb3, pb3', pb4, pb4', pb5, pb5', rb0, rb0', rb1, rb1', hM1, z0, z1, z0', z1', x0, x0', xi, xi', nn01, nn02, nn03, nn04, nn05, no00, no00', no01, no01', nn10, nn12, nn13, nn14, nn15, no10, no10', no11, no11', nn20, nn21, nn23, nn24, nn25, no20, no20', no21, no21', nn30, nn31, nn32, nn34, nn35, no30, no30', no31, no31', nn40, nn41, nn42, nn43, nn45, no40, no40', no41, no41', nn50, nn51, nn52, nn53, nn54, no50, no50', no51, no51', la]
        · simp [go_sem, ha0, vb, qb5, hcb, bb1, bb2, pb0, pb0', pb1, pb1', pb2, pb2', pb3, pb3', pb4, pb4', pb5, pb5', rb0, rb0', rb1, rb1', hM1, z0, z1, z0', z1', x0, x0', xi, xi', nn01, nn02, nn03, nn04, nn05, no00, no00', no01, no01', nn10, nn12, nn13, nn14, nn15, no10, no10', no11, no11', nn20, nn21, nn23, nn24, nn25, no20, no20', no21, no21', nn30, nn31, nn32, nn34, nn35, no30, no30', no31, no31', nn40, nn41, nn42, nn43, nn45, no40, no40', no41, no41', nn50, nn51, nn52, nn53, nn54, no50, no50', no51, no51']
        · intro c c1 c2 c3
          obtain ⟨w1, w2, w3, w4⟩ := hI.hv c c3
          have ci1 : ¬ (c : Int) = a := by omega
          have ci2 : ¬ (c : Int) = b := by omega
          have pc0 : ¬ pos c = nx := by omega
          have pc1 : ¬ pos c = nx + 1 := by omega
          have pc2 : ¬ pos c = nx + 1 + 1 := by omega
          have pc3 : ¬ pos c = nx + 1 + 1 + 1 := by omega
          have pc4 : ¬ pos c = nx + 1 + 1 + 1 + 1 := by omega
          have pc5 : ¬ pos c = nx + 1 + 1 + 1 + 1 + 1 := by omega
          have pc6 : ¬ pos c = 1 := by omega
          have kb : ¬ pos c = pos b := fun e => c2 (hI.hi c b c3 hcb e)
          simp [go_sem, ha0, vb, qb5, hcb, bb1, bb2, pb0, pb0', pb1, pb1', pb2, pb2', pb3, pb3', pb4, pb4', pb5, pb5', rb0, rb0', rb1, rb1', hM1, z0, z1, z0', z1', x0, x0', xi, xi', nn01, nn02, nn03, nn04, nn05, no00, no00', no01, no01', nn10, nn12, nn13, nn14, nn15, no10, no10', no11, no11', nn20, nn21, nn23, nn24, nn25, no20, no20', no21, no21', nn30, nn31, nn32, nn34, nn35, no30, no30', no31, no31', nn40, nn41, nn42, nn43, nn45, no40, no40', no41, no41', nn50, nn51, nn52, nn53, nn54, no50, no50', no51, no51', ci1, ci2, pc0, pc1, pc2, pc3, pc4, pc5, pc6, kb, c1, c2, w1]
        · omega
        · omega
        · rw [la]
          simp [go_sem, ha0, vb, qb5, hcb, bb1, bb2, pb0, pb0', pb1, pb1', pb2, pb2', pb3, pb3', pb4, pb4', pb5, pb5', rb0, rb0', rb1, rb1', hM1, z0, z1, z0', z1', x0, x0', xi, xi', nn01, nn02, nn03, nn04, nn05, no00, no00', no01, no01', nn10, nn12, nn13, nn14, nn15, no10, no10', no11, no11', nn20, nn21, nn23, nn24, nn25, no20, no20', no21, no21', nn30, nn31, nn32, nn34, nn35, no30, no30', no31, no31', nn40, nn41, nn42, nn43, nn45, no40, no40', no41, no41', nn50, nn51, nn52, nn53, nn54, no50, no50', no51, no51', isL_one_iff]
        · simp [go_sem, ha0, vb, qb5, hcb, bb1, bb2, pb0, pb0', pb1, pb1', pb2, pb2', pb3, pb3', pb4, pb4', pb5, pb5', rb0, rb0', rb1, rb1', hM1, z0, z1, z0', z1', x0, x0', xi, xi', nn01, nn02, nn03, nn04, nn05, no00, no00', no01, no01', nn10, nn12, nn13, nn14, nn15, no10, no10', no11, no11', nn20, nn21, nn23, nn24, nn25, no20, no20', no21, no21', nn30, nn31, nn32, nn34, nn35, no30, no30', no31, no31', nn40, nn41, nn42, nn43, nn45, no40, no40', no41, no41', nn50, nn51, nn52, nn53, nn54, no50, no50', no51, no51', killM]
          exact isL_app qb6 rfl rfl
        · omega
        · intro c c1 c2 c3
          obtain ⟨w1, w2, w3, w4⟩ := hI.hv c c3
          have ci1 : ¬ (c : Int) = a := by omega
          have ci2 : ¬ (c : Int) = b := by omega
          have pc0 : ¬ pos c = nx := by omega
          have pc1 : ¬ pos c = nx + 1 := by omega
          have pc2 : ¬ pos c = nx + 1 + 1 := by omega
          have pc3 : ¬ pos c = nx + 1 + 1 + 1 := by omega
          have pc4 : ¬ pos c = nx + 1 + 1 + 1 + 1 := by omega
          have pc5 : ¬ pos c = nx + 1 + 1 + 1 + 1 + 1 := by omega
          have pc6 : ¬ pos c = 1 := by omega
          have kb : ¬ pos c = pos b := fun e => c2 (hI.hi c b c3 hcb e)
          refine ⟨by omega, kb, ?_⟩
          simp [go_sem, ha0, vb, qb5, hcb, bb1, bb2, pb0, pb0', pb1, pb1', pb2, pb2', pb3, pb3', pb4, pb4', pb5, pb5', rb0, rb0', rb1, rb1', hM1, z0, z1, z0', z1', x0, x0', xi, xi', nn01, nn02, nn03, nn04, nn05, no00, no00', no01, no01', nn10, nn12, nn13, nn14, nn15, no10, no10', no11, no11', nn20, nn21, nn23, nn24, nn25, no20, no20', no21, no21', nn30, nn31, nn32, nn34, nn35, no30, no30', no31, no31', nn40, nn41, nn42, nn43, nn45, no40, no40', no41, no41', nn50, nn51, nn52, nn53, nn54, no50, no50', no51, no51', ci1, ci2, pc0, pc1, pc2, pc3, pc4, pc5, pc6, kb, killM]
          exact isL_kill (pos b) (w4)
      · refine GOp_mapEntry T_ok (t := 119) (q := 1) (a := (a : Int)) (has := has) (val := fun x => (val x).kill (pos b)) (st := st) (e := 42) (ei := ⟨1, 24, [.sl], .slice 3⟩) ?_ ?_ ?_ ?_ ?_ ?_ ?_ fun f c => ?_
        · rfl
        · rfl
        · simp [go_sem, ha0, vb, qb5, hcb, bb1, bb2, pb0, pb0', pb1, pb1', pb2, pb2', pb3, pb3', pb4, pb4', pb5, pb5', rb0, rb0', rb1, rb1', hM1, z0, z1, z0', z1', x0, x0', xi, xi', nn01, nn02, nn03, nn04, nn05, no00, no00', no01, no01', nn10, nn12, nn13, nn14, nn15, no10, no10', no11, no11', nn20, nn21, nn23, nn24, nn25, no20, no20', no21, no21', nn30, nn31, nn32, nn34, nn35, no30, no30', no31, no31', nn40, nn41, nn42, nn43, nn45, no40, no40', no41, no41', nn50, nn51, nn52, nn53, nn54, no50, no50', no51, no51']
        · rfl
        · rfl
        · rfl
        · simp [go_sem]
        simp [go_sem, ha0, vb, qb5, hcb, bb1, bb2, pb0, pb0', pb1, pb1', pb2, pb2', pb3, pb3', pb4, pb4', pb5, pb5', rb0, rb0', rb1, rb1', hM1, z0, z1, z0', z1', x0, x0', xi, xi', nn01, nn02, nn03, nn04, nn05, no00, no00', no01, no01', nn10, nn12, nn13, nn14, nn15, no10, no10', no11, no11', nn20, nn21, nn23, nn24, nn25, no20, no20', no21, no21', nn30, nn31, nn32, nn34, nn35, no30, no30', no31, no31', nn40, nn41, nn42, nn43, nn45, no40, no40', no41, no41', nn50, nn51, nn52, nn53, nn54, no50, no50', no51, no51']
        refine GOp_entryStore (a : Int) (has := fun x => if x = (a : Int) then true else has x) (val := fun x => if x = (a : Int) then (if has (a : Int) = true then ((val (a : Int)).kill (pos b)) else .r (.v (.slice none 0 0))) else (val x).kill (pos b)) (f := f) (c := c) (q := 1) ?_ ?_ ?_ ?_ ?_ ?_ ?_
        · rfl
        · rfl
        · simp [go_sem, ha0, vb, qb5, hcb, bb1, bb2, pb0, pb0', pb1, pb1', pb2, pb2', pb3, pb3', pb4, pb4', pb5, pb5', rb0, rb0', rb1, rb1', hM1, z0, z1, z0', z1', x0, x0', xi, xi', nn01, nn02, nn03, nn04, nn05, no00, no00', no01, no01', nn10, nn12, nn13, nn14, nn15, no10, no10', no11, no11', nn20, nn21, nn23, nn24, nn25, no20, no20', no21, no21', nn30, nn31, nn32, nn34, nn35, no30, no30', no31, no31', nn40, nn41, nn42, nn43, nn45, no40, no40', no41, no41', nn50, nn51, nn52, nn53, nn54, no50, no50', no51, no51']
        · simp
        · rfl
        · simp [go_sem]
        simp [go_sem, ha0, vb, qb5, hcb, bb1, bb2, pb0, pb0', pb1, pb1', pb2, pb2', pb3, pb3', pb4, pb4', pb5, pb5', rb0, rb0', rb1, rb1', hM1, z0, z1, z0', z1', x0, x0', xi, xi', nn01, nn02, nn03, nn04, nn05, no00, no00', no01, no01', nn10, nn12, nn13, nn14, nn15, no10, no10', no11, no11', nn20, nn21, nn23, nn24, nn25, no20, no20', no21, no21', nn30, nn31, nn32, nn34, nn35, no30, no30', no31, no31', nn40, nn41, nn42, nn43, nn45, no40, no40', no41, no41', nn50, nn51, nn52, nn53, nn54, no50, no50', no51, no51']
        refine ⟨_, _, _, hI.grow x0 n3 n4 hs' (ra := nx + 1 + 1 + 1) (rb := pos b) ?_ ?_ rfl ?_ ?_ ?_ ?_ ?_ ?_ ?_ ?_ ?_ ?_⟩
        · simp [go_sem, ha0, vb, qb5, hcb, bb1, bb2, pb0, pb0', pb1, pb1', pb2, pb2', pb3, pb3', pb4, pb4', pb5, pb5', rb0, rb0', rb1, rb1', hM1, z0, z1, z0', z1', x0, x0', xi, xi', nn01, nn02, nn03, nn04, nn05, no00, no00', no01, no01', nn10, nn12, nn13, nn14, nn15, no10, no10', no11, no11', nn20, nn21, nn23, nn24, nn25, no20, no20', no21, no21', nn30, nn31, nn32, nn34, nn35, no30, no30', no31, no31', nn40, nn41, nn42, nn43, nn45, no40, no40', no41, no41', nn50, nn51, nn52, nn53, nn54, no50, no50', no51, no51', hM0, killM]
        · omega
        · intro x
          rfl
        · simp [go_sem, ha0, vb, qb5, hcb, bb1, bb2, pb0, pb0', pb1, pb1', pb2, pb2', pb3, pb3', pb4, pb4', pb5, pb5', rb0, rb0', rb1, rb1', hM1, z0, z1, z0', z1', x0, x0', xi, xi', nn01, nn02, nn03, nn04, nn05, no00, no00', no01, no01', nn10, nn12, nn13, nn14, nn15, no10, no10', no11, no11', nn20, nn21, nn23, nn24, nn25, no20, no20', no21, no21', nn30, nn31, nn32, nn34, nn35, no30, no30', no31, no31', nn40, nn41, nn42, nn43, nn45, no40, no40', no41, no41', nn50, nn51, nn52, nn53, nn54, no50, no50', no51, no51', la]
        · simp [go_sem, ha0, vb, qb5, hcb, bb1, bb2, pb0, pb0', pb1, pb1', pb2, pb2', pb3, pb3', pb4, pb4', pb5, pb5', rb0, rb0', rb1, rb1', hM1, z0, z1, z0', z1', x0, x0', xi, xi', nn01, nn02, nn03, nn04, nn05, no00, no00', no01, no01', nn10, nn12, nn13, nn14, nn15, no10, no10', no11, no11', nn20, nn21, nn23, nn24, nn25, no20, no20', no21, no21', nn30, nn31, nn32, nn34, nn35, no30, no30', no31, no31', nn40, nn41, nn42, nn43, nn45, no40, no40', no41, no41', nn50, nn51, nn52, nn53, nn54, no50, no50', no51, no51']
        · intro c c1 c2 c3
          obtain ⟨w1, w2, w3, w4⟩ := hI.hv c c3
          have ci1 : ¬ (c : Int) = a := by omega
          have ci2 : ¬ (c : Int) = b := by omega
          have pc0 : ¬ pos c = nx := by omega
          have pc1 : ¬ pos c = nx + 1 := by omega
          have pc2 : ¬ pos c = nx + 1 + 1 := by omega
          have pc3 : ¬ pos c = nx + 1 + 1 + 1 := by omega
          have pc4 : ¬ pos c = nx + 1 + 1 + 1 + 1 := by omega
          have pc5 : ¬ pos c = nx + 1 + 1 + 1 + 1 + 1 := by omega
          have pc6 : ¬ pos c = 1 := by omega
          have kb : ¬ pos c = pos b := fun e => c2 (hI.hi c b c3 hcb e)
          simp [go_sem, ha0, vb, qb5, hcb, bb1, bb2, pb0, pb0', pb1, pb1', pb2, pb2', pb3, pb3', pb4, pb4', pb5, pb5', rb0, rb0', rb1, rb1', hM1, z0, z1, z0', z1', x0, x0', xi, xi', nn01, nn02, nn03, nn04, nn05, no00, no00', no01, no01', nn10, nn12, nn13, nn14, nn15, no10, no10', no11, no11', nn20, nn21, nn23, nn24, nn25, no20, no20', no21, no21', nn30, nn31, nn32, nn34, nn35, no30, no30', no31, no31', nn40, nn41, nn42, nn43, nn45, no40, no40', no41, no41', nn50, nn51, nn52, nn53, nn54, no50, no50', no51, no51', ci1, ci2, pc0, pc1, pc2, pc3, pc4, pc5, pc6, kb, c1, c2, w1]
        · omega
        · omega
        · rw [la]
          simp [go_sem, ha0, vb, qb5, hcb, bb1, bb2, pb0, pb0', pb1, pb1', pb2, pb2', pb3, pb3', pb4, pb4', pb5, pb5', rb0, rb0', rb1, rb1', hM1, z0, z1, z0', z1', x0, x0', xi, xi', nn01, nn02, nn03, nn04, nn05, no00, no00', no01, no01', nn10, nn12, nn13, nn14, nn15, no10, no10', no11, no11', nn20, nn21, nn23, nn24, nn25, no20, no20', no21, no21', nn30, nn31, nn32, nn34, nn35, no30, no30', no31, no31', nn40, nn41, nn42, nn43, nn45, no40, no40', no41, no41', nn50, nn51, nn52, nn53, nn54, no50, no50', no51, no51', isL_one_iff]
        · simp [go_sem, ha0, vb, qb5, hcb, bb1, bb2, pb0, pb0', pb1, pb1', pb2, pb2', pb3, pb3', pb4, pb4', pb5, pb5', rb0, rb0', rb1, rb1', hM1, z0, z1, z0', z1', x0, x0', xi, xi', nn01, nn02, nn03, nn04, nn05, no00, no00', no01, no01', nn10, nn12, nn13, nn14, nn15, no10, no10', no11, no11', nn20, nn21, nn23, nn24, nn25, no20, no20', no21, no21', nn30, nn31, nn32, nn34, nn35, no30, no30', no31, no31', nn40, nn41, nn42, nn43, nn45, no40, no40', no41, no41', nn50, nn51, nn52, nn53, nn54, no50, no50', no51, no51', killM]
          exact isL_app qb6 rfl rfl
        · omega
        · intro c c1 c2 c3
          obtain ⟨w1, w2, w3, w4⟩ := hI.hv c c3
          have ci1 : ¬ (c : Int) = a := by omega
          have ci2 : ¬ (c : Int) = b := by omega
          have pc0 : ¬ pos c = nx := by omega
          have pc1 : ¬ pos c = nx + 1 := by omega
          have pc2 : ¬ pos c = nx + 1 + 1 := by omega
          have pc3 : ¬ pos c = nx + 1 + 1 + 1 := by omega
          have pc4 : ¬ pos c = nx + 1 + 1 + 1 + 1 := by omega
          have pc5 : ¬ pos c = nx + 1 + 1 + 1 + 1 + 1 := by omega
          have pc6 : ¬ pos c = 1 := by omega
          have kb : ¬ pos c = pos b := fun e => c2 (hI.hi c b c3 hcb e)
          refine ⟨by omega, kb, ?_⟩
          simp [go_sem, ha0, vb, qb5, hcb, bb1, bb2, pb0, pb0', pb1, pb1', pb2, pb2', pb3, pb3', pb4, pb4', pb5, pb5', rb0, rb0', rb1, rb1', hM1, z0, z1, z0', z1', x0, x0', xi, xi', nn01, nn02, nn03, nn04, nn05, no00, no00', no01, no01', nn10, nn12, nn13, nn14, nn15, no10, no10', no11, no11', nn20, nn21, nn23, nn24, nn25, no20, no20', no21, no21', nn30, nn31, nn32, nn34, nn35, no30, no30', no31, no31', nn40, nn41, nn42, nn43, nn45, no40, no40', no41, no41', nn50, nn51, nn52, nn53, nn54, no50, no50', no51, no51', ci1, ci2, pc0, pc1, pc2, pc3, pc4, pc5, pc6, kb, killM]
          exact isL_kill (pos b) (w4)
      · refine GOp_mapEntry T_ok (t := 119) (q := 1) (a := (a : Int)) (has := has) (val := fun x => (val x).kill (pos b)) (st := st) (e := 42) (ei := ⟨1, 24, [.sl], .slice 3⟩) ?_ ?_ ?_ ?_ ?_ ?_ ?_ fun f c => ?_
        · rfl
        · rfl
        · simp [go_sem, ha0, vb, qb5, hcb, bb1, bb2, pb0, pb0', pb1, pb1', pb2, pb2', pb3, pb3', pb4, pb4', pb5, pb5', rb0, rb0', rb1, rb1', hM1, z0, z1, z0', z1', x0, x0', xi, xi', nn01, nn02, nn03, nn04, nn05, no00, no00', no01, no01', nn10, nn12, nn13, nn14, nn15, no10, no10', no11, no11', nn20, nn21, nn23, nn24, nn25, no20, no20', no21, no21', nn30, nn31, nn32, nn34, nn35, no30, no30', no31, no31', nn40, nn41, nn42, nn43, nn45, no40, no40', no41, no41', nn50, nn51, nn52, nn53, nn54, no50, no50', no51, no51']
        · rfl
        · rfl
        · rfl
        · simp [go_sem]
        simp [go_sem, ha0, vb, qb5, hcb, bb1, bb2, pb0, pb0', pb1, pb1', pb2, pb2', pb3, pb3', pb4, pb4', pb5, pb5', rb0, rb0', rb1, rb1', hM1, z0, z1, z0', z1', x0, x0', xi, xi', nn01, nn02, nn03, nn04, nn05, no00, no00', no01, no01', nn10, nn12, nn13, nn14, nn15, no10, no10', no11, no11', nn20, nn21, nn23, nn24, nn25, no20, no20', no21, no21', nn30, nn31, nn32, nn34, nn35, no30, no30', no31, no31', nn40, nn41, nn42, nn43, nn45, no40, no40', no41, no41', nn50, nn51, nn52, nn53, nn54, no50, no50', no51, no51']
        refine GOp_entryStore (a : Int) (has := fun x => if x = (a : Int) then true else has x) (val := fun x => if x = (a : Int) then (if has (a : Int) = true then ((val (a : Int)).kill (pos b)) else .r (.v (.slice none 0 0))) else (val x).kill (pos b)) (f := f) (c := c) (q := 1) ?_ ?_ ?_ ?_ ?_ ?_ ?_
        · rfl
        · rfl
        · simp [go_sem, ha0, vb, qb5, hcb, bb1, bb2, pb0, pb0', pb1, pb1', pb2, pb2', pb3, pb3', pb4, pb4', pb5, pb5', rb0, rb0', rb1, rb1', hM1, z0, z1, z0', z1', x0, x0', xi, xi', nn01, nn02, nn03, nn04, nn05, no00, no00', no01, no01', nn10, nn12, nn13, nn14, nn15, no10, no10', no11, no11', nn20, nn21, nn23, nn24, nn25, no20, no20', no21, no21', nn30, nn31, nn32, nn34, nn35, no30, no30', no31, no31', nn40, nn41, nn42, nn43, nn45, no40, no40', no41, no41', nn50, nn51, nn52, nn53, nn54, no50, no50', no51, no51']
        · simp
        · rfl
        · simp [go_sem]
        simp [go_sem, ha0, vb, qb5, hcb, bb1, bb2, pb0, pb0', pb1, pb1', pb2, pb2', pb3, pb3', pb4, pb4', pb5, pb5', rb0, rb0', rb1, rb1', hM1, z0, z1, z0', z1', x0, x0', xi, xi', nn01, nn02, nn03, nn04, nn05, no00, no00', no01, no01', nn10, nn12, nn13, nn14, nn15, no10, no10', no11, no11', nn20, nn21, nn23, nn24, nn25, no20, no20', no21, no21', nn30, nn31, nn32, nn34, nn35, no30, no30', no31, no31', nn40, nn41, nn42, nn43, nn45, no40, no40', no41, no41', nn50, nn51, nn52, nn53, nn54, no50, no50', no51, no51']
        refine ⟨_, _, _, hI.grow x0 n3 n4 hs' (ra := nx + 1 + 1 + 1) (rb := pos b) ?_ ?_ rfl ?_ ?_ ?_ ?_ ?_ ?_ ?_ ?_ ?_ ?_⟩
        · simp [go_sem, ha0, vb, qb5, hcb, bb1, bb2, pb0, pb0', pb1, pb1', pb2, pb2', pb3, pb3', pb4, pb4', pb5, pb5', rb0, rb0', rb1, rb1', hM1, z0, z1, z0', z1', x0, x0', xi, xi', nn01, nn02, nn03, nn04, nn05, no00, no00', no01, no01', nn10, nn12, nn13, nn14, nn15, no10, no10', no11, no11', nn20, nn21, nn23, nn24, nn25, no20, no20', no21, no21', nn30, nn31, nn32, nn34, nn35, no30, no30', no31, no31', nn40, nn41, nn42, nn43, nn45, no40, no40', no41, no41', nn50, nn51, nn52, nn53, nn54, no50, no50', no51, no51', hM0, killM]
        · omega
        · intro x
          rfl
        · simp [go_sem, ha0, vb, qb5, hcb, bb1, bb2, pb0, pb0', pb1, pb1', pb2, pb2', pb3, pb3', pb4, pb4', pb5, pb5', rb0, rb0', rb1, rb1', hM1, z0, z1, z0', z1', x0, x0', xi, xi', nn01, nn02, nn03, nn04, nn05, no00, no00', no01, no01', nn10, nn12, nn13, nn14, nn15, no10, no10', no11, no11', nn20, nn21, nn23, nn24, nn25, no20, no20', no21, no21', nn30, nn31, nn32, nn34, nn35, no30, no30', no31, no31', nn40, nn41, nn42, nn43, nn45, no40, no40', no41, no41', nn50, nn51, nn52, nn53, nn54, no50, no50', no51, no51', la]
        · simp [go_sem, ha0, vb, qb5, hcb, bb1, bb2, pb0, pb0', pb1, pb1', pb2, pb2', pb3, pb3', pb4, pb4', pb5, pb5', rb0, rb0', rb1, rb1', hM1, z0, z1, z0', z1', x0, x0', xi, xi', nn01, nn02, nn03, nn04, nn05, no00, no00', no01, no01', nn10, nn12, nn13, nn14, nn15, no10, no10', no11, no11', nn20, nn21, nn23, nn24, nn25, no20, no20', no21, no21', nn30, nn31, nn32, nn34, nn35, no30, no30', no31, no31', nn40, nn41, nn42, nn43, nn45, no40, no40', no41, no41', nn50, nn51, nn52, nn53, nn54, no50, no50', no51, no51']
        · intro c c1 c2 c3
          obtain ⟨w1, w2, w3, w4⟩ := hI.hv c c3
          have ci1 : ¬ (c : Int) = a := by omega
          have ci2 : ¬ (c : Int) = b := by omega
          have pc0 : ¬ pos c = nx := by omega
          have pc1 : ¬ pos c = nx + 1 := by omega
          have pc2 : ¬ pos c = nx + 1 + 1 := by omega
          have pc3 : ¬ pos c = nx + 1 + 1 + 1 := by omega
          have pc4 : ¬ pos c = nx + 1 + 1 + 1 + 1 := by omega
          have pc5 : ¬ pos c = nx + 1 + 1 + 1 + 1 + 1 := by omega
          have pc6 : ¬ pos c = 1 := by omega
          have kb : ¬ pos c = pos b := fun e => c2 (hI.hi c b c3 hcb e)
          simp [go_sem, ha0, vb, qb5, hcb, bb1, bb2, pb0, pb0', pb1, pb1', pb2, pb2', pb3, pb3', pb4, pb4', pb5, pb5', rb0, rb0', rb1, rb1', hM1, z0, z1, z0', z1', x0, x0', xi, xi', nn01, nn02, nn03, nn04, nn05, no00, no00', no01, no01', nn10, nn12, nn13, nn14, nn15, no10, no10', no11, no11', nn20, nn21, nn23, nn24, nn25, no20, no20', no21, no21', nn30, nn31, nn32, nn34, nn35, no30, no30', no31, no31', nn40, nn41, nn42, nn43, nn45, no40, no40', no41, no41', nn50, nn51, nn52, nn53, nn54, no50, no50', no51, no51', ci1, ci2, pc0, pc1, pc2, pc3, pc4, pc5, pc6, kb, c1, c2, w1]
        · omega
        · omega
        · rw [la]
          simp [go_sem, ha0, vb, qb5, hcb, bb1, bb2, pb0, pb0', pb1, pb1', pb2, pb2', pb3, pb3', pb4, pb4', pb5, pb5', rb0, rb0', rb1, rb1', hM1, z0, z1, z0', z1', x0, x0', xi, xi', nn01, nn02, nn03, nn04, nn05, no00, no00', no01, no01', nn10, nn12, nn13, nn14, nn15, no10, no10', no11, no11', nn20, nn21, nn23, nn24, nn25, no20, no20', no21, no21', nn30, nn31, nn32, nn34, nn35, no30, no30', no31, no31', nn40, nn41, nn42, nn43, nn45, no40, no40', no41, no41', nn50, nn51, nn52, nn53, nn54, no50, no50', no51, no51', isL_one_iff]
        · simp [go_sem, ha0, vb, qb5, hcb, bb1, bb2, pb0, pb0', pb1, pb1', pb2, pb2', pb3, pb3', pb4, pb4', pb5, pb5', rb0, rb0', rb1, rb1', hM1, z0, z1, z0', z1', x0, x0', xi, xi', nn01, nn02, nn03, nn04, nn05, no00, no00', no01, no01', nn10, nn12, nn13, nn14, nn15, no10, no10', no11, no11', nn20, nn21, nn23, nn24, nn25, no20, no20', no21, no21', nn30, nn31, nn32, nn34, nn35, no30, no30', no31, no31', nn40, nn41, nn42, nn43, nn45, no40, no40', no41, no41', nn50, nn51, nn52, nn53, nn54, no50, no50', no51, no51', killM]
          exact isL_app qb6 rfl rfl
        · omega
        · intro c c1 c2 c3
          obtain ⟨w1, w2, w3, w4⟩ := hI.hv c c3
          have ci1 : ¬ (c : Int) = a := by omega
          have ci2 : ¬ (c : Int) = b := by omega
          have pc0 : ¬ pos c = nx := by omega
          have pc1 : ¬ pos c = nx + 1 := by omega
          have pc2 : ¬ pos c = nx + 1 + 1 := by omega
          have pc3 : ¬ pos c = nx + 1 + 1 + 1 := by omega
          have pc4 : ¬ pos c = nx + 1 + 1 + 1 + 1 := by omega
          have pc5 : ¬ pos c = nx + 1 + 1 + 1 + 1 + 1 := by omega
          have pc6 : ¬ pos c = 1 := by omega
          have kb : ¬ pos c = pos b := fun e => c2 (hI.hi c b c3 hcb e)
          refine ⟨by omega, kb, ?_⟩
          simp [go_sem, ha0, vb, qb5, hcb, bb1, bb2, pb0, pb0', pb1, pb1', pb2, pb2', pb3, pb3', pb4, pb4', pb5, pb5', rb0, rb0', rb1, rb1', hM1, z0, z1, z0', z1', x0, x0', xi, xi', nn01, nn02, nn03, nn04, nn05, no00, no00', no01, no01', nn10, nn12, nn13, nn14, nn15, no10, no10', no11, no11', nn20, nn21, nn23, nn24, nn25, no20, no20', no21, no21', nn30, nn31, nn32, nn34, nn35, no30, no30', no31, no31', nn40, nn41, nn42, nn43, nn45, no40, no40', no41, no41', nn50, nn51, nn52, nn53, nn54, no50, no50', no51, no51', ci1, ci2, pc0, pc1, pc2, pc3, pc4, pc5, pc6, kb, killM]
          exact isL_kill (pos b) (w4)
  · skip
    have hca := hI.yes n3 la
    obtain ⟨qa1, qa2, qa3, fa, qa5, qa6⟩ := hI.hv a hca
    have va := qa1
    have ba1 : ((g.looks m a k).length + 1) * 8 ≤ 140737488355328 := by have := g.looks_len m a k; omega
    have ba2 : (g.looks m a k).length ≤ 9223372036854775806 := by have := g.looks_len m a k; omega
    have pa0 : ¬ pos a = nx := by omega
    have pa0' : ¬ nx = pos a := by omega
    have pa1 : ¬ pos a = nx + 1 := by omega
    have pa1' : ¬ nx + 1 = pos a := by omega
    have pa2 : ¬ pos a = nx + 1 + 1 := by omega
    have pa2' : ¬ nx + 1 + 1 = pos a := by omega
    have pa3 : ¬ pos a = nx + 1 + 1 + 1 := by omega
    have pa3' : ¬ nx + 1 + 1 + 1 = pos a := by omega
    have pa4 : ¬ pos a = nx + 1 + 1 + 1 + 1 := by omega
    have pa4' : ¬ nx + 1 + 1 + 1 + 1 = pos a := by omega
    have pa5 : ¬ pos a = nx + 1 + 1 + 1 + 1 + 1 := by omega
    have pa5' : ¬ nx + 1 + 1 + 1 + 1 + 1 = pos a := by omega
    have ra0 : ¬ pos a = 0 := by omega
    have ra0' : ¬ 0 = pos a := by omega
    have ra1 : ¬ pos a = 1 := by omega
    have ra1' : ¬ 1 = pos a := by omega
    by_cases lb : g.looks m b k = []
    · have hb0 := hI.no lb
      simp [go_sem, va, qa5, hca, ba1, ba2, pa0, pa0', pa1, pa1', pa2, pa2', pa3, pa3', pa4, pa4', pa5, pa5', ra0, ra0', ra1, ra1', hb0, hM1, z0, z1, z0', z1', x0, x0', xi, xi', nn01, nn02, nn03, nn04, nn05, no00, no00', no01, no01', nn10, nn12, nn13, nn14, nn15, no10, no10', no11, no11', nn20, nn21, nn23, nn24, nn25, no20, no20', no21, no21', nn30, nn31, nn32, nn34, nn35, no30, no30', no31, no31', nn40, nn41, nn42, nn43, nn45, no40, no40', no41, no41', nn50, nn51, nn52, nn53, nn54, no50, no50', no51, no51']
      refine ⟨⟨?_, ?_⟩, ?_⟩
      · refine GOp_mapEntry T_ok (t := 119) (q := 1) (a := (a : Int)) (has := has) (val := fun x => (val x).kill (pos a)) (st := st) (e := 42) (ei := ⟨1, 24, [.sl], .slice 3⟩) ?_ ?_ ?_ ?_ ?_ ?_ ?_ fun f c => ?_
        · rfl
        · rfl
        · simp [go_sem, va, qa5, hca, ba1, ba2, pa0, pa0', pa1, pa1', pa2, pa2', pa3, pa3', pa4, pa4', pa5, pa5', ra0, ra0', ra1, ra1', hb0, hM1, z0, z1, z0', z1', x0, x0', xi, xi', nn01, nn02, nn03, nn04, nn05, no00, no00', no01, no01', nn10, nn12, nn13, nn14, nn15, no10, no10', no11, no11', nn20, nn21, nn23, nn24, nn25, no20, no20', no21, no21', nn30, nn31, nn32, nn34, nn35, no30, no30', no31, no31', nn40, nn41, nn42, nn43, nn45, no40, no40', no41, no41', nn50, nn51, nn52, nn53, nn54, no50, no50', no51, no51']
        · rfl
        · rfl
        · rfl
        · simp [go_sem]
        simp [go_sem, va, qa5, hca, ba1, ba2, pa0, pa0', pa1, pa1', pa2, pa2', pa3, pa3', pa4, pa4', pa5, pa5', ra0, ra0', ra1, ra1', hb0, hM1, z0, z1, z0', z1', x0, x0', xi, xi', nn01, nn02, nn03, nn04, nn05, no00, no00', no01, no01', nn10, nn12, nn13, nn14, nn15, no10, no10', no11, no11', nn20, nn21, nn23, nn24, nn25, no20, no20', no21, no21', nn30, nn31, nn32, nn34, nn35, no30, no30', no31, no31', nn40, nn41, nn42, nn43, nn45, no40, no40', no41, no41', nn50, nn51, nn52, nn53, nn54, no50, no50', no51, no51']
        refine GOp_entryStore (a : Int) (has := fun x => if x = (a : Int) then true else has x) (val := fun x => if x = (a : Int) then (if has (a : Int) = true then ((val (a : Int)).kill (pos a)) else .r (.v (.slice none 0 0))) else (val x).kill (pos a)) (f := f) (c := c) (q := 1) ?_ ?_ ?_ ?_ ?_ ?_ ?_
        · rfl
        · rfl
        · simp [go_sem, va, qa5, hca, ba1, ba2, pa0, pa0', pa1, pa1', pa2, pa2', pa3, pa3', pa4, pa4', pa5, pa5', ra0, ra0', ra1, ra1', hb0, hM1, z0, z1, z0', z1', x0, x0', xi, xi', nn01, nn02, nn03, nn04, nn05, no00, no00', no01, no01', nn10, nn12, nn13, nn14, nn15, no10, no10', no11, no11', nn20, nn21, nn23, nn24, nn25, no20, no20', no21, no21', nn30, nn31, nn32, nn34, nn35, no30, no30', no31, no31', nn40, nn41, nn42, nn43, nn45, no40, no40', no41, no41', nn50, nn51, nn52, nn53, nn54, no50, no50', no51, no51']
        · simp
        · rfl
        · simp [go_sem]
        simp [go_sem, va, qa5, hca, ba1, ba2, pa0, pa0', pa1, pa1', pa2, pa2', pa3, pa3', pa4, pa4', pa5, pa5', ra0, ra0', ra1, ra1', hb0, hM1, z0, z1, z0', z1', x0, x0', xi, xi', nn01, nn02, nn03, nn04, nn05, no00, no00', no01, no01', nn10, nn12, nn13, nn14, nn15, no10, no10', no11, no11', nn20, nn21, nn23, nn24, nn25, no20, no20', no21, no21', nn30, nn31, nn32, nn34, nn35, no30, no30', no31, no31', nn40, nn41, nn42, nn43, nn45, no40, no40', no41, no41', nn50, nn51, nn52, nn53, nn54, no50, no50', no51, no51']
        refine ⟨_, _, _, hI.grow x0 n3 n4 hs' (ra := pos a) (rb := nx + 1 + 1 + 1) ?_ ?_ rfl ?_ ?_ ?_ ?_ ?_ ?_ ?_ ?_ ?_ ?_⟩
        · simp [go_sem, va, qa5, hca, ba1, ba2, pa0, pa0', pa1, pa1', pa2, pa2', pa3, pa3', pa4, pa4', pa5, pa5', ra0, ra0', ra1, ra1', hb0, hM1, z0, z1, z0', z1', x0, x0', xi, xi', nn01, nn02, nn03, nn04, nn05, no00, no00', no01, no01', nn10, nn12, nn13, nn14, nn15, no10, no10', no11, no11', nn20, nn21, nn23, nn24, nn25, no20, no20', no21, no21', nn30, nn31, nn32, nn34, nn35, no30, no30', no31, no31', nn40, nn41, nn42, nn43, nn45, no40, no40', no41, no41', nn50, nn51, nn52, nn53, nn54, no50, no50', no51, no51', hM0, killM]
        · omega
        · intro x
          rfl
        · simp [go_sem, va, qa5, hca, ba1, ba2, pa0, pa0', pa1, pa1', pa2, pa2', pa3, pa3', pa4, pa4', pa5, pa5', ra0, ra0', ra1, ra1', hb0, hM1, z0, z1, z0', z1', x0, x0', xi, xi', nn01, nn02, nn03, nn04, nn05, no00, no00', no01, no01', nn10, nn12, nn13, nn14, nn15, no10, no10', no11, no11', nn20, nn21, nn23, nn24, nn25, no20, no20', no21, no21', nn30, nn31, nn32, nn34, nn35, no30, no30', no31, no31', nn40, nn41, nn42, nn43, nn45, no40, no40', no41, no41', nn50, nn51, nn52, nn53, nn54, no50, no50', no51, no51']
        · simp [go_sem, va, qa5, hca, ba1, ba2, pa0, pa0', pa1, pa1', pa2, pa2', pa3, pa3', pa4, pa4', pa5, pa5', ra0, ra0', ra1, ra1', hb0, hM1, z0, z1, z0', z1', x0, x0', xi, xi', nn01, nn02, nn03, nn04, nn05, no00, no00', no01, no01', nn10, nn12, nn13, nn14, nn15, no10, no10', no11, no11', nn20, nn21, nn23, nn24, nn25, no20, no20', no21, no21', nn30, nn31, nn32, nn34, nn35, no30, no30', no31, no31', nn40, nn41, nn42, nn43, nn45, no40, no40', no41, no41', nn50, nn51, nn52, nn53, nn54, no50, no50', no51, no51', lb]
        · intro c c1 c2 c3
          obtain ⟨w1, w2, w3, w4⟩ := hI.hv c c3
          have ci1 : ¬ (c : Int) = a := by omega
          have ci2 : ¬ (c : Int) = b := by omega
          have pc0 : ¬ pos c = nx := by omega
          have pc1 : ¬ pos c = nx + 1 := by omega
          have pc2 : ¬ pos c = nx + 1 + 1 := by omega
          have pc3 : ¬ pos c = nx + 1 + 1 + 1 := by omega
          have pc4 : ¬ pos c = nx + 1 + 1 + 1 + 1 := by omega
          have pc5 : ¬ pos c = nx + 1 + 1 + 1 + 1 + 1 := by omega
          have pc6 : ¬ pos c = 1 := by omega
          have ka : ¬ pos c = pos a := fun e => c1 (hI.hi c a c3 hca e)
          simp [go_sem, va, qa5, hca, ba1, ba2, pa0, pa0', pa1, pa1', pa2, pa2', pa3, pa3', pa4, pa4', pa5, pa5', ra0, ra0', ra1, ra1', hb0, hM1, z0, z1, z0', z1', x0, x0', xi, xi', nn01, nn02, nn03, nn04, nn05, no00, no00', no01, no01', nn10, nn12, nn13, nn14, nn15, no10, no10', no11, no11', nn20, nn21, nn23, nn24, nn25, no20, no20', no21, no21', nn30, nn31, nn32, nn34, nn35, no30, no30', no31, no31', nn40, nn41, nn42, nn43, nn45, no40, no40', no41, no41', nn50, nn51, nn52, nn53, nn54, no50, no50', no51, no51', ci1, ci2, pc0, pc1, pc2, pc3, pc4, pc5, pc6, ka, c1, c2, w1]
        · omega
        · omega
        · simp [go_sem, va, qa5, hca, ba1, ba2, pa0, pa0', pa1, pa1', pa2, pa2', pa3, pa3', pa4, pa4', pa5, pa5', ra0, ra0', ra1, ra1', hb0, hM1, z0, z1, z0', z1', x0, x0', xi, xi', nn01, nn02, nn03, nn04, nn05, no00, no00', no01, no01', nn10, nn12, nn13, nn14, nn15, no10, no10', no11, no11', nn20, nn21, nn23, nn24, nn25, no20, no20', no21, no21', nn30, nn31, nn32, nn34, nn35, no30, no30', no31, no31', nn40, nn41, nn42, nn43, nn45, no40, no40', no41, no41', nn50, nn51, nn52, nn53, nn54, no50, no50', no51, no51', killM]
          exact isL_app qa6 rfl rfl
        · rw [lb]
          simp [go_sem, va, qa5, hca, ba1, ba2, pa0, pa0', pa1, pa1', pa2, pa2', pa3, pa3', pa4, pa4', pa5, pa5', ra0, ra0', ra1, ra1', hb0, hM1, z0, z1, z0', z1', x0, x0', xi, xi', nn01, nn02, nn03, nn04, nn05, no00, no00', no01, no01', nn10, nn12, nn13, nn14, nn15, no10, no10', no11, no11', nn20, nn21, nn23, nn24, nn25, no20, no20', no21, no21', nn30, nn31, nn32, nn34, nn35, no30, no30', no31, no31', nn40, nn41, nn42, nn43, nn45, no40, no40', no41, no41', nn50, nn51, nn52, nn53, nn54, no50, no50', no51, no51', isL_one_iff]
        · omega
        · intro c c1 c2 c3
          obtain ⟨w1, w2, w3, w4⟩ := hI.hv c c3
          have ci1 : ¬ (c : Int) = a := by omega
          have ci2 : ¬ (c : Int) = b := by omega
          have pc0 : ¬ pos c = nx := by omega
          have pc1 : ¬ pos c = nx + 1 := by omega
          have pc2 : ¬ pos c = nx + 1 + 1 := by omega
          have pc3 : ¬ pos c = nx + 1 + 1 + 1 := by omega
          have pc4 : ¬ pos c = nx + 1 + 1 + 1 + 1 := by omega
          have pc5 : ¬ pos c = nx + 1 + 1 + 1 + 1 + 1 := by omega
          have pc6 : ¬ pos c = 1 := by omega
          have ka : ¬ pos c = pos a := fun e => c1 (hI.hi c a c3 hca e)
          refine ⟨ka, by omega, ?_⟩
          simp [go_sem, va, qa5, hca, ba1, ba2, pa0, pa0', pa1, pa1', pa2, pa2', pa3, pa3', pa4, pa4', pa5, pa5', ra0, ra0', ra1, ra1', hb0, hM1, z0, z1, z0', z1', x0, x0', xi, xi', nn01, nn02, nn03, nn04, nn05, no00, no00', no01, no01', nn10, nn12, nn13, nn14, nn15, no10, no10', no11, no11', nn20, nn21, nn23, nn24, nn25, no20, no20', no21, no21', nn30, nn31, nn32, nn34, nn35, no30, no30', no31, no31', nn40, nn41, nn42, nn43, nn45, no40, no40', no41, no41', nn50, nn51, nn52, nn53, nn54, no50, no50', no51, no51', ci1, ci2, pc0, pc1, pc2, pc3, pc4, pc5, pc6, ka, killM]
          exact isL_kill (pos a) (w4)
      · refine GOp_mapEntry T_ok (t := 119) (q := 1) (a := (a : Int)) (has := has) (val := fun x => (val x).kill (pos a)) (st := st) (e := 42) (ei := ⟨1, 24, [.sl], .slice 3⟩) ?_ ?_ ?_ ?_ ?_ ?_ ?_ fun f c => ?_
        · rfl
        · rfl
        · simp [go_sem, va, qa5, hca, ba1, ba2, pa0, pa0', pa1, pa1', pa2, pa2', pa3, pa3', pa4, pa4', pa5, pa5', ra0, ra0', ra1, ra1', hb0, hM1, z0, z1, z0', z1', x0, x0', xi, xi', nn01, nn02, nn03, nn04, nn05, no00, no00', no01, no01', nn10, nn12, nn13, nn14, nn15, no10, no10', no11, no11', nn20, nn21, nn23, nn24, nn25, no20, no20', no21, no21', nn30, nn31, nn32, nn34, nn35, no30, no30', no31, no31', nn40, nn41, nn42, nn43, nn45, no40, no40', no41, no41', nn50, nn51, nn52, nn53, nn54, no50, no50', no51, no51']
        · rfl
        · rfl
        · rfl
        · simp [go_sem]
        simp [go_sem, va, qa5, hca, ba1, ba2, pa0, pa0', pa1, pa1', pa2, pa2', pa3, pa3', pa4, pa4', pa5, pa5', ra0, ra0', ra1, ra1', hb0, hM1, z0, z1, z0', z1', x0, x0', xi, xi', nn01, nn02, nn03, nn04, nn05, no00, no00', no01, no01', nn10, nn12, nn13, nn14, nn15, no10, no10', no11, no11', nn20, nn21, nn23, nn24, nn25, no20, no20', no21, no21', nn30, nn31, nn32, nn34, nn35, no30, no30', no31, no31', nn40, nn41, nn42, nn43, nn45, no40, no40', no41, no41', nn50, nn51, nn52, nn53, nn54, no50, no50', no51, no51']
        refine GOp_entryStore (a : Int) (has := fun x => if x = (a : Int) then true else has x) (val := fun x => if x = (a : Int) then (if has (a : Int) = true then ((val (a : Int)).kill (pos a)) else .r (.v (.slice none 0 0))) else (val x).kill (pos a)) (f := f) (c := c) (q := 1) ?_ ?_ ?_ ?_ ?_ ?_ ?_
        · rfl
        · rfl
        · simp [go_sem, va, qa5, hca, ba1, ba2, pa0, pa0', pa1, pa1', pa2, pa2', pa3, pa3', pa4, pa4', pa5, pa5', ra0, ra0', ra1, ra1', hb0, hM1, z0, z1, z0', z1', x0, x0', xi, xi', nn01, nn02, nn03, nn04, nn05, no00, no00', no01, no01', nn10, nn12, nn13, nn14, nn15, no10, no10', no11, no11', nn20, nn21, nn23, nn24, nn25, no20, no20', no21, no21', nn30, nn31, nn32, nn34, nn35, no30, no30', no31, no31', nn40, nn41, nn42, nn43, nn45, no40, no40', no41, no41', nn50, nn51, nn52, nn53, nn54, no50, no50', no51, no51']
        · simp
        · rfl
        · simp [go_sem]
        simp [go_sem, va, qa5, hca, ba1, ba2, pa0, pa0', pa1, pa1', pa2, pa2', pa3, pa3', pa4, pa4', pa5, pa5', ra0, ra0', ra1, ra1', hb0, hM1, z0, z1, z0', z1', x0, x0', xi, xi', nn01, nn02, nn03, nn04, nn05, no00, no00', no01, no01', nn10, nn12, nn13, nn14, nn15, no10, no10', no11, no11', nn20, nn21, nn23, nn24, nn25, no20, no20', no21, no21', nn30, nn31, nn32, nn34, nn35, no30, no30', no31, no31', nn40, nn41, nn42, nn43, nn45, no40, no40', no41, no41', nn50, nn51, nn52, nn53, nn54, no50, no50', no51, no51']
        refine ⟨_, _, _, hI.grow x0 n3 n4 hs' (ra := pos a) (rb := nx + 1 + 1 + 1) ?_ ?_ rfl ?_ ?_ ?_ ?_ ?_ ?_ ?_ ?_ ?_ ?_⟩
        · simp [go_sem, va, qa5, hca, ba1, ba2, pa0, pa0', pa1, pa1', pa2, pa2', pa3, pa3', pa4, pa4', pa5, pa5', ra0, ra0', ra1, ra1', hb0, hM1, z0, z1, z0', z1', x0, x0', xi, xi', nn01, nn02, nn03, nn04, nn05, no00, no00', no01, no01', nn10, nn12, nn13, nn14, nn15, no10, no10', no11, no11', nn20, nn21, nn23, nn24, nn25, no20, no20', no21, no21', nn30, nn31, nn32, nn34, nn35, no30, no30', no31, no31', nn40, nn41, nn42, nn43, nn45, no40, no40', no41, no41', nn50, nn51, nn52, nn53, nn54, no50, no50', no51, no51', hM0, killM]
        · omega
        · intro x
          rfl
        · simp [go_sem, va, qa5, hca, ba1, ba2, pa0, pa0', pa1, pa1', pa2, pa2', pa3, pa3', pa4, pa4', pa5, pa5', ra0, ra0', ra1, ra1', hb0, hM1, z0, z1, z0', z1', x0, x0', xi, xi', nn01, nn02, nn03, nn04, nn05, no00, no00', no01, no01', nn10, nn12, nn13, nn14, nn15, no10, no10', no11, no11', nn20, nn21, nn23, nn24, nn25, no20, no20', no21, no21', nn30, nn31, nn32, nn34, nn35, no30, no30', no31, no31', nn40, nn41, nn42, nn43, nn45, no40, no40', no41, no41', nn50, nn51, nn52, nn53, nn54, no50, no50', no51, no51']
        · simp [go_sem, va, qa5, hca, ba1, ba2, pa0, pa0', pa1, pa1', pa2, pa2', pa3, pa3', pa4, pa4', pa5, pa5', ra0, ra0', ra1, ra1', hb0, hM1, z0, z1, z0', z1', x0, x0', xi, xi', nn01, nn02, nn03, nn04, nn05, no00, no00', no01, no01', nn10, nn12, nn13, nn14, nn15, no10, no10', no11, no11', nn20, nn21, nn23, nn24, nn25, no20, no20', no21, no21', nn30, nn31, nn32, nn34, nn35, no30, no30', no31, no31', nn40, nn41, nn42, nn43, nn45, no40, no40', no41, no41', nn50, nn51, nn52, nn53, nn54, no50, no50', no51, no51', lb]
        · intro c c1 c2 c3
          obtain ⟨w1, w2, w3, w4⟩ := hI.hv c c3
          have ci1 : ¬ (c : Int) = a := by omega
          have ci2 : ¬ (c : Int) = b := by omega
          have pc0 : ¬ pos c = nx := by omega
          have pc1 : ¬ pos c = nx + 1 := by omega
          have pc2 : ¬ pos c = nx + 1 + 1 := by omega
          have pc3 : ¬ pos c = nx + 1 + 1 + 1 := by omega
          have pc4 : ¬ pos c = nx + 1 + 1 + 1 + 1 := by omega
          have pc5 : ¬ pos c = nx + 1 + 1 + 1 + 1 + 1 := by omega
          have pc6 : ¬ pos c = 1 := by omega
          have ka : ¬ pos c = pos a := fun e => c1 (hI.hi c a c3 hca e)
          simp [go_sem, va, qa5, hca, ba1, ba2, pa0, pa0', pa1, pa1', pa2, pa2', pa3, pa3', pa4, pa4', pa5, pa5', ra0, ra0', ra1, ra1', hb0, hM1, z0, z1, z0', z1', x0, x0', xi, xi', nn01, nn02, nn03, nn04, nn05, no00, no00', no01, no01', nn10, nn12, nn13, nn14, nn15, no10, no10', no11, no11', nn20, nn21, nn23, nn24, nn25, no20, no20', no21, no21', nn30, nn31, nn32, nn34, nn35, no30, no30', no31, no31', nn40, nn41, nn42, nn43, nn45, no40, no40', no41, no41', nn50, nn51, nn52, nn53, nn54, no50, no50', no51, no51', ci1, ci2, pc0, pc1, pc2, pc3, pc4, pc5, pc6, ka, c1, c2, w1]
        · omega
        · omega
        · simp [go_sem, va, qa5, hca, ba1, ba2, pa0, pa0', pa1, pa1', pa2, pa2', pa3, pa3', pa4, pa4', pa5, pa5', ra0, ra0', ra1, ra1', hb0, hM1, z0, z1, z0', z1', x0, x0', xi, xi', nn01, nn02, nn03, nn04, nn05, no00, no00', no01, no01', nn10, nn12, nn13, nn14, nn15, no10, no10', no11, no11', nn20, nn21, nn23, nn24, nn25, no20, no20', no21, no21', nn30, nn31, nn32, nn34, nn35, no30, no30', no31, no31', nn40, nn41, nn42, nn43, nn45, no40, no40', no41, no41', nn50, nn51, nn52, nn53, nn54, no50, no50', no51, no51', killM]
          exact isL_app qa6 rfl rfl
        · rw [lb]
          simp [go_sem, va, qa5, hca, ba1, ba2, pa0, pa0', pa1, pa1', pa2, pa2', pa3, pa3', pa4, pa4', pa5, pa5', ra0, ra0', ra1, ra1', hb0, hM1, z0, z1, z0', z1', x0, x0', xi, xi', nn01, nn02, nn03, nn04, nn05, no00, no00', no01, no01', nn10, nn12, nn13, nn14, nn15, no10, no10', no11, no11', nn20, nn21, nn23, nn24, nn25, no20, no20', no21, no21', nn30, nn31, nn32, nn34, nn35, no30, no30', no31, no31', nn40, nn41, nn42, nn43, nn45, no40, no40', no41, no41', nn50, nn51, nn52, nn53, nn54, no50, no50', no51, no51', isL_one_iff]
        · omega
        · intro c c1 c2 c3
          obtain ⟨w1, w2, w3, w4⟩ := hI.hv c c3
          have ci1 : ¬ (c : Int) = a := by omega
          have ci2 : ¬ (c : Int) = b := by omega
          have pc0 : ¬ pos c = nx := by omega
          have pc1 : ¬ pos c = nx + 1 := by omega
          have pc2 : ¬ pos c = nx + 1 + 1 := by omega
          have pc3 : ¬ pos c = nx + 1 + 1 + 1 := by omega
          have pc4 : ¬ pos c = nx + 1 + 1 + 1 + 1 := by omega
          have pc5 : ¬ pos c = nx + 1 + 1 + 1 + 1 + 1 := by omega
          have pc6 : ¬ pos c = 1 := by omega
          have ka : ¬ pos c = pos a := fun e => c1 (hI.hi c a c3 hca e)
          refine ⟨ka, by omega, ?_⟩
          simp [go_sem, va, qa5, hca, ba1, ba2, pa0, pa0', pa1, pa1', pa2, pa2', pa3, pa3', pa4, pa4', pa5, pa5', ra0, ra0', ra1, ra1', hb0, hM1, z0, z1, z0', z1', x0, x0', xi, xi', nn01, nn02, nn03, nn04, nn05, no00, no00', no01, no01', nn10, nn12, nn13, nn14, nn15, no10, no10', no11, no11', nn20, nn21, nn23, nn24, nn25, no20, no20', no21, no21', nn30, nn31, nn32, nn34, nn35, no30, no30', no31, no31', nn40, nn41, nn42, nn43, nn45, no40, no40', no41, no41', nn50, nn51, nn52, nn53, nn54, no50, no50', no51, no51', ci1, ci2, pc0, pc1, pc2, pc3, pc4, pc5, pc6, ka, killM]
          exact isL_kill (pos a) (w4)
      · refine GOp_mapEntry T_ok (t := 119) (q := 1) (a := (a : Int)) (has := has) (val := fun x => (val x).kill (pos a)) (st := st) (e := 42) (ei := ⟨1, 24, [.sl], .slice 3⟩) ?_ ?_ ?_ ?_ ?_ ?_ ?_ fun f c => ?_
        · rfl
        · rfl
        · simp [go_sem, va, qa5, hca, ba1, ba2, pa0, pa0', pa1, pa1', pa2, pa2', pa3, pa3', pa4, pa4', pa5, pa5', ra0, ra0', ra1, ra1', hb0, hM1, z0, z1, z0', z1', x0, x0', xi, xi', nn01, nn02, nn03, nn04, nn05, no00, no00', no01, no01', nn10, nn12, nn13, nn14, nn15, no10, no10', no11, no11', nn20, nn21, nn23, nn24, nn25, no20, no20', no21, no21', nn30, nn31, nn32, nn34, nn35, no30, no30', no31, no31', nn40, nn41, nn42, nn43, nn45, no40, no40', no41, no41', nn50, nn51, nn52, nn53, nn54, no50, no50', no51, no51']
        · rfl
        · rfl
        · rfl
        · simp [go_sem]
        simp [go_sem, va, qa5, hca, ba1, ba2, pa0, pa0', pa1, pa1', pa2, pa2', pa3, pa3', pa4, pa4', pa5, pa5', ra0, ra0', ra1, ra1', hb0, hM1, z0, z1, z0', z1', x0, x0', xi, xi', nn01, nn02, nn03, nn04, nn05, no00, no00', no01, no01', nn10, nn12, nn13, nn14, nn15, no10, no10', no11, no11', nn20, nn21, nn23, nn24, nn25, no20, no20', no21, no21', nn30, nn31, nn32, nn34, nn35, no30, no30', no31, no31', nn40, nn41, nn42, nn43, nn45, no40, no40', no41, no41', nn50, nn51, nn52, nn53, nn54, no50, no50', no51, no51']
        refine GOp_entryStore (a : Int) (has := fun x => if x = (a : Int) then true else has x) (val := fun x => if x = (a : Int) then (if has (a : Int) = true then ((val (a : Int)).kill (pos a)) else .r (.v (.slice none 0 0))) else (val x).kill (pos a)) (f := f) (c := c) (q := 1) ?_ ?_ ?_ ?_ ?_ ?_ ?_
        · rfl
        · rfl
        · simp [go_sem, va, qa5, hca, ba1, ba2, pa0, pa0', pa1, pa1', pa2, pa2', pa3, pa3', pa4, pa4', pa5, pa5', ra0, ra0', ra1, ra1', hb0, hM1, z0, z1, z0', z1', x0, x0', xi, xi', nn01, nn02, nn03, nn04, nn05, no00, no00', no01, no01', nn10, nn12, nn13, nn14, nn15, no10, no10', no11, no11', nn20, nn21, nn23, nn24, nn25, no20, no20', no21, no21', nn30, nn31, nn32, nn34, nn35, no30, no30', no31, no31', nn40, nn41, nn42, nn43, nn45, no40, no40', no41, no41', nn50, nn51, nn52, nn53, nn54, no50, no50', no51, no51']
        · simp
        · rfl
        · simp [go_sem]
        simp [go_sem, va, qa5, hca, ba1, ba2, pa0, pa0', pa1, pa1', pa2, pa2', pa3, pa3', pa4, pa4', pa5, pa5', ra0, ra0', ra1, ra1', hb0, hM1, z0, z1, z0', z1', x0, x0', xi, xi', nn01, nn02, nn03, nn04, nn05, no00, no00', no01, no01', nn10, nn12, nn13, nn14, nn15, no10, no10', no11, no11', nn20, nn21, nn23, nn24, nn25, no20, no20', no21, no21', nn30, nn31, nn32, nn34, nn35, no30, no30', no31, no31', nn40, nn41, nn42, nn43, nn45, no40, no40', no41, no41', nn50, nn51, nn52, nn53, nn54, no50, no50', no51, no51']
        refine ⟨_, _, _, hI.grow x0 n3 n4 hs' (ra := pos a) (rb := nx + 1 + 1 + 1) ?_ ?_ rfl ?_ ?_ ?_ ?_ ?_ ?_ ?_ ?_ ?_ ?_⟩
        · simp [go_sem, va, qa5, hca, ba1, ba2, pa0, pa0', pa1, pa1', pa2, pa2', pa3, pa3', pa4, pa4', pa5, pa5', ra0, ra0', ra1, ra1', hb0, hM1, z0, z1, z0', z1', x0, x0', xi, xi', nn01, nn02, nn03, nn04, nn05, no00, no00', no01, no01', nn10, nn12, nn13, nn14, nn15, no10, no10', no11, no11', nn20, nn21, nn23, nn24, nn25, no20, no20', no21, no21', nn30, nn31, nn32, nn34, nn35, no30, no30', no31, no31', nn40, nn41, nn42, nn43, nn45, no40, no40', no41, no41', nn50, nn51, nn52, nn53, nn54, no50, no50', no51, no51', hM0, killM]
        · omega
        · intro x
          rfl
        · simp [go_sem, va, qa5, hca, ba1, ba2, pa0, pa0', pa1, pa1', pa2, pa2', pa3, pa3', pa4, pa4', pa5, pa5', ra0, ra0', ra1, ra1', hb0, hM1, z0, z1, z0', z1', x0, x0', xi, xi', nn01, nn02, nn03, nn04, nn05, no00, no00', no01, no01', nn10, nn12, nn13, nn14, nn15, no10, no10', no11, no11', nn20, nn21, nn23, nn24, nn25, no20, no20', no21, no21', nn30, nn31, nn32, nn34, nn35, no30, no30', no31, no31', nn40, nn41, nn42, nn43, nn45, no40, no40', no41, no41', nn50, nn51, nn52, nn53, nn54, no50, no50', no51, no51']
        · simp [go_sem, va, qa5, hca, ba1, ba2, pa0, pa0', pa1, pa1', pa2, pa2', pa3, pa3', pa4, pa4', pa5, pa5', ra0, ra0', ra1, ra1', hb0, hM1, z0, z1, z0', z1', x0, x0', xi, xi', nn01, nn02, nn03, nn04, nn05, no00, no00', no01, no01', nn10, nn12, nn13, nn14, nn15, no10, no10', no11, no11', nn20, nn21, nn23, nn24, nn25, no20, no20', no21, no21', nn30, nn31, nn32, nn34, nn35, no30, no30', no31, no31', nn40, nn41, nn42, nn43, nn45, no40, no40', no41, no41', nn50, nn51, nn52, nn53, nn54, no50, no50', no51, no51', lb]
        · intro c c1 c2 c3
          obtain ⟨w1, w2, w3, w4⟩ := hI.hv c c3
          have ci1 : ¬ (c : Int) = a := by omega
          have ci2 : ¬ (c : Int) = b := by omega
          have pc0 : ¬ pos c = nx := by omega
          have pc1 : ¬ pos c = nx + 1 := by omega
          have pc2 : ¬ pos c = nx + 1 + 1 := by omega
          have pc3 : ¬ pos c = nx + 1 + 1 + 1 := by omega
          have pc4 : ¬ pos c = nx + 1 + 1 + 1 + 1 := by omega
          have pc5 : ¬ pos c = nx + 1 + 1 + 1 + 1 + 1 := by omega
          have pc6 : ¬ pos c = 1 := by omega
          have ka : ¬ pos c = pos a := fun e => c1 (hI.hi c a c3 hca e)
          simp [go_sem, va, qa5, hca, ba1, ba2, pa0, pa0', pa1, pa1', pa2, pa2', pa3, pa3', pa4, pa4', pa5, pa5', ra0, ra0', ra1, ra1', hb0, hM1, z0, z1, z0', z1', x0, x0', xi, xi', nn01, nn02, nn03, nn04, nn05, no00, no00', no01, no01', nn10, nn12, nn13, nn14, nn15, no10, no10', no11, no11', nn20, nn21, nn23, nn24, nn25, no20, no20', no21, no21', nn30, nn31, nn32, nn34, nn35, no30, no30', no31, no31', nn40, nn41, nn42, nn43, nn45, no40, no40', no41, no41', nn50, nn51, nn52, nn53, nn54, no50, no50', no51, no51', ci1, ci2, pc0, pc1, pc2, pc3, pc4, pc5, pc6, ka, c1, c2, w1]
        · omega
        · omega
        · simp [go_sem, va, qa5, hca, ba1, ba2, pa0, pa0', pa1, pa1', pa2, pa2', pa3, pa3', pa4, pa4', pa5, pa5', ra0, ra0', ra1, ra1', hb0, hM1, z0, z1, z0', z1', x0, x0', xi, xi', nn01, nn02, nn03, nn04, nn05, no00, no00', no01, no01', nn10, nn12, nn13, nn14, nn15, no10, no10', no11, no11', nn20, nn21, nn23, nn24, nn25, no20, no20', no21, no21', nn30, nn31, nn32, nn34, nn35, no30, no30', no31, no31', nn40, nn41, nn42, nn43, nn45, no40, no40', no41, no41', nn50, nn51, nn52, nn53, nn54, no50, no50', no51, no51', killM]
          exact isL_app qa6 rfl rfl
        · rw [lb]
          simp [go_sem, va, qa5, hca, ba1, ba2, pa0, pa0', pa1, pa1', pa2, pa2', pa3, pa3', pa4, pa4', pa5, pa5', ra0, ra0', ra1, ra1', hb0, hM1, z0, z1, z0', z1', x0, x0', xi, xi', nn01, nn02, nn03, nn04, nn05, no00, no00', no01, no01', nn10, nn12, nn13, nn14, nn15, no10, no10', no11, no11', nn20, nn21, nn23, nn24, nn25, no20, no20', no21, no21', nn30, nn31, nn32, nn34, nn35, no30, no30', no31, no31', nn40, nn41, nn42, nn43, nn45, no40, no40', no41, no41', nn50, nn51, nn52, nn53, nn54, no50, no50', no51, no51', isL_one_iff]
        · omega
        · intro c c1 c2 c3
          obtain ⟨w1, w2, w3, w4⟩ := hI.hv c c3
          have ci1 : ¬ (c : Int) = a := by omega
          have ci2 : ¬ (c : Int) = b := by omega
          have pc0 : ¬ pos c = nx := by omega
          have pc1 : ¬ pos c = nx + 1 := by omega
          have pc2 : ¬ pos c = nx + 1 + 1 := by omega
          have pc3 : ¬ pos c = nx + 1 + 1 + 1 := by omega
          have pc4 : ¬ pos c = nx + 1 + 1 + 1 + 1 := by omega
          have pc5 : ¬ pos c = nx + 1 + 1 + 1 + 1 + 1 := by omega
          have pc6 : ¬ pos c = 1 := by omega
          have ka : ¬ pos c = pos a := fun e => c1 (hI.hi c a c3 hca e)
          refine ⟨ka, by omega, ?_⟩
          simp [go_sem, va, qa5, hca, ba1, ba2, pa0, pa0', pa1, pa1', pa2, pa2', pa3, pa3', pa4, pa4', pa5, pa5', ra0, ra0', ra1, ra1', hb0, hM1, z0, z1, z0', z1', x0, x0', xi, xi', nn01, nn02, nn03, nn04, nn05, no00, no00', no01, no01', nn10, nn12, nn13, nn14, nn15, no10, no10', no11, no11', nn20, nn21, nn23, nn24, nn25, no20, no20', no21, no21', nn30, nn31, nn32, nn34, nn35, no30, no30', no31, no31', nn40, nn41, nn42, nn43, nn45, no40, no40', no41, no41', nn50, nn51, nn52, nn53, nn54, no50, no50', no51, no51', ci1, ci2, pc0, pc1, pc2, pc3, pc4, pc5, pc6, ka, killM]
          exact isL_kill (pos a) (w4)
    · skip
      have hcb := hI.yes n4 lb
      obtain ⟨qb1, qb2, qb3, fb, qb5, qb6⟩ := hI.hv b hcb
      have vb := qb1
      have bb1 : ((g.looks m b k).length + 1) * 8 ≤ 140737488355328 := by have := g.looks_len m b k; omega
      have bb2 : (g.looks m b k).length ≤ 9223372036854775806 := by have := g.looks_len m b k; omega
      have pb0 : ¬ pos b = nx := by omega
      have pb0' : ¬ nx = pos b := by omega
      have pb1 : ¬ pos b = nx + 1 := by omega
      have pb1' : ¬ nx + 1 = pos b := by omega
      have pb2 : ¬ pos b = nx + 1 + 1 := by omega
      have pb2' : ¬ nx + 1 + 1 = pos b := by omega
      have pb3 : ¬ pos b = nx + 1 + 1 + 1 := by omega
      have pb3' : ¬ nx + 1 + 1 + 1 = pos b := by omega
      have pb4 : ¬ pos b = nx + 1 + 1 + 1 + 1 := by omega
      have pb4' : ¬ nx + 1 + 1 + 1 + 1 = pos b := by omega
      have pb5 : ¬ pos b = nx + 1 + 1 + 1 + 1 + 1 := by omega
      have pb5' : ¬ nx + 1 + 1 + 1 + 1 + 1 = pos b := by omega
      have rb0 : ¬ pos b = 0 := by omega
      have rb0' : ¬ 0 = pos b := by omega
      have rb1 : ¬ pos b = 1 := by omega
      have rb1' : ¬ 1 = pos b := by omega
      have pab : ¬ pos a = pos b := fun e => x0 (hI.hi a b hca hcb e)
      have pab' : ¬ pos b = pos a := fun e => x0 (hI.hi a b hca hcb e.symm)
      simp [go_sem, va, qa5, hca, ba1, ba2, pa0, pa0', pa1, pa1', pa2, pa2', pa3, pa3', pa4, pa4', pa5, pa5', ra0, ra0', ra1, ra1', vb, qb5, hcb, bb1, bb2, pb0, pb0', pb1, pb1', pb2, pb2', pb3, pb3', pb4, pb4', pb5, pb5', rb0, rb0', rb1, rb1', hM1, z0, z1, z0', z1', x0, x0', xi, xi', nn01, nn02, nn03, nn04, nn05, no00, no00', no01, no01', nn10, nn12, nn13, nn14, nn15, no10, no10', no11, no11', nn20, nn21, nn23, nn24, nn25, no20, no20', no21, no21', nn30, nn31, nn32, nn34, nn35, no30, no30', no31, no31', nn40, nn41, nn42, nn43, nn45, no40, no40', no41, no41', nn50, nn51, nn52, nn53, nn54, no50, no50', no51, no51', pab, pab']
      refine ⟨⟨?_, ?_⟩, ?_⟩
      · refine GOp_mapEntry T_ok (t := 119) (q := 1) (a := (a : Int)) (has := has) (val := fun x => ((val x).kill (pos a)).kill (pos b)) (st := st) (e := 42) (ei := ⟨1, 24, [.sl], .slice 3⟩) ?_ ?_ ?_ ?_ ?_ ?_ ?_ fun f c => ?_
        · rfl
        · rfl
        · simp [go_sem, va, qa5, hca, ba1, ba2, pa0, pa0', pa1, pa1', pa2, pa2', pa3, pa3', pa4, pa4', pa5, pa5', ra0, ra0', ra1, ra1', vb, qb5, hcb, bb1, bb2, pb0, pb0', pb1, pb1', pb2, pb2', pb3, pb3', pb4, pb4', pb5, pb5', rb0, rb0', rb1, rb1', hM1, z0, z1, z0', z1', x0, x0', xi, xi', nn01, nn02, nn03, nn04, nn05, no00, no00', no01, no01', nn10, nn12, nn13, nn14, nn15, no10, no10', no11, no11', nn20, nn21, nn23, nn24, nn25, no20, no20', no21, no21', nn30, nn31, nn32, nn34, nn35, no30, no30', no31, no31', nn40, nn41, nn42, nn43, nn45, no40, no40', no41, no41', nn50, nn51, nn52, nn53, nn54, no50, no50', no51, no51', pab, pab']
        · rfl
        · rfl
        · rfl
        · simp [go_sem]
        simp [go_sem, va, qa5, hca, ba1, ba2, pa0, pa0', pa1, pa1', pa2, pa2', pa3, pa3', pa4, pa4', pa5, pa5', ra0, ra0', ra1, ra1', vb, qb5, hcb, bb1, bb2, pb0, pb0', pb1, pb1', pb2, pb2', pb3, pb3', pb4, pb4', pb5, pb5', rb0, rb0', rb1, rb1', hM1, z0, z1, z0', z1', x0, x0', xi, xi', nn01, nn02, nn03, nn04, nn05, no00, no00', no01, no01', nn10, nn12, nn13, nn14, nn15, no10, no10', no11, no11', nn20, nn21, nn23, nn24, nn25, no20, no20', no21, no21', nn30, nn31, nn32, nn34, nn35, no30, no30', no31, no31', nn40, nn41, nn42, nn43, nn45, no40, no40', no41, no41', nn50, nn51, nn52, nn53, nn54, no50, no50', no51, no51', pab, pab']
        refine GOp_entryStore (a : Int) (has := fun x => if x = (a : Int) then true else has x) (val := fun x => if x = (a : Int) then (if has (a : Int) = true then (((val (a : Int)).kill (pos a)).kill (pos b)) else .r (.v (.slice none 0 0))) else ((val x).kill (pos a)).kill (pos b)) (f := f) (c := c) (q := 1) ?_ ?_ ?_ ?_ ?_ ?_ ?_
        · rfl
        · rfl
        · simp [go_sem, va, qa5, hca, ba1, ba2, pa0, pa0', pa1, pa1', pa2, pa2', pa3, pa3', pa4, pa4', pa5, pa5', ra0, ra0', ra1, ra1', vb, qb5, hcb, bb1, bb2, pb0, pb0', pb1, pb1', pb2, pb2', pb3, pb3', pb4, pb4', pb5, pb5', rb0, rb0', rb1, rb1', hM1, z0, z1, z0', z1', x0, x0', xi, xi', nn01, nn02, nn03, nn04, nn05, no00, no00', no01, no01', nn10, nn12, nn13, nn14, nn15, no10, no10', no11, no11', nn20, nn21, nn23, nn24, nn25, no20, no20', no21, no21', nn30, nn31, nn32, nn34, nn35, no30, no30', no31, no31', nn40, nn41, nn42, nn43, nn45, no40, no40', no41, no41', nn50, nn51, nn52, nn53, nn54, no50, no50', no51, no51', pab, pab']
        · simp
        · rfl
        · simp [go_sem]
        simp [go_sem, va, qa5, hca, ba1, ba2, pa0, pa0', pa1, pa1', pa2, pa2', pa3, pa3', pa4, pa4', pa5, pa5', ra0, ra0', ra1, ra1', vb, qb5, hcb, bb1, bb2, pb0, pb0', pb1, pb1', pb2, pb2', pb3, pb3', pb4, pb4', pb5, pb5', rb0, rb0', rb1, rb1', hM1, z0, z1, z0', z1', x0, x0', xi, xi', nn01, nn02, nn03, nn04, nn05, no00, no00', no01, no01', nn10, nn12, nn13, nn14, nn15, no10, no10', no11, no11', nn20, nn21, nn23, nn24, nn25, no20, no20', no21, no21', nn30, nn31, nn32, nn34, nn35, no30, no30', no31, no31', nn40, nn41, nn42, nn43, nn45, no40, no40', no41, no41', nn50, nn51, nn52, nn53, nn54, no50, no50', no51, no51', pab, pab']
        refine ⟨_, _, _, hI.grow x0 n3 n4 hs' (ra := pos a) (rb := pos b) ?_ ?_ rfl ?_ ?_ ?_ ?_ ?_ ?_ ?_ ?_ ?_ ?_⟩
        · simp [go_sem, va, qa5, hca, ba1, ba2, pa0, pa0', pa1, pa1', pa2, pa2', pa3, pa3', pa4, pa4', pa5, pa5', ra0, ra0', ra1, ra1', vb, qb5, hcb, bb1, bb2, pb0, pb0', pb1, pb1', pb2, pb2', pb3, pb3', pb4, pb4', pb5, pb5', rb0, rb0', rb1, rb1', hM1, z0, z1, z0', z1', x0, x0', xi, xi', nn01, nn02, nn03, nn04, nn05, no00, no00', no01, no01', nn10, nn12, nn13, nn14, nn15, no10, no10', no11, no11', nn20, nn21, nn23, nn24, nn25, no20, no20', no21, no21', nn30, nn31, nn32, nn34, nn35, no30, no30', no31, no31', nn40, nn41, nn42, nn43, nn45, no40, no40', no41, no41', nn50, nn51, nn52, nn53, nn54, no50, no50', no51, no51', pab, pab', hM0, killM]
        · omega
        · intro x
          rfl
        · simp [go_sem, va, qa5, hca, ba1, ba2, pa0, pa0', pa1, pa1', pa2, pa2', pa3, pa3', pa4, pa4', pa5, pa5', ra0, ra0', ra1, ra1', vb, qb5, hcb, bb1, bb2, pb0, pb0', pb1, pb1', pb2, pb2', pb3, pb3', pb4, pb4', pb5, pb5', rb0, rb0', rb1, rb1', hM1, z0, z1, z0', z1', x0, x0', xi, xi', nn01, nn02, nn03, nn04, nn05, no00, no00', no01, no01', nn10, nn12, nn13, nn14, nn15, no10, no10', no11, no11', nn20, nn21, nn23, nn24, nn25, no20, no20', no21, no21', nn30, nn31, nn32, nn34, nn35, no30, no30', no31, no31', nn40, nn41, nn42, nn43, nn45, no40, no40', no41, no41', nn50, nn51, nn52, nn53, nn54, no50, no50', no51, no51', pab, pab']
        · simp [go_sem, va, qa5, hca, ba1, ba2, pa0, pa0', pa1, pa1', pa2, pa2', pa3, pa3', pa4, pa4', pa5, pa5', ra0, ra0', ra1, ra1', vb, qb5, hcb, bb1, bb2, pb0, pb0', pb1, pb1', pb2, pb2', pb3, pb3', pb4, pb4', pb5, pb5', rb0, rb0', rb1, rb1', hM1, z0, z1, z0', z1', x0, x0', xi, xi', nn01, nn02, nn03, nn04, nn05, no00, no00', no01, no01', nn10, nn12, nn13, nn14, nn15, no10, no10', no11, no11', nn20, nn21, nn23, nn24, nn25, no20, no20', no21, no21', nn30, nn31, nn32, nn34, nn35, no30, no30', no31, no31', nn40, nn41, nn42, nn43, nn45, no40, no40', no41, no41', nn50, nn51, nn52, nn53, nn54, no50, no50', no51, no51', pab, pab']
        · intro c c1 c2 c3
          obtain ⟨w1, w2, w3, w4⟩ := hI.hv c c3
          have ci1 : ¬ (c : Int) = a := by omega
          have ci2 : ¬ (c : Int) = b := by omega
          have pc0 : ¬ pos c = nx := by omega
          have pc1 : ¬ pos c = nx + 1 := by omega
          have pc2 : ¬ pos c = nx + 1 + 1 := by omega
          have pc3 : ¬ pos c = nx + 1 + 1 + 1 := by omega
          have pc4 : ¬ pos c = nx + 1 + 1 + 1 + 1 := by omega
          have pc5 : ¬ pos c = nx + 1 + 1 + 1 + 1 + 1 := by omega
          have pc6 : ¬ pos c = 1 := by omega
          have ka : ¬ pos c = pos a := fun e => c1 (hI.hi c a c3 hca e)
          have kb : ¬ pos c = pos b := fun e => c2 (hI.hi c b c3 hcb e)
          simp [go_sem, va, qa5, hca, ba1, ba2, pa0, pa0', pa1, pa1', pa2, pa2', pa3, pa3', pa4, pa4', pa5, pa5', ra0, ra0', ra1, ra1', vb, qb5, hcb, bb1, bb2, pb0, pb0', pb1, pb1', pb2, pb2', pb3, pb3', pb4, pb4', pb5, pb5', rb0, rb0', rb1, rb1', hM1, z0, z1, z0', z1', x0, x0', xi, xi', nn01, nn02, nn03, nn04, nn05, no00, no00', no01, no01', nn10, nn12, nn13, nn14, nn15, no10, no10', no11, no11', nn20, nn21, nn23, nn24, nn25, no20, no20', no21, no21', nn30, nn31, nn32, nn34, nn35, no30, no30', no31, no31', nn40, nn41, nn42, nn43, nn45, no40, no40', no41, no41', nn50, nn51, nn52, nn53, nn54, no50, no50', no51, no51', pab, pab', ci1, ci2, pc0, pc1, pc2, pc3, pc4, pc5, pc6, ka, kb, c1, c2, w1]
        · omega
        · omega
        · simp [go_sem, va, qa5, hca, ba1, ba2, pa0, pa0', pa1, pa1', pa2, pa2', pa3, pa3', pa4, pa4', pa5, pa5', ra0, ra0', ra1, ra1', vb, qb5, hcb, bb1, bb2, pb0, pb0', pb1, pb1', pb2, pb2', pb3, pb3', pb4, pb4', pb5, pb5', rb0, rb0', rb1, rb1', hM1, z0, z1, z0', z1', x0, x0', xi, xi', nn01, nn02, nn03, nn04, nn05, no00, no00', no01, no01', nn10, nn12, nn13, nn14, nn15, no10, no10', no11, no11', nn20, nn21, nn23, nn24, nn25, no20, no20', no21, no21', nn30, nn31, nn32, nn34, nn35, no30, no30', no31, no31', nn40, nn41, nn42, nn43, nn45, no40, no40', no41, no41', nn50, nn51, nn52, nn53, nn54, no50, no50', no51, no51', pab, pab', killM]
          exact isL_kill (pos b) (isL_app qa6 rfl rfl)
        · simp [go_sem, va, qa5, hca, ba1, ba2, pa0, pa0', pa1, pa1', pa2, pa2', pa3, pa3', pa4, pa4', pa5, pa5', ra0, ra0', ra1, ra1', vb, qb5, hcb, bb1, bb2, pb0, pb0', pb1, pb1', pb2, pb2', pb3, pb3', pb4, pb4', pb5, pb5', rb0, rb0', rb1, rb1', hM1, z0, z1, z0', z1', x0, x0', xi, xi', nn01, nn02, nn03, nn04, nn05, no00, no00', no01, no01', nn10, nn12, nn13, nn14, nn15, no10, no10', no11, no11', nn20, nn21, nn23, nn24, nn25, no20, no20', no21, no21', nn30, nn31, nn32, nn34, nn35, no30, no30', no31, no31', nn40, nn41, nn42, nn43, nn45, no40, no40', no41, no41', nn50, nn51, nn52, nn53, nn54, no50, no50', no51, no51', pab, pab', killM]
          exact isL_app (fun i hi => by rw [qb6 i hi]; rfl) rfl rfl
        · omega
        · intro c c1 c2 c3
          obtain ⟨w1, w2, w3, w4⟩ := hI.hv c c3
          have ci1 : ¬ (c : Int) = a := by omega
          have ci2 : ¬ (c : Int) = b := by omega
          have pc0 : ¬ pos c = nx := by omega
          have pc1 : ¬ pos c = nx + 1 := by omega
          have pc2 : ¬ pos c = nx + 1 + 1 := by omega
          have pc3 : ¬ pos c = nx + 1 + 1 + 1 := by omega
          have pc4 : ¬ pos c = nx + 1 + 1 + 1 + 1 := by omega
          have pc5 : ¬ pos c = nx + 1 + 1 + 1 + 1 + 1 := by omega
          have pc6 : ¬ pos c = 1 := by omega
          have ka : ¬ pos c = pos a := fun e => c1 (hI.hi c a c3 hca e)
          have kb : ¬ pos c = pos b := fun e => c2 (hI.hi c b c3 hcb e)
          refine ⟨ka, kb, ?_⟩
          simp [go_sem, va, qa5, hca, ba1, ba2, pa0, pa0', pa1, pa1', pa2, pa2', pa3, pa3', pa4, pa4', pa5, pa5', ra0, ra0', ra1, ra1', vb, qb5, hcb, bb1, bb2, pb0, pb0', pb1, pb1', pb2, pb2', pb3, pb3', pb4, pb4', pb5, pb5', rb0, rb0', rb1, rb1', hM1, z0, z1, z0', z1', x0, x0', xi, xi', nn01, nn02, nn03, nn04, nn05, no00, no00', no01, no01', nn10, nn12, nn13, nn14, nn15, no10, no10', no11, no11', nn20, nn21, nn23, nn24, nn25, no20, no20', no21, no21', nn30, nn31, nn32, nn34, nn35, no30, no30', no31, no31', nn40, nn41, nn42, nn43, nn45, no40, no40', no41, no41', nn50, nn51, nn52, nn53, nn54, no50, no50', no51, no51', pab, pab', ci1, ci2, pc0, pc1, pc2, pc3, pc4, pc5, pc6, ka, kb, killM]
          exact (by rw [← Option.map_map]; exact isL_kill (pos b) (isL_kill (pos a) (w4)))
      · refine GOp_mapEntry T_ok (t := 119) (q := 1) (a := (a : Int)) (has := has) (val := fun x => ((val x).kill (pos a)).kill (pos b)) (st := st) (e := 42) (ei := ⟨1, 24, [.sl], .slice 3⟩) ?_ ?_ ?_ ?_ ?_ ?_ ?_ fun f c => ?_
        · rfl
        · rfl
        · simp [go_sem, va, qa5, hca, ba1, ba2, pa0, pa0', pa1, pa1', pa2, pa2', pa3, pa3', pa4, pa4', pa5, pa5', ra0, ra0', ra1, ra1', vb, qb5, hcb, bb1, bb2, pb0, pb0', pb1, pb1', pb2, pb2', pb3, pb3', pb4, pb4', pb5, pb5', rb0, rb0', rb1, rb1', hM1, z0, z1, z0', z1', x0, x0', xi, xi', nn01, nn02, nn03, nn04, nn05, no00, no00', no01, no01', nn10, nn12, nn13, nn14, nn15, no10, no10', no11, no11', nn20, nn21, nn23, nn24, nn25, no20, no20', no21, no21', nn30, nn31, nn32, nn34, nn35, no30, no30', no31, no31', nn40, nn41, nn42, nn43, nn45, no40, no40', no41, no41', nn50, nn51, nn52, nn53, nn54, no50, no50', no51, no51', pab, pab']
        · rfl
        · rfl
        · rfl
        · simp [go_sem]
        simp [go_sem, va, qa5, hca, ba1, ba2, pa0, pa0', pa1, pa1', pa2, pa2', pa3, pa3', pa4, pa4', pa5, pa5', ra0, ra0', ra1, ra1', vb, qb5, hcb, bb1, bb2, pb0, pb0', pb1, pb1', pb2, pb2', pb3, pb3', pb4, pb4', pb5, pb5', rb0, rb0', rb1, rb1', hM1, z0, z1, z0', z1', x0, x0', xi, xi', nn01, nn02, nn03, nn04, nn05, no00, no00', no01, no01', nn10, nn12, nn13, nn14, nn15, no10, no10', no11, no11', nn20, nn21, nn23, nn24, nn25, no20, no20', no21, no21', nn30, nn31, nn32, nn34, nn35, no30, no30', no31, no31', nn40, nn41, nn42, nn43, nn45, no40, no40', no41, no41', nn50, nn51, nn52, nn53, nn54, no50, no50', no51, no51', pab, pab']
        refine GOp_entryStore (a : Int) (has := fun x => if x = (a : Int) then true else has x) (val := fun x => if x = (a : Int) then (if has (a : Int) = true then (((val (a : Int)).kill (pos a)).kill (pos b)) else .r (.v (.slice none 0 0))) else ((val x).kill (pos a)).kill (pos b)) (f := f) (c := c) (q := 1) ?_ ?_ ?_ ?_ ?_ ?_ ?_
        · rfl
        · rfl
        · simp [go_sem, va, qa5, hca, ba1, ba2, pa0, pa0', pa1, pa1', pa2, pa2', pa3, pa3', pa4, pa4', pa5, pa5', ra0, ra0', ra1, ra1', vb, qb5, hcb, bb1, bb2, pb0, pb0', pb1, pb1', pb2, pb2', pb3, pb3', pb4, pb4', pb5, pb5', rb0, rb0', rb1, rb1', hM1, z0, z1, z0', z1', x0, x0', xi, xi', nn01, nn02, nn03, nn04, nn05, no00, no00', no01, no01', nn10, nn12, nn13, nn14, nn15, no10, no10', no11, no11', nn20, nn21, nn23, nn24, nn25, no20, no20', no21, no21', nn30, nn31, nn32, nn34, nn35, no30, no30', no31, no31', nn40, nn41, nn42, nn43, nn45, no40, no40', no41, no41', nn50, nn51, nn52, nn53, nn54, no50, no50', no51, no51', pab, pab']
        · simp
        · rfl
        · simp [go_sem]
        simp [go_sem, va, qa5, hca, ba1, ba2, pa0, pa0', pa1, pa1', pa2, pa2', pa3, pa3', pa4, pa4', pa5, pa5', ra0, ra0', ra1, ra1', vb, qb5, hcb, bb1, bb2, pb0, pb0', pb1, pb1', pb2, pb2', pb3, pb3', pb4, pb4', pb5, pb5', rb0, rb0', rb1, rb1', hM1, z0, z1, z0', z1', x0, x0', xi, xi', nn01, nn02, nn03, nn04, nn05, no00, no00', no01, no01', nn10, nn12, nn13, nn14, nn15, no10, no10', no11, no11', nn20, nn21, nn23, nn24, nn25, no20, no20', no21, no21', nn30, nn31, nn32, nn34, nn35, no30, no30', no31, no31', nn40, nn41, nn42, nn43, nn45, no40, no40', no41, no41', nn50, nn51, nn52, nn53, nn54, no50, no50', no51, no51', pab, pab']
        refine ⟨_, _, _, hI.grow x0 n3 n4 hs' (ra := pos a) (rb := pos b) ?_ ?_ rfl ?_ ?_ ?_ ?_ ?_ ?_ ?_ ?_ ?_ ?_⟩
        · simp [go_sem, va, qa5, hca, ba1, ba2, pa0, pa0', pa1, pa1', pa2, pa2', pa3, pa3', pa4, pa4', pa5, pa5', ra0, ra0', ra1, ra1', vb, qb5, hcb, bb1, bb2, pb0, pb0', pb1, pb1', pb2, pb2', pb3, pb3', pb4, pb4', pb5, pb5', rb0, rb0', rb1, rb1', hM1, z0, z1, z0', z1', x0, x0', xi, xi', nn01, nn02, nn03, nn04, nn05, no00, no00', no01, no01', nn10, nn12, nn13, nn14, nn15, no10, no10', no11, no11', nn20, nn21, nn23, nn24, nn25, no20, no20', no21, no21', nn30, nn31, nn32, nn34, nn35, no30, no30', no31, no31', nn40, nn41, nn42, nn43, nn45, no40, no40', no41, no41', nn50, nn51, nn52, nn53, nn54, no50, no50', no51, no51', pab, pab', hM0, killM]
        · omega
        · intro x
          rfl
        · simp [go_sem, va, qa5, hca, ba1, ba2, pa0, pa0', pa1, pa1', pa2, pa2', pa3, pa3', pa4, pa4', pa5, pa5', ra0, ra0', ra1, ra1', vb, qb5, hcb, bb1, bb2, pb0, pb0', pb1, pb1', pb2, pb2', pb3, pb3', pb4, pb4', pb5, pb5', rb0, rb0', rb1, rb1', hM1, z0, z1, z0', z1', x0, x0', xi, xi', nn01, nn02, nn03, nn04, nn05, no00, no00', no01, no01', nn10, nn12, nn13, nn14, nn15, no10, no10', no11, no11', nn20, nn21, nn23, nn24, nn25, no20, no20', no21, no21', nn30, nn31, nn32, nn34, nn35, no30, no30', no31, no31', nn40, nn41, nn42, nn43, nn45, no40, no40', no41, no41', nn50, nn51, nn52, nn53, nn54, no50, no50', no51, no51', pab, pab']
        · simp [go_sem, va, qa5, hca, ba1, ba2, pa0, pa0', pa1, pa1', pa2, pa2', pa3, pa3', pa4, pa4', pa5, pa5', ra0, ra0', ra1, ra1', vb, qb5, hcb, bb1, bb2, pb0, pb0', pb1, pb1', pb2, pb2', pb3, pb3', pb4, pb4', pb5, pb5', rb0, rb0', rb1, rb1', hM1, z0, z1, z0', z1', x0, x0', xi, xi', nn01, nn02, nn03, nn04, nn05, no00, no00', no01, no01', nn10, nn12, nn13, nn14, nn15, no10, no10', no11, no11', nn20, nn21, nn23, nn24, nn25, no20, no20', no21, no21', nn30, nn31, nn32, nn34, nn35, no30, no30', no31, no31', nn40, nn41, nn42, nn43, nn45, no40, no40', no41, no41', nn50, nn51, nn52, nn53, nn54, no50, no50', no51, no51', pab, pab']
        · intro c c1 c2 c3
          obtain ⟨w1, w2, w3, w4⟩ := hI.hv c c3
          have ci1 : ¬ (c : Int) = a := by omega
          have ci2 : ¬ (c : Int) = b := by omega
          have pc0 : ¬ pos c = nx := by omega
          have pc1 : ¬ pos c = nx + 1 := by omega
          have pc2 : ¬ pos c = nx + 1 + 1 := by omega
          have pc3 : ¬ pos c = nx + 1 + 1 + 1 := by omega
          have pc4 : ¬ pos c = nx + 1 + 1 + 1 + 1 := by omega
          have pc5 : ¬ pos c = nx + 1 + 1 + 1 + 1 + 1 := by omega
          have pc6 : ¬ pos c = 1 := by omega
          have ka : ¬ pos c = pos a := fun e => c1 (hI.hi c a c3 hca e)
          have kb : ¬ pos c = pos b := fun e => c2 (hI.hi c b c3 hcb e)
          simp [go_sem, va, qa5, hca, ba1, ba2, pa0, pa0', pa1, pa1', pa2, pa2', pa3, pa3', pa4, pa4', pa5, pa5', ra0, ra0', ra1, ra1', vb, qb5, hcb, bb1, bb2, pb0, pb0', pb1, pb1', pb2, pb2', pb3, pb3', pb4, pb4', pb5, pb5', rb0, rb0', rb1, rb1', hM1, z0, z1, z0', z1', x0, x0', xi, xi', nn01, nn02, nn03, nn04, nn05, no00, no00', no01, no01', nn10, nn12, nn13, nn14, nn15, no10, no10', no11, no11', nn20, nn21, nn23, nn24, nn25, no20, no20', no21, no21', nn30, nn31, nn32, nn34, nn35, no30, no30', no31, no31', nn40, nn41, nn42, nn43, nn45, no40, no40', no41, no41', nn50, nn51, nn52, nn53, nn54, no50, no50', no51, no51', pab, pab', ci1, ci2, pc0, pc1, pc2, pc3, pc4, pc5, pc6, ka, kb, c1, c2, w1]
        · omega
        · omega
        · simp [go_sem, va, qa5, hca, ba1, ba2, pa0, pa0', pa1, pa1', pa2, pa2', pa3, pa3', pa4, pa4', pa5, pa5', ra0, ra0', ra1, ra1', vb, qb5, hcb, bb1, bb2, pb0, pb0', pb1, pb1', pb2, pb2', pb3, pb3', pb4, pb4', pb5, pb5', rb0, rb0', rb1, rb1', hM1, z0, z1, z0', z1', x0, x0', xi, xi', nn01, nn02, nn03, nn04, nn05, no00, no00', no01, no01', nn10, nn12, nn13, nn14, nn15, no10, no10', no11, no11', nn20, nn21, nn23, nn24, nn25, no20, no20', no21, no21', nn30, nn31, nn32, nn34, nn35, no30, no30', no31, no31', nn40, nn41, nn42, nn43, nn45, no40, no40', no41, no41', nn50, nn51, nn52, nn53, nn54, no50, no50', no51, no51', pab, pab', killM]
          exact isL_kill (pos b) (isL_app qa6 rfl rfl)
        · simp [go_sem, va, qa5, hca, ba1, ba2, pa0, pa0', pa1, pa1', pa2, pa2', pa3, pa3', pa4, pa4', pa5, pa5', ra0, ra0', ra1, ra1', vb, qb5, hcb, bb1, bb2, pb0, pb0', pb1, pb1', pb2, pb2', pb3, pb3', pb4, pb4', pb5, pb5', rb0, rb0', rb1, rb1', hM1, z0, z1, z0', z1', x0, x0', xi, xi', nn01, nn02, nn03, nn04, nn05, no00, no00', no01, no01', nn10, nn12, nn13, nn14, nn15, no10, no10', no11, no11', nn20, nn21, nn23, nn24, nn25, no20, no20', no21, no21', nn30, nn31, nn32, nn34, nn35, no30, no30', no31, no31', nn40, nn41, nn42, nn43, nn45, no40, no40', no41, no41', nn50, nn51, nn52, nn53, nn54, no50, no50', no51, no51', pab, pab', killM]
          exact isL_app (fun i hi => by rw [qb6 i hi]; rfl) rfl rfl
        · omega
        · intro c c1 c2 c3
          obtain ⟨w1, w2, w3, w4⟩ := hI.hv c c3
          have ci1 : ¬ (c : Int) = a := by omega
          have ci2 : ¬ (c : Int) = b := by omega
          have pc0 : ¬ pos c = nx := by omega
          have pc1 : ¬ pos c = nx + 1 := by omega
          have pc2 : ¬ pos c = nx + 1 + 1 := by omega
          have pc3 : ¬ pos c = nx + 1 + 1 + 1 := by omega
          have pc4 : ¬ pos c = nx + 1 + 1 + 1 + 1 := by omega
          have pc5 : ¬ pos c = nx + 1 + 1 + 1 + 1 + 1 := by omega
          have pc6 : ¬ pos c = 1 := by omega
          have ka : ¬ pos c = pos a := fun e => c1 (hI.hi c a c3 hca e)
          have kb : ¬ pos c = pos b := fun e => c2 (hI.hi c b c3 hcb e)
          refine ⟨ka, kb, ?_⟩
          simp [go_sem, va, qa5, hca, ba1, ba2, pa0, pa0', pa1, pa1', pa2, pa2', pa3, pa3', pa4, pa4', pa5, pa5', ra0, ra0', ra1, ra1', vb, qb5, hcb, bb1, bb2, pb0, pb0', pb1, pb1', pb2, pb2', pb3, pb3', pb4, pb4', pb5, pb5', rb0, rb0', rb1, rb1', hM1, z0, z1, z0', z1', x0, x0', xi, xi', nn01, nn02, nn03, nn04, nn05, no00, no00', no01, no01', nn10, nn12, nn13, nn14, nn15, no10, no10', no11, no11', nn20, nn21, nn23, nn24, nn25, no20, no20', no21, no21', nn30, nn31, nn32, nn34, nn35, no30, no30', no31, no31', nn40, nn41, nn42, nn43, nn45, no40, no40', no41, no41', nn50, nn51, nn52, nn53, nn54, no50, no50', no51, no51', pab, pab', ci1, ci2, pc0, pc1, pc2, pc3, pc4, pc5, pc6, ka, kb, killM]
          exact (by rw [← Option.map_map]; exact isL_kill (pos b) (isL_kill (pos a) (w4)))
      · refine GOp_mapEntry T_ok (t := 119) (q := 1) (a := (a : Int)) (has := has) (val := fun x => ((val x).kill (pos a)).kill (pos b)) (st := st) (e := 42) (ei := ⟨1, 24, [.sl], .slice 3⟩) ?_ ?_ ?_ ?_ ?_ ?_ ?_ fun f c => ?_
        · rfl
        · rfl
        · simp [go_sem, va, qa5, hca, ba1, ba2, pa0, pa0', pa1, pa1', pa2, pa2', pa3, pa3', pa4, pa4', pa5, pa5', ra0, ra0', ra1, ra1', vb, qb5, hcb, bb1, bb2, pb0, pb0', pb1, pb1', pb2, pb2', pb3, pb3', pb4, pb4', pb5, pb5', rb0, rb0', rb1, rb1', hM1, z0, z1, z0', z1', x0, x0', xi, xi', nn01, nn02, nn03, nn04, nn05, no00, no00', no01, no01', nn10, nn12, nn13, nn14, nn15, no10, no10', no11, no11', nn20, nn21, nn23, nn24, nn25, no20, no20', no21, no21', nn30, nn31, nn32, nn34, nn35, no30, no30', no31, no31', nn40, nn41, nn42, nn43, nn45, no40, no40', no41, no41', nn50, nn51, nn52, nn53, nn54, no50, no50', no51, no51', pab, pab']
        · rfl
        · rfl
        · rfl
        · simp [go_sem]
        simp [go_sem, va, qa5, hca, ba1, ba2, pa0, pa0', pa1, pa1', pa2, pa2', pa3, pa3', pa4, pa4', pa5, pa5', ra0, ra0', ra1, ra1', vb, qb5, hcb, bb1, bb2, pb0, pb0', pb1, pb1', pb2, pb2', pb3, pb3', pb4, pb4', pb5, pb5', rb0, rb0', rb1, rb1', hM1, z0, z1, z0', z1', x0, x0', xi, xi', nn01, nn02, nn03, nn04, nn05, no00, no00', no01, no01', nn10, nn12, nn13, nn14, nn15, no10, no10', no11, no11', nn20, nn21, nn23, nn24, nn25, no20, no20', no21, no21', nn30, nn31, nn32, nn34, nn35, no30, no30', no31, no31', nn40, nn41, nn42, nn43, nn45, no40, no40', no41, no41', nn50, nn51, nn52, nn53, nn54, no50, no50', no51, no51', pab, pab']
        refine GOp_entryStore (a : Int) (has := fun x => if x = (a : Int) then true else has x) (val := fun x => if x = (a : Int) then (if has (a : Int) = true then (((val (a : Int)).kill (pos a)).kill (pos b)) else .r (.v (.slice none 0 0))) else ((val x).kill (pos a)).kill (pos b)) (f := f) (c := c) (q := 1) ?_ ?_ ?_ ?_ ?_ ?_ ?_
        · rfl
        · rfl
        · simp [go_sem, va, qa5, hca, ba1, ba2, pa0, pa0', pa1, pa1', pa2, pa2', pa3, pa3', pa4, pa4', pa5, pa5', ra0, ra0', ra1, ra1', vb, qb5, hcb, bb1, bb2, pb0, pb0', pb1, pb1', pb2, pb2', pb3, pb3', pb4, pb4', pb5, pb5', rb0, rb0', rb1, rb1', hM1, z0, z1, z0', z1', x0, x0', xi, xi', nn01, nn02, nn03, nn04, nn05, no00, no00', no01, no01', nn10, nn12, nn13, nn14, nn15, no10, no10', no11, no11', nn20, nn21, nn23, nn24, nn25, no20, no20', no21, no21', nn30, nn31, nn32, nn34, nn35, no30, no30', no31, no31', nn40, nn41, nn42, nn43, nn45, no40, no40', no41, no41', nn50, nn51, nn52, nn53, nn54, no50, no50', no51, no51', pab, pab']
        · simp
        · rfl
        · simp [go_sem]
        simp [go_sem, va, qa5, hca, ba1, ba2, pa0, pa0', pa1, pa1', pa2, pa2', pa3, pa3', pa4, pa4', pa5, pa5', ra0, ra0', ra1, ra1', vb, qb5, hcb, bb1, bb2, pb0, pb0', pb1, pb1', pb2, pb2', pb3, pb3', pb4, pb4', pb5, pb5', rb0, rb0', rb1, rb1', hM1, z0, z1, z0', z1', x0, x0', xi, xi', nn01, nn02, nn03, nn04, nn05, no00, no00', no01, no01', nn10, nn12, nn13, nn14, nn15, no10, no10', no11, no11', nn20, nn21, nn23, nn24, nn25, no20, no20', no21, no21', nn30, nn31, nn32, nn34, nn35, no30, no30', no31, no31', nn40, nn41, nn42, nn43, nn45, no40, no40', no41, no41', nn50, nn51, nn52, nn53, nn54, no50, no50', no51, no51', pab, pab']
        refine ⟨_, _, _, hI.grow x0 n3 n4 hs' (ra := pos a) (rb := pos b) ?_ ?_ rfl ?_ ?_ ?_ ?_ ?_ ?_ ?_ ?_ ?_ ?_⟩
        · simp [go_sem, va, qa5, hca, ba1, ba2, pa0, pa0', pa1, pa1', pa2, pa2', pa3, pa3', pa4, pa4', pa5, pa5', ra0, ra0', ra1, ra1', vb, qb5, hcb, bb1, bb2, pb0, pb0', pb1, pb1', pb2, pb2', pb3, pb3', pb4, pb4', pb5, pb5', rb0, rb0', rb1, rb1', hM1, z0, z1, z0', z1', x0, x0', xi, xi', nn01, nn02, nn03, nn04, nn05, no00, no00', no01, no01', nn10, nn12, nn13, nn14, nn15, no10, no10', no11, no11', nn20, nn21, nn23, nn24, nn25, no20, no20', no21, no21', nn30, nn31, nn32, nn34, nn35, no30, no30', no31, no31', nn40, nn41, nn42, nn43, nn45, no40, no40', no41, no41', nn50, nn51, nn52, nn53, nn54, no50, no50', no51, no51', pab, pab', hM0, killM]
        · omega
        · intro x
          rfl
        · simp [go_sem, va, qa5, hca, ba1, ba2, pa0, pa0', pa1, pa1', pa2, pa2', pa3, pa3', pa4, pa4', pa5, pa5', ra0, ra0', ra1, ra1', vb, qb5, hcb, bb1, bb2, pb0, pb0', pb1, pb1', pb2, pb2', pb3, pb3', pb4, pb4', pb5, pb5', rb0, rb0', rb1, rb1', hM1, z0, z1, z0', z1', x0, x0', xi, xi', nn01, nn02, nn03, nn04, nn05, no00, no00', no01, no01', nn10, nn12, nn13, nn14, nn15, no10, no10', no11, no11', nn20, nn21, nn23, nn24, nn25, no20, no20', no21, no21', nn30, nn31, nn32, nn34, nn35, no30, no30', no31, no31', nn40, nn41, nn42, nn43, nn45, no40, no40', no41, no41', nn50, nn51, nn52, nn53, nn54, no50, no50', no51, no51', pab, pab']
        · simp [go_sem, va, qa5, hca, ba1, ba2, pa0, pa0', pa1, pa1', pa2, pa2', pa3, pa3', pa4, pa4', pa5, pa5', ra0, ra0', ra1, ra1', vb, qb5, hcb, bb1, bb2, pb0, pb0', pb1, pb1', pb2, pb2', pb3, pb3', pb4, pb4', pb5, pb5', rb0, rb0', rb1, rb1', hM1, z0, z1, z0', z1', x0, x0', xi, xi', nn01, nn02, nn03, nn04, nn05, no00, no00', no01, no01', nn10, nn12, nn13, nn14, nn15, no10, no10', no11, no11', nn20, nn21, nn23, nn24, nn25, no20, no20', no21, no21', nn30, nn31, nn32, nn34, nn35, no30, no30', no31, no31', nn40, nn41, nn42, nn43, nn45, no40, no40', no41, no41', nn50, nn51, nn52, nn53, nn54, no50, no50', no51, no51', pab, pab']
        · intro c c1 c2 c3
          obtain ⟨w1, w2, w3, w4⟩ := hI.hv c c3
          have ci1 : ¬ (c : Int) = a := by omega
          have ci2 : ¬ (c : Int) = b := by omega
          have pc0 : ¬ pos c = nx := by omega
          have pc1 : ¬ pos c = nx + 1 := by omega
          have pc2 : ¬ pos c = nx + 1 + 1 := by omega
          have pc3 : ¬ pos c = nx + 1 + 1 + 1 := by omega
          have pc4 : ¬ pos c = nx + 1 + 1 + 1 + 1 := by omega
          have pc5 : ¬ pos c = nx + 1 + 1 + 1 + 1 + 1 := by omega
          have pc6 : ¬ pos c = 1 := by omega
          have ka : ¬ pos c = pos a := fun e => c1 (hI.hi c a c3 hca e)
          have kb : ¬ pos c = pos b := fun e => c2 (hI.hi c b c3 hcb e)
          simp [go_sem, va, qa5, hca, ba1, ba2, pa0, pa0', pa1, pa1', pa2, pa2', pa3, pa3', pa4, pa4', pa5, pa5', ra0, ra0', ra1, ra1', vb, qb5, hcb, bb1, bb2, pb0, pb0', pb1, pb1', pb2, pb2', pb3, pb3', pb4, pb4', pb5, pb5', rb0, rb0', rb1, rb1', hM1, z0, z1, z0', z1', x0, x0', xi, xi', nn01, nn02, nn03, nn04, nn05, no00, no00', no01, no01', nn10, nn12, nn13, nn14, nn15, no10, no10', no11, no11', nn20, nn21, nn23, nn24, nn25, no20, no20', no21, no21', nn30, nn31, nn32, nn34, nn35, no30, no30', no31, no31', nn40, nn41, nn42, nn43, nn45, no40, no40', no41, no41', nn50, nn51, nn52, nn53, nn54, no50, no50', no51, no51', pab, pab', ci1, ci2, pc0, pc1, pc2, pc3, pc4, pc5, pc6, ka, kb, c1, c2, w1]
        · omega
        · omega
        · simp [go_sem, va, qa5, hca, ba1, ba2, pa0, pa0', pa1, pa1', pa2, pa2', pa3, pa3', pa4, pa4', pa5, pa5', ra0, ra0', ra1, ra1', vb, qb5, hcb, bb1, bb2, pb0, pb0', pb1, pb1', pb2, pb2', pb3, pb3', pb4, pb4', pb5, pb5', rb0, rb0', rb1, rb1', hM1, z0, z1, z0', z1', x0, x0', xi, xi', nn01, nn02, nn03, nn04, nn05, no00, no00', no01, no01', nn10, nn12, nn13, nn14, nn15, no10, no10', no11, no11', nn20, nn21, nn23, nn24, nn25, no20, no20', no21, no21', nn30, nn31, nn32, nn34, nn35, no30, no30', no31, no31', nn40, nn41, nn42, nn43, nn45, no40, no40', no41, no41', nn50, nn51, nn52, nn53, nn54, no50, no50', no51, no51', pab, pab', killM]
          exact isL_kill (pos b) (isL_app qa6 rfl rfl)
        · simp [go_sem, va, qa5, hca, ba1, ba2, pa0, pa0', pa1, pa1', pa2, pa2', pa3, pa3', pa4, pa4', pa5, pa5', ra0, ra0', ra1, ra1', vb, qb5, hcb, bb1, bb2, pb0, pb0', pb1, pb1', pb2, pb2', pb3, pb3', pb4, pb4', pb5, pb5', rb0, rb0', rb1, rb1', hM1, z0, z1, z0', z1', x0, x0', xi, xi', nn01, nn02, nn03, nn04, nn05, no00, no00', no01, no01', nn10, nn12, nn13, nn14, nn15, no10, no10', no11, no11', nn20, nn21, nn23, nn24, nn25, no20, no20', no21, no21', nn30, nn31, nn32, nn34, nn35, no30, no30', no31, no31', nn40, nn41, nn42, nn43, nn45, no40, no40', no41, no41', nn50, nn51, nn52, nn53, nn54, no50, no50', no51, no51', pab, pab', killM]
          exact isL_app (fun i hi => by rw [qb6 i hi]; rfl) rfl rfl
        · omega
        · intro c c1 c2 c3
          obtain ⟨w1, w2, w3, w4⟩ := hI.hv c c3
          have ci1 : ¬ (c : Int) = a := by omega
          have ci2 : ¬ (c : Int) = b := by omega
          have pc0 : ¬ pos c = nx := by omega
          have pc1 : ¬ pos c = nx + 1 := by omega
          have pc2 : ¬ pos c = nx + 1 + 1 := by omega
          have pc3 : ¬ pos c = nx + 1 + 1 + 1 := by omega
          have pc4 : ¬ pos c = nx + 1 + 1 + 1 + 1 := by omega
          have pc5 : ¬ pos c = nx + 1 + 1 + 1 + 1 + 1 := by omega
          have pc6 : ¬ pos c = 1 := by omega
          have ka : ¬ pos c = pos a := fun e => c1 (hI.hi c a c3 hca e)
          have kb : ¬ pos c = pos b := fun e => c2 (hI.hi c b c3 hcb e)
          refine ⟨ka, kb, ?_⟩
          simp [go_sem, va, qa5, hca, ba1, ba2, pa0, pa0', pa1, pa1', pa2, pa2', pa3, pa3', pa4, pa4', pa5, pa5', ra0, ra0', ra1, ra1', vb, qb5, hcb, bb1, bb2, pb0, pb0', pb1, pb1', pb2, pb2', pb3, pb3', pb4, pb4', pb5, pb5', rb0, rb0', rb1, rb1', hM1, z0, z1, z0', z1', x0, x0', xi, xi', nn01, nn02, nn03, nn04, nn05, no00, no00', no01, no01', nn10, nn12, nn13, nn14, nn15, no10, no10', no11, no11', nn20, nn21, nn23, nn24, nn25, no20, no20', no21, no21', nn30, nn31, nn32, nn34, nn35, no30, no30', no31, no31', nn40, nn41, nn42, nn43, nn45, no40, no40', no41, no41', nn50, nn51, nn52, nn53, nn54, no50, no50', no51, no51', pab, pab', ci1, ci2, pc0, pc1, pc2, pc3, pc4, pc5, pc6, ka, kb, killM]
          exact (by rw [← Option.map_map]; exact isL_kill (pos b) (isL_kill (pos a) (w4)))
  -- END
theorem morOK : MorOK := fun g m h hn => morphs43 g h m hn
end Go.Gx
