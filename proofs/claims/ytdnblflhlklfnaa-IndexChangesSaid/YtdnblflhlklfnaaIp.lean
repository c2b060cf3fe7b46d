/-
  Search: the walk.
-/
import Derived.Test.YtdnblflhlklfnaaIo
set_option linter.unusedVariables false
set_option linter.unusedSimpArgs false
set_option maxRecDepth 20000
set_option maxHeartbeats 4000000
namespace Go.Gx.Ix
open Go.RowKit Go.Proofs Go.Proofs.Ytdnblflhlklfnaa

def farN (p : PsG) (c m : BitVec 8) : Nat := cnt8 (and8 (and8 (xor8 p.c c) p.m) m)
theorem far63 (p : PsG) (c m : BitVec 8) (rad : Nat) (hr : rad ≤ 1000000) : OwnS Try.prog 1 63 [.box [.i rad]] [p.sv, .agg [.y m, .y c], .ptr 0 0 1 0] (.b (decide (rad / 8 < farN p c m))) [.box [.i rad]] := by
  refine ownS_of_GC (np := 1) (hnp := ?_) T_ok Try.func63 rfl (by kernel_rfl) (Nat.le_of_ble_eq_true rfl) rfl rfl ?_
  · simp
  simp [go_sem]
  refine GDraw_l (t := (.take 0 (.take 1 (.take 2 (.take 3 (.take 4 (.take 5 (.take 6 (.take 7 (.take 8 (.take 9 (.take 10 (.take 12 (.take 13 (.alt 11 [13, 12, 10, 9, 8, 7, 6, 5, 4, 3, 2, 1, 0] (.take 14 (.take 15 (.done [15, 14, 13, 12, 9, 8, 7, 6, 5, 4, 3, 2, 1, 0]))) .nil))))))))))))))) T_ok (by kernel_rfl) (by kernel_rfl) (by kernel_rfl) (fun _ _ _ _ h => h) ?_
  simp [go_sem]
  refine ⟨by omega, call_val (ones64' (and8 (and8 (xor8 p.c c) p.m) m)) rfl rfl ?_⟩
  have e : (decide ((rad : Int) / 8 < (cnt8 (and8 (and8 (xor8 p.c c) p.m) m) : Nat))) = decide (rad / 8 < farN p c m) := by unfold farN; rw [decide_eq_decide]; omega
  simp [go_sem]
  refine ⟨by omega, [0], by simp [keepsL], by simp, fun N => ⟨?_, ?_⟩⟩
  · simp [go_sem]
    rw [decide_eq_decide] at e
    exact e
  · simp [go_sem]
section
variable (x : IxG) (b : IrG) (n : Nat) (num den : Int)
/-- The bits that may differ. -/
def radS : Nat := (cnt b.m * num.toNat) / den.toNat
/-- The probe, turned back, in the i-th round. -/
def bkS (i : Nat) : IrG := b.tn ((n : Int) - i)
def farB (rad : Nat) (bk : IrG) (j : Nat) (p : PsG) : Bool := decide (rad / 8 < farN p (chk bk.c j) (chk bk.m j))
def seenI (rad : Nat) (bk : IrG) (a : Int) : Bool := (List.range 8).any fun j => (x.ch j).any fun p => !farB rad bk j p && p.ids.contains a
def mtI (bk : IrG) (a : Int) : Bool := decide (16 ≤ (x.ms[plc x.ms a]!).x.d bk 0) && decide (((x.ms[plc x.ms a]!).x.n bk 0 : Int) * den ≤ num * (x.ms[plc x.ms a]!).x.d bk 0)
def seenL (rad : Nat) (bk : IrG) : List Int := (x.ms.map (·.id)).filter (seenI x rad bk)
def hitI (rad k : Nat) (a : Int) : Bool := (List.range k).any fun i => seenI x rad (bkS b n i) a && mtI x num den (bkS b n i) a
def foundL : List Int := (x.ms.map (·.id)).filter (hitI x b n num den (radS b num den) (2 * n + 1))
def seenN (k : Nat) : Nat := ((List.range k).map fun i => (seenL x (radS b num den) (bkS b n i)).length).sum
end
/-- The numbers of the first k members that are marked. -/
def fL (ms : List MbG) (has : Int → Bool) (k : Nat) : List Int := ((ms.take k).map (·.id)).filter has
theorem fL_zero (ms : List MbG) (has : Int → Bool) : fL ms has 0 = [] := rfl
theorem fL_succ {ms : List MbG} {has : Int → Bool} {k : Nat} (h : k < ms.length) : fL ms has (k + 1) = fL ms has k ++ if has ms[k].id then [ms[k].id] else [] := by
  unfold fL
  rw [List.take_succ_eq_append_getElem h, List.map_append, List.filter_append]
  simp [List.filter_cons]
theorem fL_all (ms : List MbG) (has : Int → Bool) : fL ms has ms.length = (ms.map (·.id)).filter has := by unfold fL; rw [List.take_length]
theorem fL_len (ms : List MbG) (has : Int → Bool) (k : Nat) : (fL ms has k).length ≤ ms.length := by
  unfold fL
  refine Nat.le_trans (List.length_filter_le _ _) ?_
  rw [List.length_map, List.length_take]; omega
theorem seenL_len (x : IxG) (rad : Nat) (bk : IrG) : (seenL x rad bk).length ≤ x.ms.length := by
  unfold seenL
  refine Nat.le_trans (List.length_filter_le _ _) ?_
  rw [List.length_map]; omega
theorem seenN_le (x : IxG) (b : IrG) (n : Nat) (num den : Int) : ∀ k, seenN x b n num den k ≤ k * x.ms.length
  | 0 => by simp [seenN]
  | k + 1 => by
    have h := seenN_le x b n num den k
    have h2 := seenL_len x (radS b num den) (bkS b n k)
    unfold seenN at h ⊢
    rw [List.range_succ, List.map_append, List.sum_append, Nat.succ_mul]
    simp only [List.map_cons, List.map_nil, List.sum_cons, List.sum_nil, Nat.add_zero]
    omega
theorem left_lt {l : List Int} {left : Int → Bool} {a : Int} (ha : a ∈ l) (h : left a = true) : (l.filter fun y => left y && !decide (y = a)).length < (l.filter left).length := by
  have e : l.filter (fun y => left y && !decide (y = a)) = (l.filter left).filter fun y => !decide (y = a) := by
    rw [List.filter_filter]
    exact List.filter_congr fun y _ => Bool.and_comm ..
  rw [e]
  exact List.length_filter_lt_length_iff_exists.2 ⟨a, List.mem_filter.2 ⟨ha, h⟩, by simp⟩
structure ValS (x : IxG) : Prop where
  v : validX x = true
  nd : (x.ms.map (·.id)).Nodup
  mem : ∀ j, j < 8 → ∀ p ∈ x.ch j, ∀ a ∈ p.ids, ∃ i, ∃ h : i < x.ms.length, x.ms[i].id = a ∧ plc x.ms a = i
  ok : ∀ a ∈ x.ms, a.x.ok = true
  sm : x.Sm
theorem search33 (x : IxG) (hx : ValS x) (b : IrG) (n : Nat) (num den : Nat) (hm : mE b b n num den = 0) (hbo : ∀ i, (bkS b n i).ok = true) : Pure Try.prog 33 [x.sv, b.sv, .i n, .agg [.i num, .i den]] (· = .tup [.agg [ils (foundL x b n num den), .i (seenN x b n num den (2 * n + 1))], .i 0]) := by
  obtain ⟨F, hF⟩ : ∃ F, foundL x b n num den = F := ⟨_, rfl⟩
  obtain ⟨G, hG⟩ : ∃ G, seenN x b n num den (2 * n + 1) = G := ⟨_, rfl⟩
  rw [hF, hG]
  refine pure_of_GC T_ok Try.func33 rfl (by kernel_rfl) (Nat.le_of_ble_eq_true rfl) rfl rfl ?_
  have hc := check19 x hx.sm
  have hv := hx.v
  simp [go_sem, IxG.sv] at hc ⊢
  refine call_val hc rfl rfl ?_
  simp [go_sem, checkE, hv]
  refine call_val (match39 b b n num den) rfl rfl ?_
  rw [hm]
  have hlen := validX_len hv
  obtain ⟨hb, h7, hd1, hd2, hn2⟩ : b.ok = true ∧ n ≤ 7 ∧ 1 ≤ den ∧ den ≤ 1000 ∧ num ≤ den := by
    unfold mE at hm
    split at hm
    · rename_i h1
      split at hm
      · rename_i h2
        simp only [Bool.and_eq_true, Bool.and_self, vL, btw, decide_eq_true_eq] at h1 h2
        exact ⟨h1, by omega, by omega, by omega, by omega⟩
      · cases hm
    · cases hm
  have hcl := cnt_le b.m
  have hmul : cnt b.m * num ≤ 64000 := Nat.le_trans (Nat.mul_le_mul hcl (by omega : num ≤ 1000)) (by omega)
  have hrad : radS b num den = cnt b.m * num / den := by simp [radS]
  have hr : cnt b.m * num / den ≤ 64000 := Nat.le_trans (Nat.div_le_self _ _) hmul
  have hden : ¬ (den : Int) = 0 := by omega
  have fin : (-9223372036854775808 ≤ (cnt b.m : Int) * num ∧ (cnt b.m : Int) * num ≤ 9223372036854775807) ∧ (¬ den = 0 ∧ -9223372036854775808 ≤ ((cnt b.m : Int) * num).tdiv den ∧ ((cnt b.m : Int) * num).tdiv den ≤ 9223372036854775807) ∧
      ((¬ den = 0 ∧ -9223372036854775808 ≤ ((cnt b.m : Int) * num).tdiv den ∧ ((cnt b.m : Int) * num).tdiv den ≤ 9223372036854775807) ∧ -9223372036854775808 ≤ (cnt b.m : Int) * num ∧ (cnt b.m : Int) * num ≤ 9223372036854775807) ∧ ((cnt b.m : Int) * num).tdiv den = (cnt b.m : Int) * num / den := by
    have hm1 : (cnt b.m : Int) * num = ((cnt b.m * num : Nat) : Int) := by simp
    rw [hm1]
    generalize cnt b.m * num = q at hmul hr
    have h1 : (q : Int).tdiv den = (q : Int) / den := Int.tdiv_eq_ediv_of_nonneg (by omega)
    have h2 : (q : Int) / den = ((q / den : Nat) : Int) := by simp
    rw [h1, h2]
    generalize q / den = r at hr
    omega
  simp [go_sem]
  refine GDraw_ls (S := [(2, .i n), (4, .ptr 0 0 9 0), (5, .ptr 1 0 2 0), (7, .ptr 2 0 2 0), (8, .ptr 3 0 2 0), (9, .i 0), (13, .ptr 4 0 1 0)])
    (l := [some (.box [mrs x.ms, pls (x.ch 0), pls (x.ch 1), pls (x.ch 2), pls (x.ch 3), pls (x.ch 4), pls (x.ch 5), pls (x.ch 6), pls (x.ch 7)]), some (.box [.w b.c, .w b.m]), some (.box [.i num, .i den]), some (.box [nilS, .i 0]), some (.box [.i ((cnt b.m * num / den : Nat) : Int)])]) (n := 5)
    (t := (.take 0 (.take 1 (.take 3 (.take 4 (.take 6 (.take 7 (.alt 2 [7, 6, 4, 3, 1, 0] (.take 5 (.take 8 (.alt 9 [8, 5, 7, 6, 4, 3, 0] (.alt 10 [8, 5, 7, 6, 4, 3, 0] (.done []) .nil) .nil))) (.alt 9 [7, 6, 4, 3, 1, 0] (.alt 2 [7, 6, 4, 3, 1, 0] (.take 5 (.take 8 (.alt 10 [8, 5, 7, 6, 4, 3, 0] (.done []) .nil))) .nil) .nil))))))))) T_ok (by kernel_rfl) (by kernel_rfl) (by kernel_rfl) (fun _ _ _ _ h => h) rfl ?_ ?_
  · simp [go_sem]
    refine ⟨call_val (ones62 b.m) rfl rfl ?_, call_val (ones62 b.m) rfl rfl ?_⟩
    · simp [go_sem, hden]
      exact fin
    · simp [go_sem, hden]
      exact fin
  intro J
  rw [← hrad] at hr
  rw [← hrad]
  obtain ⟨rad, hrd⟩ : ∃ rad, radS b num den = rad := ⟨_, rfl⟩
  rw [hrd] at hr ⊢
  simp [go_sem]
  refine ⟨by omega, ?_⟩
  have hout : ∀ k, seenN x b n num den (k + 1) = seenN x b n num den k + (seenL x rad (bkS b n k)).length := fun k => by
    unfold seenN; rw [List.range_succ, List.map_append, List.sum_append, hrd]; simp
  refine GLoop_s T_ok (α := Nat × (Int → Bool)) (fun s => [(2, .i n), (4, .ptr 0 0 9 0), (5, .ptr 1 0 2 0), (7, .ptr 2 0 2 0), (8, .ptr 3 0 2 0), (9, .i 0), (14, .fn (.func 63) [] [.ptr 4 0 1 0]), (15, .ptr 5 0 2 0), (16, .mp 6), (17, .i ((s.1 : Int) - n))])
    (fun s => [some (.box [mrs x.ms, pls (x.ch 0), pls (x.ch 1), pls (x.ch 2), pls (x.ch 3), pls (x.ch 4), pls (x.ch 5), pls (x.ch 6), pls (x.ch 7)]), some (.box [.w b.c, .w b.m]), some (.box [.i num, .i den]), some (.box [nilS, .i 0]), some (.box [.i rad]), some (.box [nilS, .i (seenN x b n num den s.1 : Nat)]), some (.map s.2 (fun _ => .b true) none)]) 7
    (fun s => s.1 ≤ 2 * n + 1 ∧ ∀ a, s.2 a = hitI x b n num den rad s.1 a) (fun s => 2 * n + 1 - s.1) (0, fun _ => false) (fun _ => rfl) ⟨by omega, fun a => by simp [hitI]⟩ (by simp [go_sem]) (by simp [go_sem, seenN]) ?_
  rintro ⟨k, has⟩ J ⟨hk, hhas⟩
  dsimp only at hk hhas
  by_cases hlt : k < 2 * n + 1
  · have hlt' : (k : Int) - n ≤ n := by omega
    simp [go_sem, hlt']
    have ht : turnE b (-((k : Int) - n)) = 0 := by unfold turnE; rw [if_pos hb, if_pos]; unfold btw; simp; omega
    have hbk : b.tn (-((k : Int) - n)) = bkS b n k := by unfold bkS; congr 1; omega
    obtain ⟨bk, hbke⟩ : ∃ bk, bkS b n k = bk := ⟨_, rfl⟩
    have hcall : Pure Try.prog 65 [b.sv, .i (-((k : Int) - n))] (· = .tup [bk.sv, .i 0]) := by
      have h := turn65 b (-((k : Int) - n))
      rw [ht, if_pos rfl, hbk, hbke] at h
      exact h
    refine ⟨by omega, call_val hcall rfl rfl ?_⟩
    simp [go_sem]
    refine GLoop_s T_ok (α := Nat × (Int → Bool)) (fun s => [(2, .i n), (4, .ptr 0 0 9 0), (5, .ptr 1 0 2 0), (7, .ptr 2 0 2 0), (8, .ptr 3 0 2 0), (9, .i 0), (14, .fn (.func 63) [] [.ptr 4 0 1 0]), (15, .ptr 5 0 2 0), (16, .mp 6), (17, .i ((k : Int) - n)), (18, .ptr 7 0 2 0), (20, .mp 8), (81, .agg [pls (x.ch 0), pls (x.ch 1), pls (x.ch 2), pls (x.ch 3), pls (x.ch 4), pls (x.ch 5), pls (x.ch 6), pls (x.ch 7)]), (82, .i s.1)])
      (fun s => [some (.box [mrs x.ms, pls (x.ch 0), pls (x.ch 1), pls (x.ch 2), pls (x.ch 3), pls (x.ch 4), pls (x.ch 5), pls (x.ch 6), pls (x.ch 7)]), some (.box [.w b.c, .w b.m]), some (.box [.i num, .i den]), some (.box [nilS, .i 0]), some (.box [.i rad]), some (.box [nilS, .i (seenN x b n num den k : Nat)]), some (.map has (fun _ => .b true) none), some (.box [.w bk.c, .w bk.m]), some (.map s.2 (fun _ => .b true) none)]) 9
      (fun s => s.1 ≤ 8 ∧ ∀ a, s.2 a = (List.range s.1).any fun j => (x.ch j).any fun p => !farB rad bk j p && p.ids.contains a) (fun s => 8 - s.1) (0, fun _ => false) (fun _ => rfl) ⟨by omega, fun a => by simp⟩ (by simp [go_sem]) (by simp [go_sem]) ?_
    rintro ⟨j, sn⟩ J ⟨hj, hsn⟩
    dsimp only at hj hsn
    by_cases hjlt : j < 8
    · have hjlt' : (j : Int) < 8 := by omega
      simp [go_sem, hjlt, hjlt']
      refine call_val (cellOf66 bk j hjlt) rfl rfl ?_
      have hidx : [pls (x.ch 0), pls (x.ch 1), pls (x.ch 2), pls (x.ch 3), pls (x.ch 4), pls (x.ch 5), pls (x.ch 6), pls (x.ch 7)][j]'(by simpa using hjlt) = pls (x.ch j) := by
        rcases (show j = 0 ∨ j = 1 ∨ j = 2 ∨ j = 3 ∨ j = 4 ∨ j = 5 ∨ j = 6 ∨ j = 7 by omega) with rfl | rfl | rfl | rfl | rfl | rfl | rfl | rfl <;> rfl
      obtain ⟨hpl, hpi⟩ := hx.sm.ch j hjlt
      have hpm := hx.mem j hjlt
      obtain ⟨L, hL⟩ : ∃ L, x.ch j = L := ⟨_, rfl⟩
      rw [hL] at hpl hpi hpm hidx
      simp [go_sem, hidx]
      refine GLoop_s T_ok (α := Nat × (Int → Bool)) (fun s => [(2, .i n), (4, .ptr 0 0 9 0), (5, .ptr 1 0 2 0), (7, .ptr 2 0 2 0), (8, .ptr 3 0 2 0), (9, .i 0), (14, .fn (.func 63) [] [.ptr 4 0 1 0]), (15, .ptr 5 0 2 0), (16, .mp 6), (17, .i ((k : Int) - n)), (18, .ptr 7 0 2 0), (20, .mp 8), (81, .agg [pls (x.ch 0), pls (x.ch 1), pls (x.ch 2), pls (x.ch 3), pls (x.ch 4), pls (x.ch 5), pls (x.ch 6), pls (x.ch 7)]), (82, .i j), (23, .ptr 9 0 2 0), (89, pls L), (90, .i L.length), (91, .i s.1)])
        (fun s => [some (.box [mrs x.ms, pls (x.ch 0), pls (x.ch 1), pls (x.ch 2), pls (x.ch 3), pls (x.ch 4), pls (x.ch 5), pls (x.ch 6), pls (x.ch 7)]), some (.box [.w b.c, .w b.m]), some (.box [.i num, .i den]), some (.box [nilS, .i 0]), some (.box [.i rad]), some (.box [nilS, .i (seenN x b n num den k : Nat)]), some (.map has (fun _ => .b true) none), some (.box [.w bk.c, .w bk.m]), some (.map s.2 (fun _ => .b true) none), some (.box [.y (chk bk.m j), .y (chk bk.c j)])]) 10
        (fun s => s.1 ≤ L.length ∧ ∀ a, s.2 a = (sn a || (L.take s.1).any fun p => !farB rad bk j p && p.ids.contains a)) (fun s => L.length - s.1) (0, sn) (fun _ => rfl) ⟨by omega, fun a => by simp⟩ (by simp [go_sem]) (by simp [go_sem]) ?_
      rintro ⟨i, s2⟩ J ⟨hi, hs2⟩
      dsimp only at hi hs2
      by_cases hilt : i < L.length
      · obtain ⟨p, hp⟩ : ∃ p, L[i] = p := ⟨_, rfl⟩
        have r0 : prows L i 0 = p.f 0 := by rw [prow hilt, hp]
        have r1 : prows L i 1 = p.f 1 := by rw [prow hilt, hp]
        have r2 : prows L i 2 = p.f 2 := by rw [prow hilt, hp]
        have hpil := hpi p (hp ▸ List.getElem_mem hilt)
        simp [go_sem, hilt, r0, r1, r2]
        refine callK_ownS [4] (far63 p (chk bk.c j) (chk bk.m j) rad (by omega)) (by simp) (by simp) rfl ?_ ?_
        · simp [go_sem]
        simp [go_sem]
        by_cases hfar : rad / 8 < farN p (chk bk.c j) (chk bk.m j)
        · rw [if_pos hfar]
          have hfb : farB rad bk j p = true := by simpa [farB] using hfar
          refine ⟨by omega, i + 1, s2, ⟨by omega, fun a => ?_⟩, by omega, by omega, fun _ => rfl⟩
          rw [hs2 a, List.take_succ_eq_append_getElem hilt, hp]
          simp [hfb]
        rw [if_neg hfar]
        have hfb : farB rad bk j p = false := by simpa [farB] using hfar
        refine GLoop_s T_ok (α := Nat × (Int → Bool)) (fun s => [(2, .i n), (4, .ptr 0 0 9 0), (5, .ptr 1 0 2 0), (7, .ptr 2 0 2 0), (8, .ptr 3 0 2 0), (9, .i 0), (14, .fn (.func 63) [] [.ptr 4 0 1 0]), (15, .ptr 5 0 2 0), (16, .mp 6), (17, .i ((k : Int) - n)), (18, .ptr 7 0 2 0), (20, .mp 8), (81, .agg [pls (x.ch 0), pls (x.ch 1), pls (x.ch 2), pls (x.ch 3), pls (x.ch 4), pls (x.ch 5), pls (x.ch 6), pls (x.ch 7)]), (82, .i j), (23, .ptr 9 0 2 0), (89, pls L), (90, .i L.length), (91, .i i), (100, ils p.ids), (101, .i p.ids.length), (102, .i s.1)])
          (fun s => [some (.box [mrs x.ms, pls (x.ch 0), pls (x.ch 1), pls (x.ch 2), pls (x.ch 3), pls (x.ch 4), pls (x.ch 5), pls (x.ch 6), pls (x.ch 7)]), some (.box [.w b.c, .w b.m]), some (.box [.i num, .i den]), some (.box [nilS, .i 0]), some (.box [.i rad]), some (.box [nilS, .i (seenN x b n num den k : Nat)]), some (.map has (fun _ => .b true) none), some (.box [.w bk.c, .w bk.m]), some (.map s.2 (fun _ => .b true) none), some (.box [.y (chk bk.m j), .y (chk bk.c j)])]) 10
          (fun s => s.1 ≤ p.ids.length ∧ ∀ a, s.2 a = (s2 a || (p.ids.take s.1).contains a)) (fun s => p.ids.length - s.1) (0, s2) (fun _ => rfl) ⟨by omega, fun a => by simp⟩ (by simp [go_sem]) (by simp [go_sem]) ?_
        rintro ⟨q, s3⟩ J ⟨hq, hs3⟩
        dsimp only at hq hs3
        by_cases hqlt : q < p.ids.length
        · have e0 := irow hqlt 0
          simp [go_sem, hqlt, e0]
          refine ⟨by omega, q + 1, fun a => decide (a = p.ids[q]) || s3 a, ⟨by omega, fun a => ?_⟩, by omega, by omega, fun _ => rfl⟩
          show (decide (a = p.ids[q]) || s3 a) = _
          have hmem : a ∈ p.ids.take (q + 1) ↔ (a ∈ p.ids.take q ∨ a = p.ids[q]) := by rw [List.take_succ_eq_append_getElem hqlt, List.mem_append, List.mem_singleton]
          rw [hs3 a, Bool.eq_iff_iff]
          simp only [Bool.or_eq_true, decide_eq_true_eq, List.contains_eq_mem, hmem]
          constructor
          · rintro (h | h | h)
            · exact .inr (.inr h)
            · exact .inl h
            · exact .inr (.inl h)
          · rintro (h | h | h)
            · exact .inr (.inl h)
            · exact .inr (.inr h)
            · exact .inl h
        · have hql : q = p.ids.length := by omega
          rw [hql, List.take_length] at hs3
          simp [go_sem, hqlt]
          refine ⟨by omega, i + 1, s3, ⟨by omega, fun a => ?_⟩, by omega, by omega, fun _ => rfl⟩
          rw [hs3 a, hs2 a, List.take_succ_eq_append_getElem hilt, hp]
          simp [hfb, Bool.or_assoc]
      · have hil : i = L.length := by omega
        subst hil
        rw [List.take_length] at hs2
        simp [go_sem]
        refine ⟨by omega, j + 1, s2, ⟨by omega, fun a => ?_⟩, by omega, by omega, fun _ => rfl⟩
        rw [hs2 a, hsn a, List.range_succ, List.any_append]
        simp [hL]
    · have hjlt' : ¬ (j : Int) < 8 := by omega
      have hj8 : j = 8 := by omega
      subst hj8
      simp [go_sem]
      have hsn' : ∀ a, sn a = seenI x rad bk a := hsn
      refine GOp_mapLen T_ok (q := 8) (has := sn) (val := fun _ => .b true) (st := none) (by simp [go_sem]) (by simp [go_sem]) (by kernel_rfl) (by simp [go_sem]) (seenL x rad bk) (hx.nd.filter _) (fun a => ?_) ?_
      · rw [hsn' a]
        unfold seenL
        rw [List.mem_filter]
        refine ⟨fun h => ⟨?_, h⟩, fun h => h.2⟩
        unfold seenI at h
        obtain ⟨j, hj, h⟩ := List.any_eq_true.1 h
        obtain ⟨p, hp, h⟩ := List.any_eq_true.1 h
        simp only [Bool.and_eq_true, List.contains_eq_mem, decide_eq_true_eq] at h
        obtain ⟨i, hi, h1, _⟩ := hx.mem j (List.mem_range.1 hj) p hp a h.2
        exact List.mem_map.2 ⟨_, List.getElem_mem hi, h1⟩
      simp [go_sem]
      have hsl := seenL_len x rad bk
      have hsN : seenN x b n num den k ≤ 15 * 256 := Nat.le_trans (seenN_le x b n num den k) (Nat.mul_le_mul (by omega) hlen)
      refine ⟨⟨by omega, by omega⟩, ?_⟩
      refine GOp_range T_ok (q := 8) (has := sn) (val := fun _ => .b true) (st := none) (by simp [go_sem]) (by simp [go_sem]) (by kernel_rfl) (by simp [go_sem]) fun f c => ?_
      simp [go_sem]
      have hsk : seenN x b n num den (k + 1) = seenN x b n num den k + (seenL x rad bk).length := by rw [hout k, hbke]
      refine GLoop_s T_ok (α := (Int → Bool) × (Int → Bool) × Option Int) (fun s => [(2, .i n), (4, .ptr 0 0 9 0), (5, .ptr 1 0 2 0), (7, .ptr 2 0 2 0), (8, .ptr 3 0 2 0), (9, .i 0), (14, .fn (.func 63) [] [.ptr 4 0 1 0]), (15, .ptr 5 0 2 0), (16, .mp 6), (17, .i ((k : Int) - n)), (18, .ptr 7 0 2 0), (118, .ptr 9 0 1 0)])
        (fun s => [some (.box [mrs x.ms, pls (x.ch 0), pls (x.ch 1), pls (x.ch 2), pls (x.ch 3), pls (x.ch 4), pls (x.ch 5), pls (x.ch 6), pls (x.ch 7)]), some (.box [.w b.c, .w b.m]), some (.box [.i num, .i den]), some (.box [nilS, .i 0]), some (.box [.i rad]), some (.box [nilS, .i (seenN x b n num den (k + 1) : Nat)]), some (.map s.1 (fun _ => .b true) none), some (.box [.w bk.c, .w bk.m]), some (.map sn (fun _ => .b true) (some (f, c))), some (.iter (.mp 8) f c sn s.2.1 s.2.2)]) 10
        (fun s => ∀ a, s.1 a = (has a || (sn a && !s.2.1 a && mtI x num den bk a))) (fun s => ((seenL x rad bk).filter s.2.1).length) (has, sn, none) (fun _ => rfl) (fun a => by dsimp only; cases sn a <;> simp) (by simp [go_sem]) (by simp [go_sem, hsk]) ?_
      rintro ⟨h2, left, la⟩ J hh2
      dsimp only at hh2
      simp [go_sem]
      refine GOp_next (q := 8) (ref := 9) (kk := 1) (f := f) (c := c) (all := sn) (left := left) (has := sn) (la := la) (val := fun _ => .b true) (by simp [go_sem]) (by simp [go_sem]) (by simp [go_sem]) (fun _ => rfl) (by simp [go_sem]) (fun a h1 h3 => ?_) (fun h0 => ?_)
      rotate_left
      · simp [go_sem]
        refine ⟨⟨by omega, by omega⟩, k + 1, h2, ⟨by omega, fun a => ?_⟩, by omega, by omega, rfl, fun _ => rfl⟩
        have hk1 : hitI x b n num den rad (k + 1) a = (hitI x b n num den rad k a || (seenI x rad bk a && mtI x num den bk a)) := by
          unfold hitI
          rw [List.range_succ, List.any_append]
          simp [hbke]
        rw [hk1, hh2 a, hhas a, ← hsn' a]
        cases hq : sn a
        · simp
        · simp [h0 a hq]
      simp [go_sem]
      refine GOp_entry (q := 8) (ref := 9) (kk := 1) (f := f) (c := c) (all := sn) (left := fun y => left y && !decide (y = a)) (has := sn) (k := a) (val := fun _ => .b true) (by simp [go_sem]) (by simp [go_sem]) (by simp [go_sem]) h1 (by simp [go_sem]) ?_
      obtain ⟨i, hi, hid, hpl⟩ : ∃ i, ∃ h : i < x.ms.length, x.ms[i].id = a ∧ plc x.ms a = i := by
        have h := h1
        rw [hsn' a] at h
        unfold seenI at h
        obtain ⟨j, hj, h⟩ := List.any_eq_true.1 h
        obtain ⟨p, hp, h⟩ := List.any_eq_true.1 h
        simp only [Bool.and_eq_true, List.contains_eq_mem, decide_eq_true_eq] at h
        exact hx.mem j (List.mem_range.1 hj) p hp a h.2
      simp [go_sem]
      refine call_val (place60 x.ms (by omega) (validX_sorted hv) a) rfl rfl ?_
      rw [hpl]
      obtain ⟨m, hmi⟩ : ∃ m, x.ms[i] = m := ⟨_, rfl⟩
      have r0 : mrows x.ms i 0 = m.f 0 := by rw [mrow hi, hmi]
      have r1 : mrows x.ms i 1 = m.f 1 := by rw [mrow hi, hmi]
      have r2 : mrows x.ms i 2 = m.f 2 := by rw [mrow hi, hmi]
      have hcmp : Pure Try.prog 67 [m.x.sv, bk.sv, .i 0] (· = .tup [.i (m.x.n bk 0), .i (m.x.d bk 0), .i 0]) := by
        have h := compare67 m.x bk 0
        have he : cmpE m.x bk 0 = 0 := by
          unfold cmpE
          rw [hx.ok m (hmi ▸ List.getElem_mem hi), ← hbke, hbo k]
          rfl
        rw [he] at h
        simpa using h
      have hmt : mtI x num den bk a = (decide (16 ≤ m.x.d bk 0) && decide ((m.x.n bk 0 : Int) * den ≤ num * m.x.d bk 0)) := by
        unfold mtI; rw [hpl, getElem!_pos x.ms i hi, hmi]
      have hn64 : m.x.n bk 0 ≤ 64 := cnt_le _
      have hd64 : m.x.d bk 0 ≤ 64 := cnt_le _
      generalize m.x.n bk 0 = nn at *
      generalize m.x.d bk 0 = dd at *
      have hp1 : nn * den ≤ 64 * 1000 := Nat.mul_le_mul hn64 hd2
      have hp2 : num * dd ≤ 1000 * 64 := Nat.mul_le_mul (by omega) hd64
      simp [go_sem]
      refine GDraw_l (t := (.take 0 (.take 1 (.take 2 (.take 3 (.take 4 (.take 5 (.take 6 (.alt 7 [6, 5, 4, 3, 2, 1, 0] (.take 8 (.take 9 (.take 10 (.take 11 (.take 12 (.take 13 (.take 14 (.done [14, 13, 12, 11, 10, 9, 8, 4, 3, 2, 1, 0])))))))) .nil))))))))) T_ok (by kernel_rfl) (by kernel_rfl) (by kernel_rfl) (fun _ _ _ _ h => h) ?_
      simp [go_sem, hi, r0, r1, r2]
      refine call_val hcmp rfl rfl ?_
      simp [go_sem]
      have hq1 : (nn : Int) * den = ((nn * den : Nat) : Int) := by simp
      have hq2 : (num : Int) * dd = ((num * dd : Nat) : Int) := by simp
      rw [hq1, hq2] at hmt ⊢
      have hasn : a ∈ seenL x rad bk := by
        unfold seenL
        rw [List.mem_filter]
        exact ⟨List.mem_map.2 ⟨_, List.getElem_mem hi, hid⟩, by rw [← hsn' a]; exact h1⟩
      have hll := left_lt hasn h3
      have yes : mtI x num den bk a = true → ∃ a_1 a_2 : Int → Bool, (∀ z : Int, a_1 z = (has z || sn z && !a_2 z && mtI x num den bk z)) ∧ (List.filter a_2 (seenL x rad bk)).length < (List.filter left (seenL x rad bk)).length ∧
          (∀ z : Int, (decide (z = a) || h2 z) = a_1 z) ∧ ∀ z : Int, sn z = true → (left z && !decide (z = a)) = a_2 z := fun hm => by
        refine ⟨fun z => decide (z = a) || h2 z, fun z => left z && !decide (z = a), fun z => ?_, hll, fun _ => rfl, fun _ _ => rfl⟩
        by_cases hz : z = a
        · subst hz; simp [h1, hm]
        · simp [hz, hh2 z]
      have no : mtI x num den bk a = false → ∃ a_1 a_2 : Int → Bool, (∀ z : Int, a_1 z = (has z || sn z && !a_2 z && mtI x num den bk z)) ∧ (List.filter a_2 (seenL x rad bk)).length < (List.filter left (seenL x rad bk)).length ∧
          (∀ z : Int, h2 z = a_1 z) ∧ ∀ z : Int, sn z = true → (left z && !decide (z = a)) = a_2 z := fun hm => by
        refine ⟨h2, fun z => left z && !decide (z = a), fun z => ?_, hll, fun _ => rfl, fun _ _ => rfl⟩
        by_cases hz : z = a
        · subst hz; rw [hh2 z]; simp [hm]
        · simp [hz, hh2 z]
      generalize nn * den = u1 at *
      generalize num * dd = u2 at *
      refine ⟨hi, ?_⟩
      by_cases hd16 : 16 ≤ dd
      · have hd16' : (16 : Int) ≤ dd := by omega
        rw [if_pos hd16']
        refine ⟨by omega, by omega, ?_⟩
        by_cases hu : (u1 : Int) ≤ u2
        · rw [if_pos hu]
          exact yes (by rw [hmt]; simp [hd16]; omega)
        · rw [if_neg hu]
          exact no (by rw [hmt]; simp [hd16]; omega)
      · have hd16' : ¬ (16 : Int) ≤ dd := by omega
        rw [if_neg hd16']
        exact no (by rw [hmt]; simp [hd16])
  · have hlt' : ¬ (k : Int) - n ≤ n := by omega
    have hk2 : k = 2 * n + 1 := by omega
    simp [go_sem, hlt']
    have hG' : seenN x b n num den k = G := by rw [hk2]; exact hG
    rw [hG']
    have hF' : F = (x.ms.map (·.id)).filter has := by rw [← hF, foundL, hrd, ← hk2]; exact List.filter_congr fun a _ => (hhas a).symm
    refine GLoop_pre (GSt.adoptBox 5 0 3 1 (fun i j => .r (irows [] i j)) (by rfl) (by rfl) (by decide)) ?_
    refine GLoop_s T_ok (α := Nat) (fun k => [(4, .ptr 0 0 9 0), (8, .ptr 3 0 2 0), (9, .i 0), (15, .ptr 5 0 2 0), (16, .mp 6), (158, mrs x.ms), (159, .i x.ms.length), (160, .i k)])
      (fun k => [some (.box [mrs x.ms, pls (x.ch 0), pls (x.ch 1), pls (x.ch 2), pls (x.ch 3), pls (x.ch 4), pls (x.ch 5), pls (x.ch 6), pls (x.ch 7)]), none, none, some (.box [nilS, .i 0]), none, some (.box [.sl 7 1 0 (fL x.ms has k).length none, .i G]), some (.map has (fun _ => .b true) none), some (.vec 3 1 (fL x.ms has k).length fun i j => .r (irows (fL x.ms has k) i j))]) 8
      (fun k => k ≤ x.ms.length) (fun k => x.ms.length - k) 0 (fun _ => rfl) (by simp) (by simp [go_sem]) (by simp [go_sem, fL_zero]) ?_
    clear hk hlt hlt' hk2 hG' hhas
    intro k J hk
    by_cases hlt : k < x.ms.length
    · obtain ⟨a, ha⟩ : ∃ a, x.ms[k] = a := ⟨_, rfl⟩
      have r0 : mrows x.ms k 0 = a.f 0 := by rw [mrow hlt, ha]
      have r1 : mrows x.ms k 1 = a.f 1 := by rw [mrow hlt, ha]
      have r2 : mrows x.ms k 2 = a.f 2 := by rw [mrow hlt, ha]
      have hs := fL_succ (has := has) hlt
      rw [ha] at hs
      have hLl := fL_len x.ms has k
      simp [go_sem, hlt, r0, r1, r2]
      cases hq : has a.id
      · rw [hq] at hs
        simp [go_sem, TI.zeroV]
        refine ⟨by omega, k + 1, by omega, by omega, by omega, ?_⟩
        rw [hs]
        simp
      · rw [hq] at hs
        simp [go_sem]
        refine ⟨⟨by omega, by omega⟩, by omega, k + 1, by omega, by omega, by omega, ?_⟩
        rw [hs]
        simp
        intro i hi
        unfold joined irows rowsL
        by_cases h1 : i < (fL x.ms has k).length
        · rw [if_pos h1, List.getElem?_append_left h1]; rfl
        · have h2 : i - (fL x.ms has k).length = 0 := by omega
          rw [if_neg h1, if_pos (by omega), List.getElem?_append_right (by omega), h2]; rfl
    · have hk3 : k = x.ms.length := by omega
      subst hk3
      have hF2 : fL x.ms has x.ms.length = F := by rw [fL_all]; exact hF'.symm
      simp [go_sem, hF2]
end Go.Gx.Ix
