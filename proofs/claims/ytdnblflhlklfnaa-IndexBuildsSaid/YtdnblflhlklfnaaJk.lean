/-
  IndexTwins.
-/
import Derived.Test.YtdnblflhlklfnaaJj
set_option linter.unusedVariables false
set_option linter.unusedSimpArgs false
set_option maxRecDepth 20000
set_option maxHeartbeats 4000000
namespace Go.Gx.Ix
open Go.RowKit Go.Proofs Go.Proofs.Ytdnblflhlklfnaa

theorem pairs_of {l : List MbG} (h : VL l) (turns num den : Int) : Pure Try.prog 38 [(ofG l).sv, .i turns, .agg [.i num, .i den]] (· = .tup [qls (if mE ⟨0, 0⟩ ⟨0, 0⟩ turns num den = 0 then prK (srtM l) turns.toNat num.toNat den.toNat (srtM l).length else []), .i (mE ⟨0, 0⟩ ⟨0, 0⟩ turns num den)]) := by
  have hs := pairs38 (ofG l) (ofG_sm (by have := h.len; omega)) turns num den
  have hE : prE (ofG l) turns num den = mE ⟨0, 0⟩ ⟨0, 0⟩ turns num den := by unfold prE; rw [if_neg (by rw [ofG_valid h]; simp)]
  unfold prL at hs
  rw [hE] at hs
  exact hs
/-- The pairs with the i-th member, up to the j-th. -/
def rwP (ms : List MbG) (n num den i j : Nat) : List (Int × Int) := (((ms.take j).drop (i + 1)).filter fun m => matB (ms[i]!).x m.x n num den).map fun m => ((ms[i]!).id, m.id)
def qP (ms : List MbG) (n num den i j : Nat) : List (Int × Int) := prK ms n num den i ++ rwP ms n num den i j
theorem rwP_zero (ms : List MbG) (n num den i : Nat) : rwP ms n num den i 0 = [] := by simp [rwP]
theorem rwP_succ (ms : List MbG) (n num den i : Nat) {j : Nat} (hj : j < ms.length) : rwP ms n num den i (j + 1) = rwP ms n num den i j ++ if i < j ∧ matB (ms[i]!).x ms[j].x n num den = true then [((ms[i]!).id, ms[j].id)] else [] := by
  unfold rwP
  rw [List.take_succ_eq_append_getElem hj, List.drop_append]
  by_cases h : i < j
  · have e : i + 1 - (ms.take j).length = 0 := by rw [List.length_take]; omega
    rw [e, List.drop_zero, List.filter_append, List.map_append]
    congr 1
    generalize ms[i]! = a
    by_cases hm : matB a.x ms[j].x n num den = true <;> simp [h, hm]
  · have e : 1 ≤ i + 1 - (ms.take j).length := by rw [List.length_take]; omega
    have e2 : [ms[j]].drop (i + 1 - (ms.take j).length) = [] := List.drop_eq_nil_of_le (by simpa using e)
    rw [e2, List.append_nil, if_neg (fun h' => h h'.1), List.append_nil]
theorem rwP_all {ms : List MbG} (h : SL ms) (n num den : Nat) {i : Nat} (hi : i < ms.length) : rwP ms n num den i ms.length = prI ms i (prF ms n num den i) := by
  unfold rwP
  rw [List.take_length, prI_eq h hi, getElem!_pos ms i hi]
  have e2 : ∀ m ∈ ms.drop (i + 1), matB ms[i].x m.x n num den = matB m.x ms[i].x n num den := fun m _ => mat_sym _ _ _ _ _
  rw [List.filter_congr e2]
theorem prK_pre (ms : List MbG) (n num den k : Nat) : ∀ d, prK ms n num den k <+: prK ms n num den (k + d)
  | 0 => List.prefix_refl _
  | d + 1 => by
    rw [show k + (d + 1) = (k + d) + 1 from rfl, prK_succ]
    exact (prK_pre ms n num den k d).trans (List.prefix_append _ _)
theorem rwP_pre (ms : List MbG) (n num den i j : Nat) : ∀ d, j + d ≤ ms.length → rwP ms n num den i j <+: rwP ms n num den i (j + d)
  | 0, _ => List.prefix_refl _
  | d + 1, h => by
    have := rwP_succ ms n num den i (j := j + d) (by omega)
    rw [show j + (d + 1) = (j + d) + 1 from rfl, this]
    exact (rwP_pre ms n num den i j d (by omega)).trans (List.prefix_append _ _)
theorem qP_pre {ms : List MbG} (h : SL ms) (n num den : Nat) {i j : Nat} (hi : i < ms.length) (hj : j ≤ ms.length) : qP ms n num den i j <+: prK ms n num den ms.length := by
  have h1 := rwP_pre ms n num den i j (ms.length - j) (by omega)
  rw [show j + (ms.length - j) = ms.length by omega, rwP_all h n num den hi] at h1
  have h2 := prK_pre ms n num den (i + 1) (ms.length - (i + 1))
  rw [show i + 1 + (ms.length - (i + 1)) = ms.length by omega, prK_succ] at h2
  exact (List.prefix_append_right_inj _ |>.2 h1).trans h2
theorem at_pre {α : Type} {a p : List α} {x : α} (h : a ++ [x] <+: p) : ∃ hk : a.length < p.length, p[a.length] = x := by
  obtain ⟨t, rfl⟩ := h
  refine ⟨by simp, ?_⟩
  simp
/-- Whether a number is found. -/
theorem has_mat {ms : List MbG} (h : (ms.map (·.id)).Nodup) {i j : Nat} (hi : i < ms.length) (hj : j < ms.length) (n num den : Nat) : (fndM ms ms[i].x n num den).contains ms[j].id = matB ms[i].x ms[j].x n num den := by
  rw [Bool.eq_iff_iff, List.contains_eq_mem, decide_eq_true_eq]
  unfold fndM
  rw [List.mem_map, mat_sym]
  constructor
  · rintro ⟨m, hm, e⟩
    rw [List.mem_filter] at hm
    have := id_inj h hm.1 (List.getElem_mem hj) e
    rw [← this]; exact hm.2
  · intro hm
    exact ⟨ms[j], List.mem_filter.2 ⟨List.getElem_mem hj, hm⟩, rfl⟩
def hasI (F : List Int) (b : Int) (w : Nat) : Bool := (F.take w).contains b
theorem hasI_zero (F : List Int) (b : Int) : hasI F b 0 = false := by simp [hasI]
theorem hasI_all (F : List Int) (b : Int) : hasI F b F.length = F.contains b := by simp [hasI]
theorem hasI_succ {F : List Int} {b : Int} {w : Nat} (h : w < F.length) : hasI F b (w + 1) = (hasI F b w || decide (F[w] = b)) := by
  unfold hasI
  rw [List.take_succ_eq_append_getElem h, Bool.eq_iff_iff]
  simp only [List.contains_eq_mem, List.mem_append, List.mem_singleton, Bool.or_eq_true, decide_eq_true_eq]
  constructor
  · rintro (h | h)
    · exact .inl h
    · exact .inr h.symm
  · rintro (h | h)
    · exact .inl h
    · exact .inr h.symm
theorem law10 (l : List MbG) (turns num den : Int) (h1 : -9223372036854775808 ≤ turns) (h2 : turns ≤ 9223372036854775807) : Pure Try.prog 10 [mrs l, .i turns, .agg [.i num, .i den]] (· = .b true) := by
  refine pure_of_GC T_ok Try.func10 rfl (by kernel_rfl) (Nat.le_of_ble_eq_true rfl) rfl rfl ?_
  simp [go_sem]
  refine call_val alive32 rfl rfl ?_
  simp [go_sem]
  intro hn
  obtain ⟨l', hv, hx, hx0, _⟩ := buildX_of l
  refine call_val (build16 l (by omega)) rfl rfl ?_
  rw [hx]
  have hP := pairs_of hv turns num den
  have hmv : mE ⟨0, 0⟩ ⟨0, 0⟩ turns num den = 0 ∨ mE ⟨0, 0⟩ ⟨0, 0⟩ turns num den = 2 := by
    unfold mE
    rw [zero_ok]
    simp only [Bool.and_self, if_true]
    split
    · exact .inl rfl
    · exact .inr rfl
  have hS : ∀ a ∈ srtM l', mE ⟨0, 0⟩ ⟨0, 0⟩ turns num den = 0 → Pure Try.prog 33 [(ofG l').sv, a.x.sv, .i turns, .agg [.i num, .i den]] (· = .tup [.agg [ils (fndM (srtM l') a.x turns.toNat num.toNat den.toNat), .i (snM (srtM l') a.x turns.toNat num.toNat den.toNat)], .i 0]) := fun a ha h0 => by
    have h := search_of hv a.x turns num den
    have h0' : mE a.x a.x turns num den = 0 := by
      rw [← h0]; exact mE_any (hv.srt.ok a ha) (hv.srt.ok a ha) zero_ok zero_ok _ _ _
    unfold fdI fdS at h
    rw [h0', if_pos rfl, if_pos rfl] at h
    exact h
  obtain ⟨ms, hms⟩ : ∃ ms, srtM l' = ms := ⟨_, rfl⟩
  have hmx : (ofG l').ms = ms := hms
  have hsl : SL ms := hms ▸ srt_SL hv.nd
  have hvm : VL ms := hms ▸ hv.srt
  have hll : ms.length = l'.length := hms ▸ srt_len l'
  rw [hms] at hP hS
  have hle0 : buildE l = 0 → ms.length ≤ 60 := fun h => by
    have := hx0 h
    subst this
    omega
  generalize ofG l' = x at *
  generalize buildE l = e at *
  subst hmx
  by_cases hf0 : mE ⟨0, 0⟩ ⟨0, 0⟩ turns num den = 0
  rotate_left
  · rw [if_neg hf0] at hP
    generalize mE ⟨0, 0⟩ ⟨0, 0⟩ turns num den = f at *
    have hf2 : f = 2 := by omega
    subst hf2
    simp [go_sem, sv_ixC] at hP ⊢
    refine call_val hP rfl rfl ?_
    simp [go_sem, sv_ixC]
  have hmj : ∀ a ∈ x.ms, ∀ b ∈ x.ms, mE a.x b.x turns num den = 0 := fun a ha b hb => by
    rw [← hf0]; exact mE_any (hvm.ok a ha) (hvm.ok b hb) zero_ok zero_ok _ _ _
  obtain ⟨_, _, k2, k3, k4⟩ := mE_ok hf0
  rw [if_pos hf0, hf0] at hP
  obtain ⟨nn, rfl⟩ : ∃ n : Nat, num = n := ⟨num.toNat, by omega⟩
  obtain ⟨dd, rfl⟩ : ∃ n : Nat, den = n := ⟨den.toNat, by omega⟩
  obtain ⟨p, hp⟩ : ∃ p, prK x.ms turns.toNat nn dd x.ms.length = p := ⟨_, rfl⟩
  simp only [Int.toNat_natCast] at hP hS
  rw [hp] at hP
  by_cases he : e = 0
  rotate_left
  · simp [go_sem, sv_ixC] at hP ⊢
    refine call_val hP rfl rfl ?_
    simp [go_sem, he]
  have hl60 := hle0 he
  have hpre : ∀ i j, i < x.ms.length → j ≤ x.ms.length → qP x.ms turns.toNat nn dd i j <+: p := fun i j hi hj => hp ▸ qP_pre hsl _ _ _ hi hj
  have hpl : p.length ≤ 3600 := by
    have := prK_le x.ms turns.toNat nn dd x.ms.length
    rw [hp] at this
    have h2 : x.ms.length * x.ms.length ≤ 60 * 60 := Nat.mul_le_mul hl60 hl60
    omega
  subst he
  simp [go_sem, sv_ixC] at hP hS ⊢
  refine call_val hP rfl rfl ?_
  simp [go_sem, sv_ixC]
  refine GLoop_s T_ok (α := Nat) (fun i => [(1, .i turns), (5, .ptr 0 0 2 0), (7, .b true), (8, .ptr 1 0 9 0), (10, qls p), (12, .i (prK x.ms turns.toNat nn dd i).length), (57, mrs x.ms), (58, .i x.ms.length), (59, .i i)])
    (fun i => [some (.box [.i nn, .i dd]), some (.box (ixC x))]) 2 (fun i => i ≤ x.ms.length) (fun i => x.ms.length - i) 0 (fun _ => rfl) (by simp) (by simp [go_sem, prK]) (by simp [go_sem]) ?_
  intro i J hi
  by_cases hil : i < x.ms.length
  · have r0 := mrow hil 0
    have r1 := mrow hil 1
    have r2 := mrow hil 2
    have hsi := hS x.ms[i] (List.getElem_mem hil) hf0
    have hal := rwP_all hsl turns.toNat nn dd hil
    have hps := prK_succ x.ms turns.toNat nn dd i
    simp [go_sem, hil, r0, r1, r2]
    refine call_val (by simpa  using hsi) rfl rfl ?_
    simp [go_sem]
    have hmat := fun j hj => hmj x.ms[i] (List.getElem_mem hil) x.ms[j] (List.getElem_mem (l := x.ms) (n := j) hj)
    have hhas := fun j (hj : j < x.ms.length) => has_mat hvm.nd hil hj turns.toNat nn dd
    have hrs := fun j (hj : j < x.ms.length) => rwP_succ x.ms turns.toNat nn dd i hj
    simp only [getElem!_pos x.ms i hil] at hrs
    have hq0 : (prK x.ms turns.toNat nn dd i) = qP x.ms turns.toNat nn dd i 0 := by unfold qP; rw [rwP_zero, List.append_nil]
    have hqe : (prK x.ms turns.toNat nn dd (i + 1)) = qP x.ms turns.toNat nn dd i x.ms.length := by unfold qP; rw [hal, hps]
    have hpri := fun j hj => hpre i j hil hj
    have hFl := fndM_le x.ms x.ms[i].x turns.toNat nn dd
    rw [hq0]
    generalize x.ms[i] = a at *
    generalize fndM x.ms a.x turns.toNat nn dd = F at *
    generalize snM x.ms a.x turns.toNat nn dd = sn at *
    refine GLoop_s T_ok (α := Nat) (fun j => [(1, .i turns), (5, .ptr 0 0 2 0), (7, .b true), (8, .ptr 1 0 9 0), (10, qls p), (12, .i (qP x.ms turns.toNat nn dd i j).length), (13, .i i), (14, .ptr 2 0 3 0), (15, .ptr 3 0 2 0), (57, mrs x.ms), (58, .i x.ms.length), (59, .i i), (76, mrs x.ms), (77, .i x.ms.length), (78, .i j)])
      (fun _ => [some (.box [.i nn, .i dd]), some (.box (ixC x)), some (.box [.i a.id, .w a.x.c, .w a.x.m]), some (.box [ils F, .i sn])]) 4 (fun j => j ≤ x.ms.length) (fun j => x.ms.length - j) 0 (fun _ => rfl) (by simp) (by simp [go_sem]) (by simp [go_sem]) ?_
    intro j J hj
    by_cases hjl : j < x.ms.length
    · have s0 := mrow hjl 0
      have s1 := mrow hjl 1
      have s2 := mrow hjl 2
      have hmt := match39 a.x x.ms[j].x turns nn dd
      rw [hmat j hjl] at hmt
      have hhj := hhas j hjl
      have hrj := hrs j hjl
      have hq1 : qP x.ms turns.toNat nn dd i (j + 1) = qP x.ms turns.toNat nn dd i j ++ if i < j ∧ matB a.x x.ms[j].x turns.toNat nn dd = true then [(a.id, x.ms[j].id)] else [] := by
        unfold qP; rw [hrj, List.append_assoc]
      have hpj := hpri (j + 1) (by omega)
      rw [hq1] at hpj
      generalize x.ms[j] = b at *
      generalize matB a.x b.x turns.toNat nn dd = is at *
      obtain ⟨q, hq⟩ : ∃ q, qP x.ms turns.toNat nn dd i j = q := ⟨_, rfl⟩
      rw [hq] at hq1 hpj ⊢
      simp [go_sem, hjl, s0, s1, s2]
      refine call_val hmt rfl rfl ?_
      simp [go_sem]
      refine GLoop_s T_ok (α := Nat) (fun w => [(1, .i turns), (5, .ptr 0 0 2 0), (7, .b true), (8, .ptr 1 0 9 0), (10, qls p), (12, .i q.length), (13, .i i), (14, .ptr 2 0 3 0), (15, .ptr 3 0 2 0), (17, .i j), (18, .ptr 4 0 3 0), (19, .b is), (20, .i 0), (21, .b (hasI F b.id w)), (57, mrs x.ms), (58, .i x.ms.length), (59, .i i), (76, mrs x.ms), (77, .i x.ms.length), (78, .i j), (94, ils F), (95, .i F.length), (96, .i w)])
        (fun _ => [some (.box [.i nn, .i dd]), some (.box (ixC x)), some (.box [.i a.id, .w a.x.c, .w a.x.m]), some (.box [ils F, .i sn]), some (.box [.i b.id, .w b.x.c, .w b.x.m])]) 5 (fun w => w ≤ F.length) (fun w => F.length - w) 0 (fun _ => rfl) (by simp) (by simp [go_sem, hasI_zero]) (by simp [go_sem]) ?_
      intro w J hw
      by_cases hwl : w < F.length
      · have e0 := irow hwl 0
        have hcs := hasI_succ (b := b.id) hwl
        generalize F[w] = u at *
        generalize hasI F b.id w = hb at *
        simp [go_sem, hwl, e0]
        cases hb
        · simp
          refine ⟨by omega, w + 1, by omega, by omega, ?_, by omega⟩
          rw [hcs]; simp
        · simp
          refine ⟨by omega, w + 1, by omega, by omega, ?_, by omega⟩
          rw [hcs]; simp
      · have hwe : w = F.length := by omega
        subst hwe
        rw [hasI_all, hhj]
        simp [go_sem]
        by_cases hij : i < j
        rotate_left
        · rw [if_neg (fun h => hij h.1), List.append_nil] at hq1
          rw [if_neg hij]
          refine ⟨by omega, j + 1, by omega, by omega, ?_, by omega⟩
          rw [hq1]
        rw [if_pos hij]
        cases his : is
        · rw [his, if_neg (by simp), List.append_nil] at hq1
          simp
          refine ⟨by omega, j + 1, by omega, by omega, ?_, by omega⟩
          rw [hq1]
        rw [if_pos ⟨hij, his⟩] at hq1 hpj
        obtain ⟨hk, hpk⟩ := at_pre hpj
        have g0 := qrow hk 0
        have g1 := qrow hk 1
        rw [hpk] at g0 g1
        simp only [qf] at g0 g1
        simp
        refine GDraw_all T_ok (by kernel_rfl) (by kernel_rfl) ?_
        simp [go_sem, hk, g0, g1]
        refine ⟨by omega, by omega, j + 1, by omega, by omega, ?_, by omega⟩
        rw [hq1, List.length_append, List.length_singleton]
        omega
    · have hje : j = x.ms.length := by omega
      subst hje
      rw [← hqe]
      simp [go_sem]
      refine ⟨by omega, i + 1, by omega, by omega, rfl, by omega⟩
  · have hie : i = x.ms.length := by omega
    subst hie
    rw [hp]
    simp [go_sem]
end Go.Gx.Ix
