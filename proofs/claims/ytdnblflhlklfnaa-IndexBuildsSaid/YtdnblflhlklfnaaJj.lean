/-
  IndexOrder.
-/
import Derived.Test.YtdnblflhlklfnaaJi
set_option linter.unusedVariables false
set_option linter.unusedSimpArgs false
set_option maxRecDepth 20000
set_option maxHeartbeats 4000000
namespace Go.Gx.Ix
open Go.RowKit Go.Proofs Go.Proofs.Ytdnblflhlklfnaa

theorem check_of {l : List MbG} (h : VL l) : Pure Try.prog 19 [(ofG l).sv] (· = .i 0) := by
  have hc := check19 (ofG l) (ofG_sm (by have := h.len; omega))
  have : checkE (ofG l) = 0 := by unfold checkE; rw [ofG_valid h]; rfl
  rwa [this] at hc
theorem add_snoc {l : List MbG} {m : MbG} (h : VL (l ++ [m])) : Pure Try.prog 24 [(ofG l).sv, m.sv] (· = .tup [(ofG (l ++ [m])).sv, .i 0]) := by
  have h1 := h.snoc.1
  have ha := add_of h1 m
  have h0 := addE_zero h
  rw [h0, (addX_eq h1 h0).1] at ha
  exact ha
theorem law7 (l : List MbG) : Pure Try.prog 7 [mrs l] (· = .b true) := by
  refine pure_of_GC T_ok Try.func7 rfl (by kernel_rfl) (Nat.le_of_ble_eq_true rfl) rfl rfl ?_
  simp [go_sem]
  refine call_val alive32 rfl rfl ?_
  simp [go_sem]
  intro hn
  obtain ⟨l', hv, hx, hx0, _⟩ := buildX_of l
  refine call_val (build16 l (by omega)) rfl rfl ?_
  rw [hx]
  by_cases he : buildE l = 0
  rotate_left
  · generalize buildE l = e at *
    simp [go_sem, sv_ixC, he]
  obtain rfl := hx0 he
  rw [he]
  have hck := check_of hv
  have hsm := same_of hv
  have hms : (ofG l').ms.length = l'.length := srt_len l'
  have hup : ∀ k, (hk : k < l'.length) → VL (l'.take k ++ [l'[k]]) := fun k hk => by
    rw [← List.take_succ_eq_append_getElem hk]
    exact hv.sub (List.take_sublist _ _)
  have hdn : ∀ k, (hk : k < l'.length) → VL (l'.reverse.take k ++ [l'[l'.length - 1 - k]]) := fun k hk => by
    have e : l'[l'.length - 1 - k] = l'.reverse[k]'(by simpa using hk) := by rw [List.getElem_reverse]
    rw [e, ← List.take_succ_eq_append_getElem]
    exact (hv.perm (List.reverse_perm l').symm).sub (List.take_sublist _ _)
  have hdn2 : ∀ k, (hk : k < l'.length) → l'.reverse.take (k + 1) = l'.reverse.take k ++ [l'[l'.length - 1 - k]] := fun k hk => by
    have e : l'[l'.length - 1 - k] = l'.reverse[k]'(by simpa using hk) := by rw [List.getElem_reverse]
    rw [e, ← List.take_succ_eq_append_getElem]
  have hrev : ofG l'.reverse = ofG l' := ofG_eq (by rw [List.map_reverse]; exact ((List.reverse_perm _).nodup_iff).2 hv.nd) hv.nd fun a => List.mem_reverse
  have hz : ixC (ofG []) = ixC IxG.zero := by rw [ofG_nil]
  obtain ⟨x, hxe⟩ : ∃ x, ofG l' = x := ⟨_, rfl⟩
  rw [hxe] at hck hsm hms ⊢
  simp [go_sem, sv_ixC] at hck hsm ⊢
  refine GLoop_s T_ok (α := Nat) (fun k => [(0, mrs l'), (3, .b true), (4, .ptr 0 0 9 0), (6, .ptr 1 0 9 0), (7, .ptr 2 0 9 0), (27, .i l'.length), (28, .i k)])
    (fun k => [some (.box (ixC x)), some (.box (ixC (ofG (l'.take k)))), some (.box (ixC (ofG (l'.reverse.take k))))]) 3 (fun k => k ≤ l'.length) (fun k => l'.length - k) 0 (fun _ => rfl) (by simp) (by simp [go_sem]) (by simp [go_sem, hz, IxG.zero]) ?_
  intro k J hk
  by_cases hkl : k < l'.length
  · have hkl2 : l'.length - 1 - k < l'.length := by omega
    have hkc : ((l'.length : Int) - 1 - k).toNat = l'.length - 1 - k := by omega
    have ha1 := add_snoc (hup k hkl)
    have ha2 := add_snoc (hdn k hkl)
    rw [← List.take_succ_eq_append_getElem hkl] at ha1
    rw [← hdn2 k hkl] at ha2
    have r0 := mrow hkl 0
    have r1 := mrow hkl 1
    have r2 := mrow hkl 2
    have q0 := mrow hkl2 0
    have q1 := mrow hkl2 1
    have q2 := mrow hkl2 2
    obtain ⟨up, hup'⟩ : ∃ y, ofG (l'.take k) = y := ⟨_, rfl⟩
    obtain ⟨dn, hdn'⟩ : ∃ y, ofG (l'.reverse.take k) = y := ⟨_, rfl⟩
    obtain ⟨up2, hup2⟩ : ∃ y, ofG (l'.take (k + 1)) = y := ⟨_, rfl⟩
    obtain ⟨dn2, hdn3⟩ : ∃ y, ofG (l'.reverse.take (k + 1)) = y := ⟨_, rfl⟩
    rw [hup', hup2] at ha1
    rw [hdn', hdn3] at ha2
    rw [hup', hdn']
    simp [go_sem, sv_ixC] at ha1 ha2
    simp [go_sem, hkl]
    refine GDraw_ls (S := [(0, mrs l'), (3, .b true), (4, .ptr 0 0 9 0), (6, .ptr 1 0 9 0), (7, .ptr 2 0 9 0), (8, .i k), (9, .ptr 3 0 9 0), (10, .i 0), (27, .i l'.length), (28, .i k)]) (l := [some (.box (ixC x)), some (.box (ixC up)), some (.box (ixC dn)), some (.box (ixC up2))]) (n := 4)
      (t := (.take 0 (.take 1 (.take 2 (.take 3 (.take 4 (.alt 5 [4, 3, 2, 1, 0] (.take 6 (.take 7 (.take 8 (.alt 9 [8, 7, 6, 3, 2, 1] (.alt 10 [8, 7, 6, 3, 2, 1] (.take 11 (.done [11, 8])) .nil) .nil)))) (.alt 9 [4, 3, 2, 1, 0] (.alt 5 [4, 3, 2, 1, 0] (.take 6 (.take 7 (.take 8 (.alt 10 [8, 7, 6, 3, 2, 1] (.take 11 (.done [11, 8])) .nil)))) .nil) .nil)))))))) T_ok (by kernel_rfl) (by kernel_rfl) (by kernel_rfl) (fun _ _ _ _ h => h) rfl ?_ ?_
    · simp [go_sem, hkl, r0, r1, r2]
      refine ⟨call_val ha1 rfl rfl ?_, call_val ha1 rfl rfl ?_⟩ <;> simp [go_sem, sv_ixC, hkl]
    intro J
    simp [go_sem]
    refine GDraw_ls (S := [(0, mrs l'), (3, .b true), (4, .ptr 0 0 9 0), (6, .ptr 1 0 9 0), (7, .ptr 2 0 9 0), (8, .i k), (9, .ptr 3 0 9 0), (10, .i 0), (11, .ptr 4 0 9 0), (12, .i 0), (27, .i l'.length), (28, .i k)]) (l := [some (.box (ixC x)), some (.box (ixC up)), some (.box (ixC dn)), some (.box (ixC up2)), some (.box (ixC dn2))]) (n := 5)
      (t := (.take 0 (.take 1 (.take 2 (.take 3 (.take 4 (.take 5 (.take 6 (.take 7 (.take 8 (.alt 9 [8, 7, 6, 5, 4, 3, 2, 1, 0] (.take 10 (.take 11 (.take 12 (.alt 13 [12, 11, 10, 7, 6, 5, 4, 3, 2, 1] (.alt 14 [12, 11, 10, 7, 6, 5, 4, 3, 2, 1] (.take 15 (.done [15, 12])) .nil) .nil)))) (.alt 13 [8, 7, 6, 5, 4, 3, 2, 1, 0] (.alt 9 [8, 7, 6, 5, 4, 3, 2, 1, 0] (.take 10 (.take 11 (.take 12 (.alt 14 [12, 11, 10, 7, 6, 5, 4, 3, 2, 1] (.take 15 (.done [15, 12])) .nil)))) .nil) .nil)))))))))))) T_ok (by kernel_rfl) (by kernel_rfl) (by kernel_rfl) (fun _ _ _ _ h => h) rfl ?_ ?_
    · simp [go_sem, hkl, hkl2, hkc, q0, q1, q2]
      refine ⟨by omega, by omega, by omega, by omega, call_val ha2 rfl rfl ?_, by omega, call_val ha2 rfl rfl ?_⟩ <;> simp [go_sem, sv_ixC, hkl, hkl2, hkc] <;> omega
    intro J
    simp [go_sem]
    refine GDraw_l (t := (.take 0 (.take 1 (.alt 2 [1, 0] (.alt 3 [1] (.done []) .nil) .nil)))) T_ok (by kernel_rfl) (by kernel_rfl) (by kernel_rfl) (fun _ _ _ _ h => h) ?_
    simp [go_sem]
    refine ⟨by omega, k + 1, by omega, by omega, by omega, ?_⟩
    rw [hup2, hdn3]
    simp
  · have hke : k = l'.length := by omega
    subst hke
    have hrl : l'.reverse.take l'.length = l'.reverse := by rw [List.take_of_length_le (by simp)]
    rw [List.take_length, hrl, hrev, hxe]
    simp [go_sem]
    refine call_val hsm rfl rfl ?_
    simp [go_sem]
    refine call_val hsm rfl rfl ?_
    simp [go_sem]
    refine call_val hck rfl rfl ?_
    simp [go_sem, hms]
end Go.Gx.Ix
