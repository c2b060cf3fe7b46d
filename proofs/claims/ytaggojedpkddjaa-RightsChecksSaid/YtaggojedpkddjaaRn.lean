/-
  Contracts: the reference's Answer.
-/
import Derived.Test.YtaggojedpkddjaaRm
set_option linter.unusedVariables false
set_option linter.unusedSimpArgs false
set_option maxRecDepth 20000
set_option maxHeartbeats 2000000
namespace Go.Gx
open Go.RowKit Go.Proofs Go.Proofs.Ytaggojedpkddjaa

/-- The reply when the first k marks have been seen. -/
def RG.seen (g : RG) (q : QG) (k : Nat) : Option MarkG := ((List.range k).find? fun i => onB q (g.m i)).map g.m
theorem RG.seen_no {g : RG} {q : QG} {k : Nat} (h : onB q (g.m k) = false) : g.seen q (k + 1) = g.seen q k := by
  unfold RG.seen
  rw [List.range_succ, List.find?_append]
  simp [h]
theorem RG.seen_yes {g : RG} {q : QG} {k : Nat} (h6 : g.c6 = true) (hk : k < g.nm) (h : onB q (g.m k) = true) : g.seen q k = none ∧ g.seen q (k + 1) = some (g.m k) := by
  have hn : ∀ j, j < k → onB q (g.m j) = false := fun j hj => by
    have := RG.sortM h6 hj hk
    simp [onB] at h ⊢
    unfold MarkG.ltP at this
    omega
  have h0 : (List.range k).find? (fun i => onB q (g.m i)) = none := List.find?_eq_none.2 fun j hj => by simp [hn j (List.mem_range.1 hj)]
  refine ⟨by simp [RG.seen, h0], ?_⟩
  unfold RG.seen
  rw [List.range_succ, List.find?_append, h0]
  simp [h]
def repL (lev : Int) : Option MarkG → List SV
  | none => [.i lev, .b false, .i 0, .i 0]
  | some m => [.i lev, .b true, .i (if 2 ≤ lev then m.s else 0), .i (if lev = 3 then m.n else 0)]

theorem answer33 (g : RG) (q : QG) (h : g.OK) (hq : q.OK) : Pure Try.prog 33 [g.sv, q.sv] (· = .tup [g.rep q, .i (g.aerr q)]) := by
  refine pure_of_GC T_ok Try.func33 rfl (by kernel_rfl) (Nat.le_of_ble_eq_true rfl) rfl rfl ?_
  simp [go_sem]
  refine call_val (asked82 g q h hq) rfl rfl ?_
  by_cases ha : ask g q = 0
  rotate_left
  · have he : g.aerr q = ask g q := by simp [RG.aerr, ha]
    have hr : g.rep q = _ := RG.ans_no (by rw [he]; exact ha)
    simp [go_sem, ha]
    rw [← he]
    simp [RG.rep] at hr
    simp [hr]
  have hv := (ask_valid ha).1
  have hbd := RG.lev_bd hv q g.nr (by omega)
  simp [go_sem, ha]
  refine call_val (leveled83 g q h) rfl rfl ?_
  by_cases h0 : g.lev q g.nr = 0
  · have he : g.aerr q = 90 := by simp [RG.aerr, ha, h0]
    have hr : g.rep q = _ := RG.ans_no (by rw [he]; decide)
    simp [go_sem, h0]
    simp [RG.rep] at hr
    simp [he, hr]
  have he : g.aerr q = 0 := by simp [RG.aerr, ha, h0]
  have h6 := RG.v6 hv
  have hsm := (RG.small hv).2.2.2
  have hr : g.rep q = .agg (repL (g.lev q g.nr) (g.onM q)) := by
    cases hm : g.onM q with
    | none => exact RG.ans_base he hm
    | some m => exact RG.ans_full he hm
  generalize hL : g.lev q g.nr = L at *
  simp [go_sem, h0]
  refine GLoop_of T_ok (α := Nat) (fun k => [(2, .ptr 0 0 4 0), (3, .ptr 1 0 6 0), (4, .ptr 2 0 4 0), (7, .i L), (8, .ptr 3 0 4 0), (9, .i k)]) (fun k => g.box ++ [q.bx, some (.box [.i 0, .b false, .i 0, .i 0]), some (.box (repL L (g.seen q k)))]) 4 (fun k => k ≤ g.nm) (fun k => g.nm - k) 0 (fun _ => rfl) (by simp) (by simp [go_sem]) (by simp [go_sem, RG.seen, repL]) ?_
  intro k J hi
  simp [go_sem]
  split
  rotate_left
  · rename_i hge
    have hk : k = g.nm := by omega
    subst hk
    have : g.seen q g.nm = g.onM q := rfl
    rw [this]
    simp [RG.rep] at hr
    cases hm : g.onM q with
    | none => rw [hm] at hr; simp [repL, go_sem] at hr ⊢; simp [he, hr]
    | some m => rw [hm] at hr; simp [repL, go_sem] at hr ⊢; simp [he, hr]
  rename_i hlt
  refine ⟨by omega, ?_⟩
  have no : onB q (g.m k) = false → ∃ x', x' ≤ g.nm ∧ g.nm - x' < g.nm - k ∧ k + 1 = x' ∧ repL L (g.seen q k) = repL L (g.seen q x') := fun hn => ⟨k + 1, by omega, by omega, rfl, by rw [RG.seen_no hn]⟩
  have hrepl : ∀ m, repL L m = [.i L, .b m.isSome, .i (if 2 ≤ L then m.elim 0 (·.s) else 0), .i (if L = 3 then m.elim 0 (·.n) else 0)] := fun m => by cases m <;> simp [repL]
  simp only [hrepl] at no ⊢
  by_cases e1 : (g.m k).l = q.l
  rotate_left
  · have := RG.seen_no (g := g) (k := k) (q := q) (by simp [onB, e1])
    simp [go_sem, e1]
    exact ⟨by omega, k + 1, by omega, by omega, by simp, by simp [this]⟩
  by_cases e2 : (g.m k).p = q.w
  rotate_left
  · have := RG.seen_no (g := g) (k := k) (q := q) (by simp [onB, e1, e2])
    simp [go_sem, e1, e2]
    exact ⟨by omega, k + 1, by omega, by omega, by simp, by simp [this]⟩
  by_cases e3 : (g.m k).s ≤ q.t
  rotate_left
  · have := RG.seen_no (g := g) (k := k) (q := q) (by simp [onB, e1, e2]; omega)
    simp [go_sem, e1, e2, e3]
    exact ⟨by omega, k + 1, by omega, by omega, by simp, by simp [this]⟩
  by_cases e4 : (g.m k).u ≤ q.t
  · have := RG.seen_no (g := g) (k := k) (q := q) (by simp [onB, e1, e2]; omega)
    simp [go_sem, e1, e2, e3, e4]
    exact ⟨by omega, k + 1, by omega, by omega, by simp, by simp [this]⟩
  obtain ⟨s1, s2⟩ := RG.seen_yes h6 hlt (show onB q (g.m k) = true by simp [onB, e1, e2]; omega)
  rw [s1]
  have e4' : q.t < (g.m k).u := by omega
  rcases (by omega : L = 1 ∨ L = 2 ∨ L = 3) with hl | hl | hl
  · simp [go_sem, e1, e2, e3, e4, e4', hl]
    exact ⟨by omega, k + 1, by omega, by omega, by simp, by simp [s2]⟩
  · simp [go_sem, e1, e2, e3, e4, e4', hl]
    exact ⟨by omega, k + 1, by omega, by omega, by simp, by simp [s2]⟩
  · simp [go_sem, e1, e2, e3, e4, e4', hl]
    exact ⟨by omega, k + 1, by omega, by omega, by simp, by simp [s2]⟩
end Go.Gx
