/-
  Sign: a query with one more key.
-/
import Derived.Test.YtaggojedpkddjaaSn
import Derived.Test.YtaggojedpkddjaaSo
set_option linter.unusedVariables false
set_option linter.unusedSimpArgs false
set_option maxRecDepth 20000
set_option maxHeartbeats 2000000
namespace Go.Gx
open Go.RowKit Go.Proofs Go.Proofs.Ytaggojedpkddjaa

def QG.nil : QG := ⟨0, 0, 0, 0, 0, 0, fun _ => 0⟩
def QG.at' (q : QG) (o : Int) : Nat := bnd (fun i => q.k i - o) q.nk
def QG.sg (q : QG) (o : Int) : QG := { q with nk := q.nk + 1, k := fun i => if i < q.at' o then q.k i else if i = q.at' o then o else q.k (i - 1) }
def QG.sgE (q : QG) (o : Int) : Int := if q.err = 0 then (if btw 0 7 o then (if fnd (fun i => q.k i - o) q.nk || decide (q.nk = 2) then 91 else 0) else 2) else q.err
abbrev QG.osv (q : QG) : SV := .agg [.i q.p, .i q.r, .i q.l, .i q.w, .i q.t, .sl 0 1 0 q.nk none]
abbrev QG.ors (q : QG) : List Reg := [.vec 3 1 q.nk fun i _ => .i (q.k i)]

theorem own_query {P : Program} {T : Tab} (hT : TabOK P T) {f : FuncId} {fn : Func} (hf : P.funcs[f]? = some fn) {c : Code} (hb : fn.body = some c) (hn : (fn.name == "runtime.NumGoroutine") = false) {args : List SV} (hlen : args.length ≤ fn.ntmps) {Rs Rs' : List Reg} {S : SV}
    {N : Nat} {rs : List ResultVar} (hN : fn.ntmps = N) (hrs : fn.results.toList = rs)
    (h : GC P T N c [] (gret T rs fun s M => (∃ ρl, gexp M s ρl S Rs') ∨ (∃ e : SV, e.flat = true ∧ s = .tup [.agg [.i 0, .i 0, .i 0, .i 0, .i 0, .r (.v (.slice none 0 0))], e] ∧ S = .tup [QG.nil.osv, e] ∧ Rs' = QG.nil.ors)) (env0 args) (memR Rs) Rs.length) : Own P f Rs args S Rs' := by
  subst hN; subst hrs
  intro B σ w vs hm ha
  refine ⟨enter_run hf hb hn _, ?_⟩
  refine (calls_of_gexec hT hf hb hlen hm ha h).mono fun e w' h' => ?_
  obtain ⟨s, y, σ', M', nx', rfl, h', hrel, hm', hfr⟩ := h'
  rcases h' with ⟨ρl, h1, h2⟩ | ⟨e, he, rfl, rfl, rfl⟩
  · obtain ⟨h3, h4⟩ := h2 nx'
    obtain ⟨m1, m2⟩ := hm'.export (hm'.fresh nx' (Nat.le_refl nx')) h1 h4
    exact ⟨y, _, rfl, m1, SV.rel_mono (fun _ _ h => h) (fun b hb => ⟨m2 b hb, rfl⟩) _ _ ((SV.rel_ren _ _).1 (SV.sub_rel _ _ _ h3 hrel)), hfr.os, hfr.tape, hfr.output, hfr.size, hfr.block⟩
  · obtain ⟨_, rfl, v0, _, rfl, ⟨_, rfl, ho, a0, _, rfl, e0, a1, _, rfl, e1, a2, _, rfl, e2, a3, _, rfl, e3, a4, _, rfl, e4, a5, _, rfl, e5, rfl⟩, v1, _, rfl, h1, rfl⟩ := hrel
    cases e0; cases e1; cases e2; cases e3; cases e4; cases e5
    have hσ : ∀ r, r < 1 → (fun r => if r < 1 then some (⟨none, 0⟩ : Loc) else none) r = some ⟨none, 0⟩ := fun r h => if_pos h
    refine ⟨_, fun r => if r < 1 then some ⟨none, 0⟩ else none, rfl, ⟨hm'.newB, fun r hr => if_neg (by have : 1 ≤ r := hr; omega), fun r R hR => ?_, fun r r' R R' L L' b h1 h2 h3 h4 h5 h6 => ?_, fun r R L b h1 h2 h3 => ?_⟩, ?_, hfr.os, hfr.tape, hfr.output, hfr.size, hfr.block⟩
    · rw [memR_get] at hR
      have hr4 : r < 1 := by
        rcases Nat.lt_or_ge r 1 with h | h
        · exact h
        · rw [List.getElem?_eq_none (by simpa [QG.ors] using h)] at hR; cases hR
      refine ⟨_, hσ r hr4, ?_⟩
      have : r = 0 := by omega
      subst this
      simp [QG.nil] at hR; subst hR; exact ⟨Nat.le_refl _, by simp [maxLen], .inl ⟨rfl, rfl⟩⟩
    · split at h3
      · cases h3; cases h5
      · cases h3
    · split at h2
      · cases h2; cases h3
      · cases h2
    · have hsl : (SV.sl 0 1 0 0 none).rel (fun r => if r < 1 then some (⟨none, 0⟩ : Loc) else none) (Zof B (fun r => if r < 1 then some (⟨none, 0⟩ : Loc) else none) (memR QG.nil.ors) w') w' (.slice none 0 0) :=
        ⟨⟨none, 0⟩, none, hσ 0 (by decide), rfl, by simp, by simp, by simp, fun _ => .inl rfl⟩
      exact ⟨_, rfl, _, _, rfl, ⟨_, rfl, ho, _, _, rfl, rfl, _, _, rfl, rfl, _, _, rfl, rfl, _, _, rfl, rfl, _, _, rfl, rfl, _, _, rfl, hsl, rfl⟩, _, _, rfl, SV.rel_flat _ _ he h1, rfl⟩

theorem QG.keys (q : QG) (h : q.err = 0) : q.nk ≤ 2 ∧ ∀ a b, a < b → b < q.nk → q.k a < q.k b := by
  unfold QG.err at h
  split at h
  · split at h
    · rename_i h2
      simp only [QG.cks, Bool.and_eq_true, decide_eq_true_eq, QG.c3, List.all_eq_true, List.mem_range] at h2
      refine ⟨by omega, fun a b hab hb => ?_⟩
      have h3 := h2.2 0 (by omega)
      have : a = 0 ∧ b = 1 := by omega
      obtain ⟨rfl, rfl⟩ := this
      exact h3
    · omega
  · omega
theorem own37 (q : QG) (o : Int) (h : q.OK) : Own Try.prog 37 [] [q.sv, .i o] (.tup [(if q.sgE o = 0 then q.sg o else QG.nil).osv, .i (q.sgE o)]) (if q.sgE o = 0 then q.sg o else QG.nil).ors := by
  refine own_query T_ok Try.func37 rfl (by kernel_rfl) (Nat.le_of_ble_eq_true rfl) rfl rfl ?_
  simp [go_sem]
  refine call_val (checkQuery40 q h) rfl rfl ?_
  by_cases he : q.err = 0
  rotate_left
  · have ha : q.sgE o = q.err := by unfold QG.sgE; rw [if_neg he]
    simp [go_sem, he, ha]
  simp [go_sem, he]
  refine call_lent (v := .b (btw 0 7 o)) (by simp [go_sem]; exact from1 rfl) rfl ?_
  by_cases ho : btw 0 7 o = true
  rotate_left
  · have ha : q.sgE o = 2 := by unfold QG.sgE; rw [if_pos he, if_neg ho]
    simp [go_sem, ho, ha]
  obtain ⟨hk, hm⟩ := q.keys he
  have hE : q.sgE o = if fnd (fun i => q.k i - o) q.nk || decide (q.nk = 2) then 91 else 0 := by unfold QG.sgE; rw [if_pos he, if_pos ho]
  simp [go_sem, ho]
  refine call_val (search91 q.nk (by omega) q.k o hm) rfl rfl ?_
  by_cases hf : fnd (fun i => q.k i - o) q.nk = true
  · have ha : q.sgE o = 91 := by rw [hE, hf]; simp
    simp [go_sem, hf, ha]
  by_cases h2 : q.nk = 2
  · have ha : q.sgE o = 91 := by rw [hE, h2]; simp
    have h2' : (q.nk : Int) = 2 := by omega
    simp [go_sem, hf, h2', ha]
  have ha : q.sgE o = 0 := by rw [hE]; simp [hf, h2]
  have h2' : ¬ (q.nk : Int) = 2 := by omega
  simp [go_sem, hf, h2', ha]
  refine callK_own [] (clone93 q.nk (by omega) _) (by simp) rfl trivial ?_
  simp [go_sem]
  have hb := bnd_le (c := fun i => q.k i - o) (n := q.nk)
  refine callK_own [3, 4] (insert92 q.nk (bnd (fun i => q.k i - o) q.nk) (by omega) (by omega) (fun i _ => .i (q.k i)) (fun i j => ([SV.i o][i + j]?.getD (.r .any)).toRV)) (by simp) rfl ?_ ?_
  · simp [go_sem]
  simp [go_sem]
  refine ⟨[5], by simp, fun N => ⟨?_, ?_⟩⟩
  · simp [go_sem, QG.sg]
  · simp [go_sem, QG.sg, QG.at', insR]
    intro r hr
    rcases Nat.lt_trichotomy r (bnd (fun i => q.k i - o) q.nk) with h5 | h5 | h5
    · simp [h5]
    · have e1 : ¬ r < bnd (fun i => q.k i - o) q.nk := by omega
      simp only [e1, if_false, h5, if_true]
      simp
    · have e1 : ¬ r < bnd (fun i => q.k i - o) q.nk := by omega
      have e2 : ¬ r = bnd (fun i => q.k i - o) q.nk := by omega
      simp [e1, e2]
end Go.Gx
