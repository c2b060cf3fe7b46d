/-
  A callee that runs in the caller's memory: what it does there is told by its own walk.
-/
import Derived.Test.YtnajladibkpeaaaGreatK5
set_option linter.unusedVariables false
set_option linter.unusedSimpArgs false
namespace Go.Gx
open Go.RowKit
attribute [go_sem] gretn
/-- A call is walked in the memory of the caller: regions from np on may be moved (what the caller knew of them is gone), those below keep their place. -/
theorem callK_in {P : Program} {T : Tab} (hT : TabOK P T) {f : FuncId} {fn : Func} (hf : P.funcs[f]? = some fn) {c : Code} (hb : fn.body = some c) (hn : (fn.name == "runtime.NumGoroutine") = false)
    {args : List SV} (hlen : args.length ≤ fn.ntmps) {N : Nat} {rs : List ResultVar} (hN : fn.ntmps = N) (hrs : fn.results.toList = rs) {np0 nx : Nat} (np : Nat) {M : Mem} {K : SV → Mem → Nat → (SV → SV) → Prop} (h0 : np0 ≤ np) (hnp : np ≤ nx)
    (h : GC P T ⟨N, np, noGood⟩ c [] (gretn T rs fun s M' nx' => K s M' nx' (SV.trim np)) (env0 args) M nx) : CallK P np0 f args M nx K := by
  subst hN hrs
  intro B W n0 σ w vs hm hn0 hnpx ha
  have hl := SV.relL_length ha
  have hm2 : MOK B (Wof σ M) w.heap.size σ M (From nx) w :=
    ⟨fun b hb => hb.elim (fun hb => hm.newB b (.inl (Nat.le_trans hn0 hb))) (fun ⟨r, R, L, h1, h2, h3⟩ => hm.newB b ((hm.own r R L b h1 h2 h3).symm)), hm.fresh, hm.reg, hm.inj, fun r R L b h1 h2 h3 => .inl ⟨r, R, L, h1, h2, h3⟩⟩
  have hw : ∀ b, Wof σ M b → W b ∨ n0 ≤ b := fun b ⟨r, R, L, h1, h2, h3⟩ => hm.own r R L b h1 h2 h3
  refine .inl ⟨enter_run hf hb hn _, (calls_of_gexecn (K := fun s M' nx' => K s M' nx' (SV.trim np)) (good := noGood) hT hf hb hlen hnp trivial hm2 ha h).mono fun e w' h' => ?_⟩
  obtain ⟨s, y, σ', M', nx', rfl, h3, h2, hmm, hfr, hlow, hpin⟩ := h'
  have hkeep : Keep (Zof B σ M w) (Zof B σ' M' w') w w' := fun b hz => by
    have hnw : ¬ Wof σ M b := fun ⟨r, R, L, h1, h2, h3⟩ => hz.2 r R L h1 h2 h3
    have hsz : b < w.heap.size := hz.1.1
    refine ⟨⟨⟨Nat.lt_of_lt_of_le hsz hfr.size, hz.1.2⟩, fun r R L h1 h2 h3 => ?_⟩, hfr.block b hsz hnw⟩
    rcases hmm.own r R L b h1 h2 h3 with h4 | h4
    · exact hnw h4
    · have h4 : w.heap.size ≤ b := h4
      omega
  refine ⟨y, s, M', nx', σ', SV.trim np, rfl, h3, ?_, hkeep, h2, fun t z ht => SV.rel_trim (fun r L hr hL => ?_) hkeep t z ht, ?_, Nat.le_trans h0 hlow, fun r hr => hpin r (Nat.lt_of_lt_of_le hr h0)⟩
  · exact ⟨hm.newB, hmm.fresh, hmm.reg, hmm.inj, fun r R L b k1 k2 k3 => (hmm.own r R L b k1 k2 k3).elim (hw b) fun k => .inr (Nat.le_trans hn0 k)⟩
  · rw [hpin r hr]; exact hL
  · refine ⟨hfr.os, hfr.tape, hfr.output, hfr.size, hfr.drawn, fun b hb hnW => ?_⟩
    refine hfr.block b (Nat.lt_of_lt_of_le hb hn0) fun k => ?_
    rcases hw b k with k | k
    · exact hnW k
    · omega
end Go.Gx
