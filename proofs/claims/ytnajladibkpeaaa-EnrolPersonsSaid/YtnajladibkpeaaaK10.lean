/-
  Contracts whose result is known by a relation; regions under other numbers.
-/
import Derived.Test.YtnajladibkpeaaaK9
set_option linter.unusedVariables false
set_option linter.unusedSimpArgs false
namespace Go.Gx
open Go.RowKit

section
variable {P : Program} {T : Tab}
/-- As OwnS; what comes back is some S with some regions Rs' of which Ψ holds. -/
def OwnX (P : Program) (np : Nat) (f : FuncId) (Rs : List Reg) (args : List SV) (Ψ : SV → List Reg → Prop) : Prop :=
  ∀ (B : Nat → Prop) (σ : Sig) (w : World) (vs : List Value), MOK B (Wof σ (memR Rs)) w.heap.size σ (memR Rs) (From Rs.length) w → SV.relL σ (Zof B σ (memR Rs) w) w args vs →
    (callFunc f vs.toArray).run P w = .ok (.enter f vs.toArray) w ∧
    Calls P f vs.toArray w fun e w' => ∃ S Rs' y σ', Ψ S Rs' ∧ e = .returned y ∧ MOK B (Wof σ (memR Rs)) w.heap.size σ' (memR Rs') (From Rs'.length) w' ∧ S.rel σ' (Zof B σ' (memR Rs') w') w' y ∧ FrS (Wof σ (memR Rs)) w.heap.size w w' ∧
      ∀ r, r < np → σ' r = σ r
/-- What is handed out, for a relation (simp does not look into it). -/
def gxe (Ψ : SV → List Reg → Prop) (np : Nat) (s : SV) (M : Mem) : Prop := ∃ S Rs' ρl, Ψ S Rs' ∧ keepsL np 0 ρl ∧ gexp M s ρl S Rs'
theorem gxe.mk {Ψ : SV → List Reg → Prop} {np : Nat} {s : SV} {M : Mem} (S : SV) (Rs' : List Reg) (ρl : List Nat) (h : Ψ S Rs') (hk : keepsL np 0 ρl) (hd : ρl.Nodup) (hs : ∀ N : Nat, s.sub (S.ren fun i => (ρl[i]?).getD N)) (hr : ∀ N : Nat, gexpR M (fun i => (ρl[i]?).getD N) ρl Rs') : gxe Ψ np s M :=
  ⟨S, Rs', ρl, h, hk, hd, fun N => ⟨hs N, hr N⟩⟩
theorem ownX_of_GC (hT : TabOK P T) {f : FuncId} {fn : Func} (hf : P.funcs[f]? = some fn) {c : Code} (hb : fn.body = some c) (hn : (fn.name == "runtime.NumGoroutine") = false) {args : List SV} (hlen : args.length ≤ fn.ntmps) {Rs : List Reg} {Ψ : SV → List Reg → Prop}
    {N : Nat} {rs : List ResultVar} (hN : fn.ntmps = N) (hrs : fn.results.toList = rs) (np : Nat) (hnp : np ≤ Rs.length) (h : GC P T ⟨N, np⟩ c [] (gret T rs (gxe Ψ np)) (env0 args) (memR Rs) Rs.length) : OwnX P np f Rs args Ψ := by
  subst hN; subst hrs
  intro B σ w vs hm ha
  refine ⟨enter_run hf hb hn _, ?_⟩
  refine (calls_of_gexec hT hf hb hlen hnp hm ha h).mono fun e w' h' => ?_
  obtain ⟨s, y, σ', M', nx', rfl, ⟨S, Rs', ρl, hΨ, hk, h1, h2⟩, hrel, hm', hfr, hpin⟩ := h'
  obtain ⟨h3, h4⟩ := h2 nx'
  obtain ⟨m1, m2⟩ := hm'.export (hm'.fresh nx' (Nat.le_refl nx')) h1 h4
  refine ⟨S, Rs', y, _, hΨ, rfl, m1, SV.rel_mono (fun _ _ h => h) (fun b hb => ⟨m2 b hb, rfl⟩) _ _ ((SV.rel_ren _ _).1 (SV.sub_rel _ _ _ h3 hrel)), ⟨hfr.os, hfr.tape, hfr.output, hfr.size, hfr.block⟩, fun r hr => ?_⟩
  have := keepsL_get hk r hr
  simp only [this, Nat.zero_add, Option.getD_some]
  exact hpin r hr
theorem OwnS.toX {np : Nat} {f : FuncId} {Rs Rs' : List Reg} {args : List SV} {S : SV} (h : OwnS P np f Rs args S Rs') : OwnX P np f Rs args fun s rs => s = S ∧ rs = Rs' := fun B σ w vs hm ha => by
  obtain ⟨h1, h2⟩ := h B σ w vs hm ha
  exact ⟨h1, h2.mono fun e w' ⟨y, σ', a, b⟩ => ⟨S, Rs', y, σ', ⟨rfl, rfl⟩, a, b⟩⟩
theorem OwnX.mono {np : Nat} {f : FuncId} {Rs : List Reg} {args : List SV} {Ψ Ψ' : SV → List Reg → Prop} (h : OwnX P np f Rs args Ψ) (hi : ∀ s r, Ψ s r → Ψ' s r) : OwnX P np f Rs args Ψ' := fun B σ w vs hm ha => by
  obtain ⟨h1, h2⟩ := h B σ w vs hm ha
  exact ⟨h1, h2.mono fun e w' ⟨S, Rs', y, σ', c, d⟩ => ⟨S, Rs', y, σ', hi _ _ c, d⟩⟩
/-- A call under a contract whose result is known by a relation. -/
theorem callK_ownX {np cp : Nat} {f : FuncId} {Rs : List Reg} {args0 args : List SV} {Ψ : SV → List Reg → Prop} {M : Mem} {nx : Nat} {K : SV → Mem → Nat → (SV → SV) → Prop} (ρl : List Nat) (hp : OwnX P cp f Rs args0 Ψ) (hcp : cp ≤ Rs.length) (hnd : ρl.Nodup)
    (ha : args = SV.renL (fun i => (ρl[i]?).getD nx) args0) (hM : atM M (fun i => (ρl[i]?).getD nx) ρl Rs)
    (hK : ∀ S Rs', Ψ S Rs' → K (S.ren (renS cp nx ρl)) (addS (renS cp nx ρl) 0 Rs' (dropM ρl M)) (nx + Rs'.length) id) : CallK P np f args M nx K := by
  intro B W n0 σ w vs hm hn0 hnp hrel
  obtain ⟨hlen, hget⟩ := atM_get hM
  have hget' : ∀ (i : Nat) (R : Reg), memR Rs i = some R → ∃ q, ρl[i]? = some q ∧ M q = some (R.ren fun i => (ρl[i]?).getD nx) := fun i R h => hget i R (by rw [← memR_get]; exact h)
  let σ1 : Sig := fun i => σ ((ρl[i]?).getD nx)
  have hσ1 : ∀ i q, ρl[i]? = some q → σ1 i = σ q := fun i q h => by simp [σ1, h]
  have hW : ∀ b, Wof σ1 (memR Rs) b → ∃ q R L, q ∈ ρl ∧ M q = some R ∧ σ q = some L ∧ L.at_ = some b := by
    rintro b ⟨r, R, L, h1, h2, h3⟩
    obtain ⟨q, e1, e2⟩ := hget' r R h1
    rw [hσ1 r q e1] at h2
    exact ⟨q, _, L, List.mem_of_getElem? e1, e2, h2, h3⟩
  have hW' : ∀ q R L b, q ∈ ρl → M q = some R → σ q = some L → L.at_ = some b → Wof σ1 (memR Rs) b := by
    intro q R L b h1 h2 h3 h4
    obtain ⟨i, hi, rfl⟩ := List.getElem_of_mem h1
    have e0 : ρl[i]? = some ρl[i] := List.getElem?_eq_getElem hi
    exact ⟨i, Rs[i]'(by omega), L, by rw [memR_get]; exact List.getElem?_eq_getElem (by omega), by rw [hσ1 i _ e0]; exact h3, h4⟩
  let B1 : Nat → Prop := fun b => Zof B σ M w b ∨ Wof σ1 (memR Rs) b ∨ w.heap.size ≤ b
  have hz1 : ∀ b, Zof B σ M w b → Zof B1 σ1 (memR Rs) w b := fun b hb => ⟨⟨hb.1.1, .inl hb⟩, fun r R L h1 h2 h3 => by
    obtain ⟨q, e1, e2⟩ := hget' r R h1
    rw [hσ1 r q e1] at h2
    exact hb.2 q _ L e2 h2 h3⟩
  have hm1 : MOK B1 (Wof σ1 (memR Rs)) w.heap.size σ1 (memR Rs) (From Rs.length) w := by
    refine ⟨fun b hb => .inr (hb.symm), fun r hr => ?_, fun r R h => ?_, fun r r' R R' L L' b h1 h2 h3 h4 h5 h6 => ?_, fun r R L b h1 h2 h3 => .inl ⟨r, R, L, h1, h2, h3⟩⟩
    · have : ρl[r]? = none := List.getElem?_eq_none (by have : Rs.length ≤ r := hr; omega)
      simp [σ1, this, hm.fresh nx (Nat.le_refl nx)]
    · obtain ⟨q, e1, e2⟩ := hget' r R h
      obtain ⟨L, g1, g2⟩ := hm.reg q _ e2
      refine ⟨L, by rw [hσ1 r q e1]; exact g1, ?_⟩
      exact (RegOK_ren.1 g2).mono (fun _ _ h => h) (fun b hb => ⟨hz1 b hb, rfl⟩) (fun _ _ => rfl)
    · obtain ⟨q, e1, e2⟩ := hget' r R h1
      obtain ⟨q', e3, e4⟩ := hget' r' R' h2
      rw [hσ1 r q e1] at h3
      rw [hσ1 r' q' e3] at h4
      have := hm.inj q q' _ _ L L' b e2 e4 h3 h4 h5 h6
      subst this
      obtain ⟨l1, l2⟩ := List.getElem?_eq_some_iff.1 e1
      obtain ⟨l3, l4⟩ := List.getElem?_eq_some_iff.1 e3
      exact nodup_inj hnd l1 l3 (l2.trans l4.symm)
  have ha1 : SV.relL σ1 (Zof B1 σ1 (memR Rs) w) w args0 vs := by
    rw [ha] at hrel
    exact SV.relL_mono (fun _ _ h => h) (fun b hb => ⟨hz1 b hb, rfl⟩) _ _ ((SV.relL_ren _ _).1 hrel)
  obtain ⟨c1, c2⟩ := hp B1 σ1 w vs hm1 ha1
  refine .inl ⟨c1, c2.mono fun e w' h' => ?_⟩
  obtain ⟨S, Rs', y, σ', hΨ, rfl, hm', hr, hf, hpin⟩ := h'
  have hBW : ∀ b, Wof σ1 (memR Rs) b → W b ∨ n0 ≤ b := fun b hb => by
    obtain ⟨q, R, L, h1, h2, h3, h4⟩ := hW b hb
    exact hm.own q R L b h2 h3 h4
  have hB : ∀ b, B1 b → B b := fun b hb => by
    rcases hb with hb | hb | hb
    · exact hb.1.2
    · exact hm.newB b (hBW b hb).symm
    · exact hm.newB b (.inl (by omega))
  let ρ : Nat → Nat := renS cp nx ρl
  let σ2 : Sig := fun r => if nx ≤ r then σ' (r - nx) else σ r
  let M2 : Mem := addS ρ 0 Rs' (dropM ρl M)
  have hltσ : ∀ r L, σ r = some L → r < nx := fun r L h => by
    rcases Nat.lt_or_ge r nx with h1 | h1
    · exact h1
    · rw [hm.fresh r h1] at h; cases h
  have hσ2' : ∀ i, σ2 (ρ i) = σ' i := by
    intro i
    show σ2 (renS cp nx ρl i) = _
    unfold renS
    by_cases hi : i < cp
    · rw [if_pos hi, hpin i hi]
      have hil : i < ρl.length := by omega
      have e0 : ρl[i]? = some ρl[i] := List.getElem?_eq_getElem hil
      rw [e0]
      have hR : memR Rs i = some (Rs[i]'(by omega)) := by rw [memR_get]; exact List.getElem?_eq_getElem (by omega)
      obtain ⟨q, e1, e2⟩ := hget' i _ hR
      rw [e0] at e1; cases e1
      obtain ⟨L, g1, _⟩ := hm.reg _ _ e2
      have hlt := hltσ _ _ g1
      simp only [Option.getD_some]
      rw [hσ1 i _ e0]
      exact if_neg (by omega)
    · rw [if_neg hi]
      simp [σ2]
  have hσ2 : (fun i => σ2 (ρ i)) = σ' := by
    funext i; exact hσ2' i
  have hs2 : SigLe σ σ2 := fun r L h => by
    show (if nx ≤ r then _ else _) = _
    rw [if_neg]
    · exact h
    · intro hr
      rw [hm.fresh r hr] at h; cases h
  -- what a region is now: one of those that came back, or one of the old ones that were not given up
  have hk2 : ∀ r R, M2 r = some R → (∃ i R', r = ρ i ∧ memR Rs' i = some R' ∧ R = R'.ren ρ) ∨ (r ∉ ρl ∧ M r = some R ∧ r < nx) := by
    intro r R h
    rcases addS_get ρ Rs' 0 _ r R h with ⟨j, R', h1, h2, h3⟩ | ⟨h1, h2⟩
    · exact .inl ⟨j, R', by simpa using h2, by rw [memR_get]; exact h1, h3⟩
    · rw [dropM_at] at h1
      split at h1
      · cases h1
      · rename_i hr
        obtain ⟨L, g1, _⟩ := hm.reg r R h1
        exact .inr ⟨hr, h1, hltσ r L g1⟩
  have holdW : ∀ r R L b, r ∉ ρl → M r = some R → σ r = some L → L.at_ = some b → b < w.heap.size ∧ ¬ Wof σ1 (memR Rs) b := by
    intro r R L b h1 h2 h3 h4
    obtain ⟨L', g1, g2⟩ := hm.reg r R h2
    rw [h3] at g1; cases g1
    refine ⟨g2.block h4, fun hb => ?_⟩
    obtain ⟨q, R1, L1, q1, q2, q3, q4⟩ := hW b hb
    exact h1 (by rw [hm.inj r q R R1 L L1 b h2 q2 h3 q3 h4 q4]; exact q1)
  have hnew : ∀ i R L b, memR Rs' i = some R → σ' i = some L → L.at_ = some b → Wof σ1 (memR Rs) b ∨ w.heap.size ≤ b := fun i R L b h1 h2 h3 => hm'.own i R L b h1 h2 h3
  have hZW : ∀ b, Zof B σ M w b → ¬ Wof σ1 (memR Rs) b := fun b hb h => by
    obtain ⟨q, R1, L1, q1, q2, q3, q4⟩ := hW b h
    exact hb.2 q R1 L1 q2 q3 q4
  have hz2 : ∀ b, Zof B σ M w b → Zof B σ2 M2 w' b := fun b hb => ⟨⟨Nat.lt_of_lt_of_le hb.1.1 hf.size, hb.1.2⟩, fun r R L h1 h2 h3 => by
    rcases hk2 r R h1 with ⟨i, R', rfl, e1, _⟩ | ⟨e1, e2, e3⟩
    · rw [hσ2' i] at h2
      rcases hnew i R' L b e1 h2 h3 with h | h
      · exact hZW b hb h
      · have := hb.1.1; omega
    · have : σ2 r = σ r := if_neg (by omega)
      rw [this] at h2
      exact hb.2 r R L e2 h2 h3⟩
  have hkeep : Keep (Zof B σ M w) (Zof B σ2 M2 w') w w' := fun b hb => ⟨hz2 b hb, hf.block b hb.1.1 (hZW b hb)⟩
  have hz3 : ∀ b, Zof B1 σ' (memR Rs') w' b → Zof B σ2 M2 w' b := fun b hb => ⟨⟨hb.1.1, hB b hb.1.2⟩, fun r R L h1 h2 h3 => by
    rcases hk2 r R h1 with ⟨i, R', rfl, e1, _⟩ | ⟨e1, e2, e3⟩
    · rw [hσ2' i] at h2
      exact hb.2 i R' L e1 h2 h3
    · have : σ2 r = σ r := if_neg (by omega)
      rw [this] at h2
      obtain ⟨g1, g2⟩ := holdW r R L b e1 e2 h2 h3
      rcases hb.1.2 with h | h | h
      · exact h.2 r R L e2 h2 h3
      · exact g2 h
      · omega⟩
  refine ⟨y, S.ren ρ, M2, nx + Rs'.length, σ2, id, rfl, hK S Rs' hΨ, ⟨hm.newB, fun r hr => ?_, fun r R h => ?_, fun r r' R R' L L' b h1 h2 h3 h4 h5 h6 => ?_, fun r R L b h1 h2 h3 => ?_⟩, hkeep, ?_, fun t z hz => SV.rel_mono hs2 hkeep _ _ hz, ⟨hf.os, hf.tape, hf.output, hf.size, fun b hb hw => hf.block b (by omega) fun h => ?_⟩, by omega, fun r hr => if_neg (by omega)⟩
  · have hr' : nx + Rs'.length ≤ r := hr
    show (if nx ≤ r then _ else _) = _
    rw [if_pos (by omega)]
    exact hm'.fresh (r - nx) (show Rs'.length ≤ r - nx by omega)
  · rcases hk2 r R h with ⟨i, R', rfl, e1, rfl⟩ | ⟨e1, e2, e3⟩
    · obtain ⟨L, g1, g2⟩ := hm'.reg i R' e1
      refine ⟨L, by rw [hσ2' i]; exact g1, ?_⟩
      refine RegOK_ren.2 ?_
      rw [hσ2]
      exact g2.mono (fun _ _ h => h) (fun b hb => ⟨hz3 b hb, rfl⟩) (fun _ _ => rfl)
    · obtain ⟨L, g1, g2⟩ := hm.reg r R e2
      refine ⟨L, hs2 _ _ g1, g2.mono hs2 hkeep fun b hb => ?_⟩
      obtain ⟨q1, q2⟩ := holdW r R L b e1 e2 g1 hb
      exact hf.block b q1 q2
  · rcases hk2 r R h1 with ⟨i, R1, rfl, e1, _⟩ | ⟨e1, e2, e3⟩
    · have g3 : σ' i = some L := by rw [← hσ2' i]; exact h3
      rcases hk2 r' R' h2 with ⟨i', R2, rfl, e1', _⟩ | ⟨e1', e2', e3'⟩
      · have g4 : σ' i' = some L' := by rw [← hσ2' i']; exact h4
        rw [hm'.inj i i' R1 R2 L L' b e1 e1' g3 g4 h5 h6]
      · exfalso
        have : σ2 r' = σ r' := if_neg (by omega)
        rw [this] at h4
        obtain ⟨q1, q2⟩ := holdW r' R' L' b e1' e2' h4 h6
        rcases hnew i R1 L b e1 g3 h5 with h | h
        · exact q2 h
        · omega
    · have g3 : σ r = some L := by
        have : σ2 r = σ r := if_neg (by omega)
        rw [← this]; exact h3
      rcases hk2 r' R' h2 with ⟨i', R2, rfl, e1', _⟩ | ⟨e1', e2', e3'⟩
      · exfalso
        have g4 : σ' i' = some L' := by rw [← hσ2' i']; exact h4
        obtain ⟨q1, q2⟩ := holdW r R L b e1 e2 g3 h5
        rcases hnew i' R2 L' b e1' g4 h6 with h | h
        · exact q2 h
        · omega
      · have : σ2 r' = σ r' := if_neg (by omega)
        rw [this] at h4
        exact hm.inj r r' R R' L L' b e2 e2' g3 h4 h5 h6
  · rcases hk2 r R h1 with ⟨i, R1, rfl, e1, _⟩ | ⟨e1, e2, e3⟩
    · have g3 : σ' i = some L := by rw [← hσ2' i]; exact h2
      rcases hnew i R1 L b e1 g3 h3 with h | h
      · exact hBW b h
      · right; omega
    · have : σ2 r = σ r := if_neg (by omega)
      rw [this] at h2
      exact hm.own r R L b e2 h2 h3
  · refine (SV.rel_ren _ _).2 ?_
    rw [hσ2]
    exact SV.rel_mono (fun _ _ h => h) (fun b hb => ⟨hz3 b hb, rfl⟩) _ _ hr
  · rcases hBW b h with h | h
    · exact hw h
    · omega
end

/-! ### a region under another number -/
mutual
def SV.mv (p q : Nat) : SV → SV
  | .r x => .r x
  | .ptr z row k fld => if z = p then .ptr q row k fld else if z = q then .r .any else .ptr z row k fld
  | .sl z k lo n c => if z = p then .sl q k lo n c else if z = q then .r .any else .sl z k lo n c
  | .mp z => if z = p then .mp q else if z = q then .r .any else .mp z
  | .fn f fi ca => .fn f (SV.mvL p q fi) (SV.mvL p q ca)
  | .agg l => .agg (SV.mvL p q l)
  | .tup l => .tup (SV.mvL p q l)
def SV.mvL (p q : Nat) : List SV → List SV
  | [] => []
  | s :: l => s.mv p q :: SV.mvL p q l
end
def Reg.mv (p q : Nat) : Reg → Reg
  | .box l => .box (SV.mvL p q l)
  | .vec e k n g => .vec e k n fun i j => (g i j).mv p q
  | .map has val st => .map has (fun a => (val a).mv p q) st
  | .iter m f c all left la => .iter (m.mv p q) f c all left la
def mvM (p q : Nat) (M : Mem) : Mem := fun r => if r = q then (M p).map (Reg.mv p q) else if r = p then none else (M r).map (Reg.mv p q)
attribute [go_sem] SV.mv SV.mvL Reg.mv mvM
@[go_sem] theorem SV.mv_ite (p q : Nat) (c : Prop) [Decidable c] (x y : SV) : SV.mv p q (if c then x else y) = if c then x.mv p q else y.mv p q := by split <;> rfl

section
variable {σ σ' : Sig} {Z Z' : Nat → Prop} {w : World} {p q : Nat}
mutual
theorem SV.rel_mv (hp : σ' q = σ p) (hs : ∀ r, r ≠ p → r ≠ q → σ' r = σ r) (hz : ∀ b, Z b → Z' b) : ∀ (s : SV) (y : Value), s.rel σ Z w y → (s.mv p q).rel σ' Z' w y
  | .r x, y, h => by
    unfold SV.mv
    exact RV.rel_mono (fun b hb => ⟨hz b hb, rfl⟩) x y h
  | .ptr z row k fld, y, h => by
    unfold SV.mv
    obtain ⟨L, b, h1, h2, h3⟩ := h
    split
    · rename_i e; subst e; exact ⟨L, b, hp.trans h1, h2, h3⟩
    · split
      · trivial
      · rename_i e1 e2; exact ⟨L, b, (hs z e1 e2).trans h1, h2, h3⟩
  | .sl z k lo n c, y, h => by
    unfold SV.mv
    obtain ⟨L, A, h1, h2⟩ := h
    split
    · rename_i e; subst e; exact ⟨L, A, hp.trans h1, h2⟩
    · split
      · trivial
      · rename_i e1 e2; exact ⟨L, A, (hs z e1 e2).trans h1, h2⟩
  | .mp z, y, h => by
    unfold SV.mv
    obtain ⟨L, b, h1, h2, h3⟩ := h
    split
    · rename_i e; subst e; exact ⟨L, b, hp.trans h1, h2, h3⟩
    · split
      · trivial
      · rename_i e1 e2; exact ⟨L, b, (hs z e1 e2).trans h1, h2, h3⟩
  | .fn f fi ca, y, h => by
    obtain ⟨vs, ws, e, h1, h2⟩ := h
    exact ⟨vs, ws, e, SV.relL_mv hp hs hz _ _ h1, SV.relL_mv hp hs hz _ _ h2⟩
  | .agg l, y, h => by
    obtain ⟨vs, e, h1, h2⟩ := h
    exact ⟨vs, e, h1, SV.relL_mv hp hs hz _ _ h2⟩
  | .tup l, y, h => by
    obtain ⟨vs, e, h2⟩ := h
    exact ⟨vs, e, SV.relL_mv hp hs hz _ _ h2⟩
theorem SV.relL_mv (hp : σ' q = σ p) (hs : ∀ r, r ≠ p → r ≠ q → σ' r = σ r) (hz : ∀ b, Z b → Z' b) : ∀ (l : List SV) (ys : List Value), SV.relL σ Z w l ys → SV.relL σ' Z' w (SV.mvL p q l) ys
  | [], ys, h => h
  | s :: l, ys, h => by
    obtain ⟨v, vs', e, h1, h2⟩ := h
    exact ⟨v, vs', e, SV.rel_mv hp hs hz s v h1, SV.relL_mv hp hs hz l vs' h2⟩
end
theorem RegOK.mv {L : Loc} {R : Reg} (hp : σ' q = σ p) (hs : ∀ r, r ≠ p → r ≠ q → σ' r = σ r) (hz : ∀ b, Z b → Z' b) (h : RegOK σ Z w L R) : RegOK σ' Z' w L (R.mv p q) := by
  cases R with
  | box l =>
    obtain ⟨b', cs, ty, h1, h2, h3, h4⟩ := h
    exact ⟨b', cs, ty, h1, h2, h3, SV.relL_mv hp hs hz _ _ h4⟩
  | vec e k n g =>
    obtain ⟨h0, hm, h | ⟨b', cs, h1, h2, h3, ho, h5⟩⟩ := h
    · exact ⟨h0, hm, .inl h⟩
    · refine ⟨h0, hm, .inr ⟨b', cs, h1, h2, h3, ho, fun i j hi hj => ?_⟩⟩
      obtain ⟨v, hv, ho, hr⟩ := h5 i j hi hj
      exact ⟨v, hv, ho, SV.rel_mv hp hs hz _ _ hr⟩
  | map has val st =>
    obtain ⟨b', es, ck, h1, h2, h3, h4⟩ := h
    exact ⟨b', es, ck, h1, h2, h3.mono fun a v _ hv => SV.rel_mv hp hs hz _ _ hv, h4⟩
  | iter m f c all left la =>
    obtain ⟨b', mo, seen, sp, h1, h2, h3, h4, h5⟩ := h
    exact ⟨b', mo, seen, sp, h1, h2, h3, SV.rel_mv hp hs hz _ _ h4, h5⟩
end
theorem GSt.move {N : Cfg} {E : Env} {M : Mem} {nx : Nat} (p q : Nat) (hpq : p ≠ q) (hp : N.np ≤ p) (hq : N.np ≤ q) (hqx : q < nx) : GSt N E M nx (fun t => (E t).mv p q) (mvM p q M) nx := by
  intro B W w0 σ a w h
  let σ' : Sig := fun r => if r = q then σ p else if r = p then none else σ r
  have e1 : σ' q = σ p := if_pos rfl
  have e2 : ∀ r, r ≠ p → r ≠ q → σ' r = σ r := fun r h1 h2 => by
    show (if r = q then _ else _) = _
    rw [if_neg h2, if_neg h1]
  have hk : ∀ r R', mvM p q M r = some R' → (r = q ∧ ∃ R, M p = some R ∧ R' = R.mv p q) ∨ (r ≠ q ∧ r ≠ p ∧ ∃ R, M r = some R ∧ R' = R.mv p q) := by
    intro r R' h
    unfold mvM at h
    split at h
    · rename_i e
      cases hq : M p with
      | none => rw [hq] at h; cases h
      | some R => rw [hq] at h; cases h; exact .inl ⟨e, R, rfl, rfl⟩
    · split at h
      · cases h
      · rename_i e e'
        cases hq : M r with
        | none => rw [hq] at h; cases h
        | some R => rw [hq] at h; cases h; exact .inr ⟨e, e', R, rfl, rfl⟩
  have hk' : ∀ r R' L, mvM p q M r = some R' → σ' r = some L → ∃ r0 R, M r0 = some R ∧ R' = R.mv p q ∧ σ r0 = some L ∧ (r = q ∧ r0 = p ∨ r ≠ q ∧ r ≠ p ∧ r0 = r) := by
    intro r R' L h1 h2
    rcases hk r R' h1 with ⟨rfl, R, h3, h4⟩ | ⟨h5, h6, R, h3, h4⟩
    · exact ⟨p, R, h3, h4, by rw [← e1]; exact h2, .inl ⟨rfl, rfl⟩⟩
    · exact ⟨r, R, h3, h4, by rw [← e2 r h6 h5]; exact h2, .inr ⟨h5, h6, rfl⟩⟩
  have hz : ∀ b, Zof B σ M w b → Zof B σ' (mvM p q M) w b := fun b hb => ⟨hb.1, fun r R' L h1 h2 h3 => by
    obtain ⟨r0, R, g1, _, g3, _⟩ := hk' r R' L h1 h2
    exact hb.2 r0 R L g1 g3 h3⟩
  refine ⟨σ', fun t => SV.rel_mv e1 e2 hz _ _ (h.env t), ⟨h.mem.newB, fun r hr => ?_, fun r R' h1 => ?_, fun r r' R R' L L' b h1 h2 h3 h4 h5 h6 => ?_, fun r R' L b h1 h2 h3 => ?_⟩, h.fr, h.defers, h.size, h.low, fun r hr => ?_⟩
  · have hr' : nx ≤ r := hr
    by_cases e : r = p
    · subst e
      show (if r = q then _ else if r = r then none else _) = none
      rw [if_neg hpq, if_pos rfl]
    · rw [e2 r e (by omega)]
      exact h.mem.fresh r hr
  · rcases hk r R' h1 with ⟨rfl, R, h3, rfl⟩ | ⟨h5, h6, R, h3, rfl⟩
    · obtain ⟨L, g1, g2⟩ := h.mem.reg p R h3
      exact ⟨L, by rw [e1]; exact g1, g2.mv e1 e2 hz⟩
    · obtain ⟨L, g1, g2⟩ := h.mem.reg r R h3
      exact ⟨L, by rw [e2 r h6 h5]; exact g1, g2.mv e1 e2 hz⟩
  · obtain ⟨r0, R0, g1, _, g3, g4⟩ := hk' r R L h1 h3
    obtain ⟨r1, R1, k1, _, k3, k4⟩ := hk' r' R' L' h2 h4
    have := h.mem.inj r0 r1 R0 R1 L L' b g1 k1 g3 k3 h5 h6
    omega
  · obtain ⟨r0, R0, g1, _, g3, g4⟩ := hk' r R' L h1 h2
    exact h.mem.own r0 R0 L b g1 g3 h3
  · rw [e2 r (by omega) (by omega)]
    exact h.pin r hr
end Go.Gx
