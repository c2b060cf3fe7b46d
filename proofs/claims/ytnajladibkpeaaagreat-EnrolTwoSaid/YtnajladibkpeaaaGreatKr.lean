/-
  Loops and regions of open order whose state is told by a property of the memory.
-/
import Derived.Test.YtnajladibkpeaaaGreatKq
set_option linter.unusedVariables false
set_option linter.unusedSimpArgs false
namespace Go.Gx
open Go.RowKit
/-- Slots that hold what is listed. -/
def eqS (E : Env) : List (Nat × SV) → Prop
  | [] => True
  | p :: l => E p.1 = p.2 ∧ eqS E l
@[go_sem] theorem eqS_nil (E : Env) : eqS E [] = True := (rfl)
@[go_sem] theorem eqS_cons (E : Env) (t : Nat) (s : SV) (l : List (Nat × SV)) : eqS E ((t, s) :: l) = (E t = s ∧ eqS E l) := (rfl)
theorem eqS_all {E : Env} : ∀ {l : List (Nat × SV)}, eqS E l → ∀ p ∈ l, E p.1 = p.2
  | [], _, p, hp => by simp at hp
  | q :: l, h, p, hp => by
    rcases List.mem_cons.1 hp with rfl | hp
    · exact h.1
    · exact eqS_all h.2 p hp
theorem eqS_upd {E : Env} {l : List (Nat × SV)} (h : eqS E l) : updL E l = E := updL_self E l (eqS_all h)
section
variable {P : Program} {T : Tab} {N : Cfg} {k : List It} {Q : GQ} {E : Env} {M : Mem} {nx : Nat}
theorem gloopP {α : Type} {body : Code} {Q : Exit → Env → Mem → Nat → Prop} (S : α → List (Nat × SV)) (I : α → Mem → Nat → Prop) (μ : α → Nat) (x0 : α) (h0 : I x0 M nx) (hE : eqS E (S x0))
    (round : ∀ x J M nx, N.np ≤ nx → I x M nx → GW P N body (updL J (S x)) M nx (gseq (fun E' M' nx' => ∃ x', μ x' < μ x ∧ eqS E' (S x') ∧ I x' M' nx') Q)) : GW P N (.loop body) E M nx Q := by
  intro r hr B W w0 σ a w hs
  refine wpIn_loop_ghost (fun k a w => ∃ x, μ x = k ∧ ∃ E M nx σ', eqS E (S x) ∧ I x M nx ∧ St B W w0 N σ' E M nx a w) (μ x0) ⟨x0, rfl, E, M, nx, σ, hE, h0, hs⟩ fun k a w h => ?_
  obtain ⟨x, rfl, E, M, nx, σ', he, hi, hst⟩ := h
  have := round x E M nx hst.low hi
  rw [eqS_upd he] at this
  refine Code.wpIn_mono (fun e a' w' h' => ?_) (this r (hr.imp (fun h => h) fun h => by simpa [ndC] using h) B W w0 σ' a w hst)
  obtain ⟨E', M', nx', σ'', q, hs'⟩ := h'
  cases e with
  | normal =>
    obtain ⟨x', i1, i2, i3⟩ := q
    exact ⟨μ x', i1, x', rfl, _, _, _, _, i2, i3, hs'⟩
  | _ => exact ⟨E', M', nx', σ'', q, hs'⟩
def LP (P : Program) (T : Tab) (N : Cfg) {α : Type} (S : α → List (Nat × SV)) (I : α → Mem → Nat → Prop) (μ : α → Nat) (x : α) (k : List It) (Q : GQ) : GQ :=
  gseq (fun E' M' nx' => ∃ x', μ x' < μ x ∧ eqS E' (S x') ∧ I x' M' nx') (GK P T N k Q)
section
variable {α : Type} {S : α → List (Nat × SV)} {I : α → Mem → Nat → Prop} {μ : α → Nat} {x : α}
@[go_sem] theorem LP_normal : LP P T N S I μ x k Q .normal E M nx = ∃ x', μ x' < μ x ∧ eqS E (S x') ∧ I x' M nx := (rfl)
@[go_sem] theorem LP_exit (i : Nat) : LP P T N S I μ x k Q (.exit i) E M nx = GK P T N k Q (.exit i) E M nx := (rfl)
@[go_sem] theorem LP_ret : LP P T N S I μ x k Q .ret E M nx = GK P T N k Q .ret E M nx := (rfl)
end
/-- A loop told by a property of the memory at its head. -/
theorem GLoop_p (hT : TabOK P T) {α : Type} {c : Code} (S : α → List (Nat × SV)) (I : α → Mem → Nat → Prop) (μ : α → Nat) (x0 : α) (h0 : I x0 M nx) (hE : eqS E (S x0))
    (round : ∀ x J M nx, N.np ≤ nx → I x M nx → GC P T N c [] (LP P T N S I μ x k Q) (updL J (S x)) M nx) : GLoop P T N c k Q E M nx :=
  gloopP S I μ x0 h0 hE fun x J M nx hn hi => gexec_sound hT c _ _ _ _ (round x J M nx hn hi)
/-- What a leaf owes: slots, and a property of the memory. -/
def JP (S : List (Nat × SV)) (φ : Mem → Nat → Prop) : GQ := fun e E M nx => match e with
  | .normal => eqS E S ∧ φ M nx
  | _ => False
@[go_sem] theorem JP_normal (S : List (Nat × SV)) (φ : Mem → Nat → Prop) : JP S φ .normal E M nx = (eqS E S ∧ φ M nx) := (rfl)
/-- A region of open order, told behind it by slots and a property of the memory. -/
theorem GDraw_p (S : List (Nat × SV)) (φ : Mem → Nat → Prop) (hT : TabOK P T) (hm : P.follows .mixedOrders = true) {id : Nat} {all : Array Oper} {t : TL} (hsel : Region.noSelect all = true)
    (ht : TL.make all all.size (Array.replicate all.size false) [] = t) (hp : ∀ c E M nx, GK P T N k Q (.panic c) E M nx → False)
    (h : GUL P T N all t [] (JP S φ) E M nx) (hk : ∀ J M nx, φ M nx → GK P T N k Q .normal (updL J S) M nx) : GDraw P T N id all k Q E M nx :=
  gdraw_l hT hm hsel ht (φ := fun _ _ _ => True) (E' := E) hp (fun B W w0 E M nx σ a w hk0 hst => by
    have hk1 : eqS E S ∧ φ M nx := hk0
    exact ⟨E, M, nx, σ, by have := hk E M nx hk1.2; rwa [eqS_upd hk1.1] at this, hst⟩) h
end
section
variable {P : Program} {T : Tab} {N : Cfg} {k : List It} {Q : GQ} {E : Env} {M : Mem} {nx : Nat}
/-- A region, told behind it by slots and a property of the memory. -/
theorem GDraw_cut (S : List (Nat × SV)) (φ : Mem → Nat → Prop) {id : Nat} {all : Array Oper} (h : GDraw P T N id all [] (JP S φ) E M nx) (hk : ∀ J M nx, φ M nx → GK P T N k Q .normal (updL J S) M nx) : GDraw P T N id all k Q E M nx := by
  refine GW.mono h fun e E M nx hq => ?_
  match e, hq with
  | .normal, hq =>
    have hq : eqS E S ∧ φ M nx := hq
    have := hk E M nx hq.2
    rwa [eqS_upd hq.1] at this
end

/-- What is owed may be told of what is known in other words: regions frozen, moved, forgotten. -/
def vq (N : Cfg) (Q : GQ) : GQ := fun e E M nx => ∃ E1 M1 nx1, GSt N E M nx E1 M1 nx1 ∧ Q e E1 M1 nx1
section
variable {P : Program} {T : Tab} {N : Cfg} {k : List It} {Q : GQ} {E : Env} {M : Mem} {nx : Nat} {e : Exit}
theorem GSt.wk {M' : Mem} (hs : ∀ r, Reg.wk (M r) (M' r)) : GSt N E M nx E M' nx := fun B W w0 σ a w h => by
  obtain ⟨m1, m2⟩ := h.mem.wk hs
  exact ⟨σ, fun t => SV.rel_mono (fun _ _ h => h) (fun b hb => ⟨m2 b hb, rfl⟩) _ _ (h.env t), m1, h.fr, h.defers.keep fun b hb => ⟨m2 b hb, rfl⟩, h.size, h.low, h.pin, h.good⟩
theorem vq_done (h : Q e E M nx) : vq N Q e E M nx := ⟨E, M, nx, GSt.refl, h⟩
theorem vq_step {E1 : Env} {M1 : Mem} {nx1 : Nat} (hv : GSt N E M nx E1 M1 nx1) (h : vq N Q e E1 M1 nx1) : vq N Q e E M nx := by
  obtain ⟨E2, M2, nx2, h1, h2⟩ := h
  exact ⟨E2, M2, nx2, hv.trans h1, h2⟩
theorem GW.vq {c : Code} (h : GW P N c E M nx (Go.Gx.vq N Q)) : GW P N c E M nx Q := fun r hr B W w0 σ a w hs =>
  wpIn_mono (h r hr B W w0 σ a w hs) fun e a' w' ⟨E', M', nx', σ', ⟨E1, M1, nx1, hv, h1⟩, h2⟩ => by
    obtain ⟨σ1, h3⟩ := hv _ _ _ _ _ _ h2
    exact ⟨E1, M1, nx1, σ1, h1, h3⟩
/-- GLoop_p, the round's end told in other words. -/
theorem GLoop_pv (hT : TabOK P T) {α : Type} {c : Code} (S : α → List (Nat × SV)) (I : α → Mem → Nat → Prop) (μ : α → Nat) (x0 : α) (h0 : I x0 M nx) (hE : eqS E (S x0))
    (round : ∀ x J M nx, N.np ≤ nx → I x M nx → GC P T N c [] (Go.Gx.vq N (LP P T N S I μ x k Q)) (updL J (S x)) M nx) : GLoop P T N c k Q E M nx :=
  gloopP S I μ x0 h0 hE fun x J M nx hn hi => GW.vq (gexec_sound hT c _ _ _ _ (round x J M nx hn hi))
end
section
variable {P : Program} {T : Tab} {B W : Nat → Prop} {σ : Sig} {M : Mem} {nx : Nat} {w : World}
theorem calls_of_gw (hT : TabOK P T) {f : FuncId} {fn : Func} {c : Code} (hf : P.funcs[f]? = some fn) (hb : fn.body = some c) {args : List SV} {vs : List Value} (hlen : args.length ≤ fn.ntmps) {K : SV → Mem → Nat → Prop} {np : Nat} (hnp : np ≤ nx)
    {good : Gd} (hgood : good.p B W ⟨w, σ⟩)
    (hm : MOK B W w.heap.size σ M (From nx) w) (ha : SV.relL σ (Zof B σ M w) w args vs) (h : GW P ⟨fn.ntmps, np, good⟩ c (env0 args) M nx (gretn T fn.results.toList K)) :
    Calls P f vs.toArray w fun e w' => ∃ s y σ' M' nx', e = .returned y ∧ K s M' nx' ∧ s.rel σ' (Zof B σ' M' w') w' y ∧ MOK B W w.heap.size σ' M' (From nx') w' ∧ Fr W w w' ∧ np ≤ nx' ∧ ∀ r, r < np → σ' r = σ r := by
  have hl := SV.relL_length ha
  refine (callsIn_wide (n := 0)).1 (callsIn_of_wp_marks hf hb trivial (Code.wpIn_mono (fun e a' w' h' => ?_) (h none (.inl rfl) B W ⟨w, σ⟩ σ _ w ⟨fun t => env0_rel ha _ t, hm, Fr.refl W w, Marks.nil _ _ _ _, by simp; omega, hnp, fun _ _ => rfl, hgood⟩)))
  obtain ⟨E', M', nx', σ', q, hs⟩ := h'
  have fin : ∀ h : gvals T E' M' fn.results.toList (fun vs => K (gfin vs) M' nx'), LeavesInM Fence.wide 0 P fn a'.tmps (fun e w' => ∃ s y σ' M' nx', e = .returned y ∧ K s M' nx' ∧ s.rel σ' (Zof B σ' M' w') w' y ∧ MOK B W w.heap.size σ' M' (From nx') w' ∧ Fr W w w' ∧ np ≤ nx' ∧ ∀ r, r < np → σ' r = σ r) a'.defers .returning w' := by
    intro h
    obtain ⟨_, l, d1, d2, d3⟩ := hs.defers
    rw [d1]
    refine leavesM (n0 := w.heap.size) l w' d2 (fun D hD => ⟨(d3 D hD).1, (d3 D hD).2.2⟩) fun w'' ht => ?_
    have hm2 := hs.mem.turn ht
    obtain ⟨s, y, h1, h2, h3⟩ := run_results (w0 := ⟨w, σ⟩) hT (K := fun s => K s M' nx') hm2 (hs.env.turn ht) h
    exact ⟨y, h1, s, y, σ', M', nx', rfl, h3, h2, hm2, hs.fr.turn ht, hs.low, hs.pin⟩
  cases e with
  | ret => exact fin q
  | normal => exact fin q
  | _ => exact q.elim
/-- own_of_GC, the end told in other words. -/
theorem own_of_GV (hT : TabOK P T) {f : FuncId} {fn : Func} (hf : P.funcs[f]? = some fn) {c : Code} (hb : fn.body = some c) (hn : (fn.name == "runtime.NumGoroutine") = false) {args : List SV} (hlen : args.length ≤ fn.ntmps) {Rs Rs' : List Reg} {S : SV}
    {N : Nat} {rs : List ResultVar} (hN : fn.ntmps = N) (hrs : fn.results.toList = rs) (h : GC P T ⟨N, 0, noGood⟩ c [] (Go.Gx.vq ⟨N, 0, noGood⟩ (gret T rs fun s M => ∃ ρl, gexp M s ρl S Rs')) (env0 args) (memR Rs) Rs.length) : Own P f Rs args S Rs' := by
  subst hN; subst hrs
  intro B σ w vs hm ha
  refine ⟨enter_run hf hb hn _, ?_⟩
  rw [gret_eq] at h
  refine (calls_of_gw hT hf hb hlen (Nat.zero_le _) (good := noGood) trivial hm ha (GW.vq (gexec_sound hT c _ _ _ _ h))).mono fun e w' h' => ?_
  obtain ⟨s, y, σ', M', nx', rfl, ⟨ρl, h1, h2⟩, hrel, hm', hfr, _, hpin⟩ := h'
  obtain ⟨h3, h4⟩ := h2 nx'
  obtain ⟨m1, m2⟩ := hm'.export (hm'.fresh nx' (Nat.le_refl nx')) h1 h4
  exact ⟨y, _, rfl, m1, SV.rel_mono (fun _ _ h => h) (fun b hb => ⟨m2 b hb, rfl⟩) _ _ ((SV.rel_ren _ _).1 (SV.sub_rel _ _ _ h3 hrel)), ⟨hfr.os, hfr.tape, hfr.output, hfr.size, hfr.drawn, hfr.block⟩, fun r hr => absurd hr (Nat.not_lt_zero r)⟩
end
end Go.Gx
