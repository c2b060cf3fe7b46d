/-
  A loop over a function: the iterator is walked in the caller's memory; where it calls yield, the loop's body is walked in that memory.
-/
import Derived.Test.YtnajladibkpeaaaGreatKp
set_option linter.unusedVariables false
set_option linter.unusedSimpArgs false
namespace Go.Gx
open Go.RowKit

section
variable {P : Program} {T : Tab} {B W : Nat → Prop} {w0 : W0} {N : Cfg} {σ σ' : Sig} {M M' : Mem} {nx : Nat} {w w' : World} {a : Act} {E : Env}

theorem Wof_heap {n0 : Nat} {F : Nat → Prop} (hm : MOK B W n0 σ M F w) {b : Nat} (h : Wof σ M b) : ∃ o, w.heap[b]? = some o ∧ ¬ Inert (some o) := by
  obtain ⟨r, R, L, h1, h2, h3⟩ := h
  obtain ⟨L', e1, e2⟩ := hm.reg r R h1
  rw [h2] at e1; cases e1
  cases R with
  | box l => obtain ⟨b', cs, ty, g1, g2, _⟩ := e2; rw [h3] at g1; cases g1; exact ⟨_, g2, not_inert_cells⟩
  | vec e k n get =>
    obtain ⟨_, _, ⟨g1, _⟩ | ⟨b', cs, g1, g2, _⟩⟩ := e2
    · rw [h3] at g1; cases g1
    · rw [h3] at g1; cases g1; exact ⟨_, g2, not_inert_cells⟩
  | kmap kd has val st => obtain ⟨b', es, ck, g1, g2, _⟩ := e2; rw [h3] at g1; cases g1; exact ⟨_, g2, not_inert_map⟩
  | iter m f c all left la => obtain ⟨b', mo, seen, sp, g1, g2, _⟩ := e2; rw [h3] at g1; cases g1; exact ⟨_, g2, not_inert_iter⟩
/-- Blocks of no region stay, from a walk's start to its end. -/
theorem keep_walk {V : Nat → Prop} {F : Nat → Prop} {w1 : World} (hV : ∀ b, Zof B σ M w b → ¬ V b) (hm : MOK B V w.heap.size σ' M' F w') (hfr : Fr V w w') : Keep (Zof B σ M w) (Zof B σ' M' w') w w' := fun b hz => by
  have hnw := hV b hz
  have hsz : b < w.heap.size := hz.1.1
  refine ⟨⟨⟨Nat.lt_of_lt_of_le hsz hfr.size, hz.1.2⟩, fun r R L h1 h2 h3 => ?_⟩, hfr.block b hsz hnw⟩
  rcases hm.own r R L b h1 h2 h3 with h4 | h4
  · exact hnw h4
  · omega

/-- What is known where an iterator begins: the loop's record at l, the loop's slots. -/
structure RG (l : Nat) (n : Nat) (fn : FuncId) (ps : Array Tmp) (as b : Code) (Ec : Env) (Mc : Mem) (B W : Nat → Prop) (w0 : W0) : Prop where
  rcd : ∃ tmps D, w0.heap[l]? = some (.loop { state := .ready, pending := none, fn, tmps, params := ps, assign := as, body := b, defers := D }) ∧ tmps.size = n ∧ ∀ t, (Ec t).rel w0.pi (Zof B w0.pi Mc w0) w0 (tmps.getD t undef)
  wof : ∀ x, W x ↔ Wof w0.pi Mc x
  nw : ¬ W l
  bl : B l

def putPs (E : Env) : List Tmp → List SV → Env
  | p :: ps, s :: ss => putPs (upd E p s) ps ss
  | _, _ => E
@[go_sem] theorem putPs_nil (E : Env) (l : List SV) : putPs E [] l = E := by cases l <;> rfl
@[go_sem] theorem putPs_cons (E : Env) (p : Tmp) (ps : List Tmp) (s : SV) (ss : List SV) : putPs E (p :: ps) (s :: ss) = putPs (upd E p s) ps ss := (rfl)

theorem putPs_rel {Z : Nat → Prop} : ∀ (ps : List Tmp) (ss : List SV) (vs : List Value) (tmps : Array Value) (E : Env), (∀ t, (E t).rel σ Z w (tmps.getD t undef)) → SV.relL σ Z w ss vs → (∀ p ∈ ps, p < tmps.size) →
    (∀ t, (putPs E ps ss t).rel σ Z w (((ps.zip vs).foldl (fun tmps (t, a) => tmps.setIfInBounds t a) tmps).getD t undef)) ∧ ((ps.zip vs).foldl (fun tmps (t, a) => tmps.setIfInBounds t a) tmps).size = tmps.size
  | [], ss, vs, tmps, E, h, _, _ => by simpa [putPs_nil] using h
  | p :: ps, [], vs, tmps, E, h, hv, _ => by cases hv; simpa [putPs] using h
  | p :: ps, s :: ss, vs, tmps, E, h, hv, hp => by
    obtain ⟨v, vs', rfl, h1, h2⟩ := hv
    have hp0 := hp p (by simp)
    have h3 : ∀ t, (upd E p s t).rel σ Z w ((tmps.setIfInBounds p v).getD t undef) := fun t => by
      by_cases ht : t = p
      · subst ht
        rw [upd_same]
        have : (tmps.setIfInBounds t v).getD t undef = v := by simp [hp0]
        rw [this]; exact h1
      · rw [upd_ne _ _ ht]
        have : (tmps.setIfInBounds p v).getD t undef = tmps.getD t undef := by simp [Array.getElem?_setIfInBounds, Ne.symm ht]
        rw [this]; exact h t
    have := putPs_rel ps ss vs' (tmps.setIfInBounds p v) (upd E p s) h3 h2 (fun q hq => by simpa using hp q (by simp [hq]))
    simpa [putPs] using this

/-- A call of yield takes I from one element to the next. -/
def YieldsAt (P : Program) (N : Cfg) (l : Nat) {β : Type} (enc : β → List SV) (I : List β → Mem → Nat → Prop) (vs : List β) : Prop :=
  ∀ pre x, pre ++ [x] <+: vs → ∀ (d : Option Tmp) (f : Operand) (args : Array Operand) (tys : Array TypeId) (ty : TypeId) (pos : String) (af : Array Edge) (E : Env) (M : Mem) (nx : Nat) (K : Env → Mem → Nat → Prop),
    ev E f = .fn (.yield l) [] [] → args.toList.map (ev E) = enc x → dOK N.n d → I pre M nx →
    (∀ M' nx', N.np ≤ nx' → I (pre ++ [x]) M' nx' → K (envPut (trimE N.np E) d (.b true)) M' nx') →
    GOpW P N ⟨d, .call ⟨.value f, args, tys⟩, ty, pos, af, none⟩ E M nx K

/-- What a round owes. -/
def RQ (I : Mem → Nat → Prop) : GQ := fun e E M nx => match e with
  | .normal => I M nx
  | _ => False
@[go_sem] theorem RQ_normal (I : Mem → Nat → Prop) : RQ I .normal E M nx = I M nx := (rfl)

theorem relL_map_ev {σ : Sig} {Z : Nat → Prop} (he : EOK σ Z w E a) : ∀ (l : List Operand), SV.relL σ Z w (l.map (ev E)) (l.map a.eval)
  | [] => rfl
  | x :: l => ⟨_, _, rfl, ev_rel he x, relL_map_ev he l⟩

theorem yieldsAt_of {l : Nat} {n np : Nat} {fn : FuncId} {ps : Array Tmp} {as b : Code} {Ec : Env} {Mc : Mem} (hT : TabOK P T) (hN : N.good.p = RG l n fn ps as b Ec Mc) (hnp : N.np = np) {β : Type} {enc : β → List SV} {I : List β → Mem → Nat → Prop} {vs : List β}
    (hps : ∀ x, (enc x).length = ps.size) (hlt : ∀ p ∈ ps.toList, p < n) (hnd : ndC as = true ∧ ndC b = true)
    (round : ∀ pre x, pre ++ [x] <+: vs → ∀ M nx, np ≤ nx → I pre M nx → GC P T ⟨n, np, rdGood⟩ as [.code b] (RQ (I (pre ++ [x]))) (putPs (trimE np Ec) ps.toList (enc x)) M nx) :
    YieldsAt P N l enc I vs := by
  subst hnp
  intro pre x hpre d f args tys ty pos af E M nx K hf hargs hd hI hK B W w0 σ a w hs next Q hnext
  have hgood := hs.good
  rw [hN] at hgood
  obtain ⟨⟨tmps, D, hrec, hsz, hec⟩, hwof, hnW, hBl0⟩ := hgood
  have hl0 : l < w0.heap.size := heap_lt hrec
  have hl : w.heap[l]? = some (.loop { state := .ready, pending := none, fn, tmps, params := ps, assign := as, body := b, defers := D }) := (hs.fr.block l hl0 hnW).trans hrec
  -- the call of yield
  have hfv := ev_rel hs.env f
  rw [hf] at hfv
  obtain ⟨vs1, ws1, hfv, q1, q2⟩ := hfv
  cases q1; cases q2
  have harg : SV.relL σ (Zof B σ M w) w (enc x) (args.toList.map a.eval) := by rw [← hargs]; exact relL_map_ev hs.env _
  have hlen : (args.map a.eval).size = ps.size := by
    have := SV.relL_length harg
    rw [hps x] at this
    simpa using this
  have hy := run_yield (P := P) (args := args.map a.eval) hl (by simpa using hlen)
  have hrun : (execOp a.eval ⟨d, .call ⟨.value f, args, tys⟩, ty, pos, af, none⟩).run P w = .ok (.round l fn ((ps.zip (args.map a.eval)).foldl (fun tmps (t, a) => tmps.setIfInBounds t a) tmps) as b) w := by
    rw [← hy]
    simp [execOp, resolve, invoke, hfv, Deferred.ofValue]
  refine ⟨fun _ _ => trivial, ?_⟩
  show Oper.uponIn Fence.wide 0 P ⟨d, .call ⟨.value f, args, tys⟩, ty, pos, af, none⟩ a next Q ((execOp a.eval ⟨d, .call ⟨.value f, args, tys⟩, ty, pos, af, none⟩).run P w)
  rw [hrun, Oper.uponIn_round]
  refine ⟨by simp [Fence.wide], roundIn_of_wpIn trivial ?_⟩
  -- where the round begins
  have hZ : ∀ x, Zof B w0.pi Mc w0 x → ¬ W x := fun x hx hw => by
    obtain ⟨r, R, L, h1, h2, h3⟩ := (hwof x).1 hw
    exact hx.2 r R L h1 h2 h3
  have hk0 : Keep (Zof B w0.pi Mc w0) (Zof B σ M w) w0 w := keep_walk (w1 := w) hZ hs.mem hs.fr
  have he : ∀ t, (trimE N.np Ec t).rel σ (Zof B σ M w) w (tmps.getD t undef) := fun t => SV.rel_trim (fun r L hr hL => by rw [hs.pin r hr]; exact hL) hk0 _ _ (hec t)
  obtain ⟨hpe, hpsz⟩ := putPs_rel ps.toList (enc x) (args.toList.map a.eval) tmps (trimE N.np Ec) he harg (fun p hp => by rw [hsz]; exact hlt p hp)
  have hfold : (ps.zip (args.map a.eval)).foldl (fun tmps (t, a) => tmps.setIfInBounds t a) tmps = (ps.toList.zip (args.toList.map a.eval)).foldl (fun tmps (t, a) => tmps.setIfInBounds t a) tmps := by
    rw [← Array.foldl_toList]; simp
  rw [hfold]
  have hBl : ∀ b, Wof σ M b → B b := fun b ⟨r, R, L, h1, h2, h3⟩ => hs.mem.newB b (hs.mem.own r R L b h1 h2 h3).symm
  have hWof : ∀ b, Wof σ M b → W b ∨ w0.heap.size ≤ b := fun b ⟨r, R, L, h1, h2, h3⟩ => hs.mem.own r R L b h1 h2 h3
  have hst : St B (Wof σ M) ⟨w, σ⟩ ⟨n, N.np, rdGood⟩ σ (putPs (trimE N.np Ec) ps.toList (enc x)) M nx { tmps := (ps.toList.zip (args.toList.map a.eval)).foldl (fun tmps (t, a) => tmps.setIfInBounds t a) tmps, defers := [] } w :=
    ⟨hpe, ⟨fun b hb => hb.elim (fun hb => hs.mem.newB b (.inl (Nat.le_trans hs.fr.size hb))) (hBl b), hs.mem.fresh, hs.mem.reg, hs.mem.inj, fun r R L b h1 h2 h3 => .inl ⟨r, R, L, h1, h2, h3⟩⟩, Fr.refl _ w, Marks.nil _ _ _ _, hpsz.trans hsz, hs.low, fun _ _ => rfl, trivial⟩
  have hnl : ∀ {σ M}, MOK B W w0.heap.size σ M (From nx) w → True := fun _ => trivial
  refine Code.wpIn_mono (fun e a1 w1 h1 => ?_) (gexec_sound hT as _ _ _ _ (round pre x hpre M nx hs.low hI) (some l) (.inr hnd.1) B (Wof σ M) ⟨w, σ⟩ σ _ w hst)
  obtain ⟨E1, M1, nx1, σ1, g1, hs1⟩ := h1
  have hne : e = .normal := by cases e <;> first | rfl | exact (show False from g1).elim
  subst hne
  have hil : Inert w.heap[l]? := ⟨_, hl, trivial⟩
  have hnl0 : ¬ Wof σ M l := fun h => by
    obtain ⟨o, h1, h2⟩ := Wof_heap hs.mem h
    rw [hl] at h1; cases h1
    exact h2 ⟨_, rfl, trivial⟩
  have hlw : l < w.heap.size := heap_lt hl
  have hl1 : w1.heap[l]? = some (.loop { state := .ready, pending := none, fn, tmps, params := ps, assign := as, body := b, defers := D }) := (hs1.fr.block l hlw hnl0).trans hl
  refine ⟨_, run_beginRound hl1 rfl, ?_⟩
  -- the body
  have ht1 : Turn l w1 (w1.putObj l (.loop { state := .busy, pending := none, fn, tmps, params := ps, assign := as, body := b, defers := D })) := Turn.putObj (Nat.le_refl l) hl1 ⟨_, rfl, trivial⟩ ⟨_, rfl, trivial⟩
  generalize hw2 : w1.putObj l (.loop { state := .busy, pending := none, fn, tmps, params := ps, assign := as, body := b, defers := D }) = w2 at ht1
  have hl2 : w2.heap[l]? = some (.loop { state := .busy, pending := none, fn, tmps, params := ps, assign := as, body := b, defers := D }) := by
    rw [← hw2]; exact World.putObj_heap_same (heap_lt hl1)
  have hm2 := hs1.mem.turn ht1
  have hst2 : St B (Wof σ1 M1) ⟨w2, σ1⟩ ⟨n, N.np, rdGood⟩ σ1 E1 M1 nx1 a1 w2 := by
    have hd : a1.defers = [] := hs1.defers.1 rfl
    refine ⟨hs1.env.turn ht1, ⟨fun b hb => ?_, hm2.fresh, hm2.reg, hm2.inj, fun r R L b h1 h2 h3 => .inl ⟨r, R, L, h1, h2, h3⟩⟩, Fr.refl _ w2, by rw [hd]; exact Marks.nil _ _ _ _, hs1.size, hs1.low, fun _ _ => rfl, trivial⟩
    rcases hb with hb | ⟨r, R, L, h1, h2, h3⟩
    · exact hm2.newB b (.inl (Nat.le_trans (by rw [ht1.size]; exact hs1.fr.size) hb))
    · exact hm2.newB b (hm2.own r R L b h1 h2 h3).symm
  refine Code.wpIn_mono (fun e a3 w3 h3 => ?_) (gexec_sound hT b _ _ _ _ g1 (some l) (.inr hnd.2) B (Wof σ1 M1) ⟨w2, σ1⟩ σ1 _ w2 hst2)
  obtain ⟨E3, M3, nx3, σ3, g3, hs3⟩ := h3
  have hne : e = .normal := by cases e <;> first | rfl | exact (show False from g3).elim
  subst hne
  have g3 : I (pre ++ [x]) M3 nx3 := g3
  have hnl1 : ¬ Wof σ1 M1 l := fun h => by
    obtain ⟨o, h1, h2⟩ := Wof_heap hm2 h
    rw [hl2] at h1; cases h1
    exact h2 ⟨_, rfl, trivial⟩
  have hl3 : w3.heap[l]? = some (.loop { state := .busy, pending := none, fn, tmps, params := ps, assign := as, body := b, defers := D }) := (hs3.fr.block l (heap_lt hl2) hnl1).trans hl2
  refine ⟨_, _, run_endRound none hl3, ?_⟩
  have ht3 : Turn l w3 (w3.putObj l (.loop { state := .ready, pending := none, fn, tmps, params := ps, assign := as, body := b, defers := D })) := Turn.putObj (Nat.le_refl l) hl3 ⟨_, rfl, trivial⟩ ⟨_, rfl, trivial⟩
  show next _ (w3.putObj l (.loop { state := .ready, pending := none, fn, tmps, params := ps, assign := as, body := b, defers := D }))
  generalize hw4 : w3.putObj l (.loop { state := .ready, pending := none, fn, tmps, params := ps, assign := as, body := b, defers := D }) = w4 at ht3
  have hl4 : w4.heap[l]? = some (.loop { state := .ready, pending := none, fn, tmps, params := ps, assign := as, body := b, defers := D }) := by
    rw [← hw4]; exact World.putObj_heap_same (heap_lt hl3)
  -- the frame
  have hW1 : ∀ b, Wof σ1 M1 b → Wof σ M b ∨ w.heap.size ≤ b := fun b ⟨r, R, L, h1, h2, h3⟩ => hs1.mem.own r R L b h1 h2 h3
  have hs12 : w.heap.size ≤ w2.heap.size := by rw [ht1.size]; exact hs1.fr.size
  have hsame : ∀ b, b < w.heap.size → ¬ Wof σ M b → w4.heap[b]? = w.heap[b]? := fun b hb hn => by
    by_cases e : b = l
    · subst e; rw [hl4, hl]
    · have e1 : w1.heap[b]? = w.heap[b]? := hs1.fr.block b hb hn
      have e2 : w2.heap[b]? = w1.heap[b]? := by rw [← hw2]; exact World.putObj_heap_other e
      have e3 : w3.heap[b]? = w2.heap[b]? := hs3.fr.block b (Nat.lt_of_lt_of_le hb hs12) fun h => (hW1 b h).elim hn fun h => absurd hb (Nat.not_lt.2 h)
      have e4 : w4.heap[b]? = w3.heap[b]? := by rw [← hw4]; exact World.putObj_heap_other e
      rw [e4, e3, e2, e1]
  have hm4 := hs3.mem.turn ht3
  have hown4 : ∀ b, Wof σ3 M3 b → Wof σ M b ∨ w.heap.size ≤ b := fun b ⟨r, R, L, h1, h2, h3⟩ => (hs3.mem.own r R L b h1 h2 h3).elim (hW1 b) fun h => .inr (Nat.le_trans hs12 h)
  have hk4 : Keep (Zof B σ M w) (Zof B σ3 M3 w4) w w4 := fun b hz => by
    have hnw : ¬ Wof σ M b := fun ⟨r, R, L, h1, h2, h3⟩ => hz.2 r R L h1 h2 h3
    refine ⟨⟨⟨?_, hz.1.2⟩, fun r R L h1 h2 h3 => ?_⟩, hsame b hz.1.1 hnw⟩
    · rw [ht3.size]; exact Nat.lt_of_lt_of_le hz.1.1 (Nat.le_trans hs12 hs3.fr.size)
    · exact (hown4 b ⟨r, R, L, h1, h2, h3⟩).elim hnw fun h => absurd hz.1.1 (Nat.not_lt.2 h)
  have hpin : ∀ r, r < N.np → σ3 r = σ r := fun r hr => (hs3.pin r hr).trans (hs1.pin r hr)
  refine hnext _ _ _ _ _ _ (hK M3 nx3 hs3.low g3) (St.put ⟨fun t => SV.rel_trim (fun r L hr hL => by rw [hpin r hr]; exact hL) hk4 _ _ (hs.env t), ⟨hs.mem.newB, hm4.fresh, hm4.reg, hm4.inj, fun r R L b h1 h2 h3 => ?_⟩, ?_, hs.defers.keep hk4, hs.size, hs3.low, fun r hr => (hpin r hr).trans (hs.pin r hr), hs.good⟩ hd rfl)
  · exact (hown4 b ⟨r, R, L, h1, h2, h3⟩).elim (hWof b) fun h => .inr (Nat.le_trans hs.fr.size h)
  · refine ⟨?_, ?_, ?_, ?_, ?_, fun b hb hn => ?_⟩
    · rw [ht3.os, hs3.fr.os, ← hs.fr.os]; exact ht1.os.trans hs1.fr.os
    · rw [ht3.tape, hs3.fr.tape, ← hs.fr.tape]; exact ht1.tape.trans hs1.fr.tape
    · rw [ht3.output, hs3.fr.output, ← hs.fr.output]; exact ht1.output.trans hs1.fr.output
    · rw [ht3.size]; exact Nat.le_trans hs.fr.size (Nat.le_trans hs12 hs3.fr.size)
    · exact Nat.le_trans hs.fr.drawn (Nat.le_trans hs1.fr.drawn (Nat.le_trans ht1.drawn (Nat.le_trans hs3.fr.drawn ht3.drawn)))
    · rw [hsame b (Nat.lt_of_lt_of_le hb hs.fr.size) fun h => (hWof b h).elim hn fun h => absurd hb (Nat.not_lt.2 h)]
      exact hs.fr.block b hb hn

/-- What an iterator does, whatever its rounds do: it calls yield on all of vs, in this order. -/
def IterC (P : Program) (T : Tab) {β : Type} (gf : FuncId) (ca : List SV) (enc : β → List SV) (vs : List β) : Prop :=
  ∃ gfn c, P.funcs[gf]? = some gfn ∧ gfn.body = some c ∧ (gfn.name == "runtime.NumGoroutine") = false ∧ ca.length + 1 ≤ gfn.ntmps ∧
    ∀ (np : Nat) (good : Gd) (l : Nat) (I : List β → Mem → Nat → Prop) (M : Mem) (nx : Nat), np ≤ nx → I [] M nx → (∀ pre M nx R, np ≤ nx → I pre M nx → I pre (upd M nx (some R)) (nx + 1)) →
      YieldsAt P ⟨gfn.ntmps, np, good⟩ l enc I vs → GC P T ⟨gfn.ntmps, np, good⟩ c [] (gretn T gfn.results.toList fun _ M' nx' => I vs M' nx') (env0 (.fn (.yield l) [] [] :: ca)) M nx

def GRange (P : Program) (T : Tab) (N : Cfg) (g : Operand) (ps : Array Tmp) (as b : Code) (k : List It) (Q : GQ) (E : Env) (M : Mem) (nx : Nat) : Prop := GW P N (.rangeFunc g ps as b) E M nx (GK P T N k Q)
@[go_sem] theorem GC_range {k : List It} {Q : GQ} (g : Operand) (ps : Array Tmp) (as b : Code) : GC P T N (.rangeFunc g ps as b) k Q E M nx = GRange P T N g ps as b k Q E M nx := (rfl)

theorem GRange_pre {k : List It} {Q : GQ} {g : Operand} {ps : Array Tmp} {as b : Code} {E' : Env} {nx' : Nat} (h : GSt N E M nx E' M' nx') (hr : GRange P T N g ps as b k Q E' M' nx') : GRange P T N g ps as b k Q E M nx := GW.pre h hr
theorem GRange_p (hT : TabOK P T) {k : List It} {Q : GQ} {g : Operand} {ps : Array Tmp} {as b : Code} {β : Type} (enc : β → List SV) (vs : List β) (np : Nat) (I : List β → Mem → Nat → Prop)
    {gf : FuncId} {ca : List SV} (hg : ev E g = .fn (.func gf) [] ca) (hit : IterC P T gf ca enc vs) (hps : ∀ x, (enc x).length = ps.size) (hlt : ∀ p ∈ ps.toList, p < N.n) (hnd : ndC as = true ∧ ndC b = true) (hmd : N.good.md = true)
    (hnp : N.np ≤ np) (hnx : np ≤ nx) (h0 : I [] M nx) (hst : ∀ pre M nx R, np ≤ nx → I pre M nx → I pre (upd M nx (some R)) (nx + 1))
    (round : ∀ pre x, pre ++ [x] <+: vs → ∀ M nx, np ≤ nx → I pre M nx → GC P T ⟨N.n, np, rdGood⟩ as [.code b] (RQ (I (pre ++ [x]))) (putPs (trimE np E) ps.toList (enc x)) M nx)
    (hk : ∀ M nx, np ≤ nx → I vs M nx → GK P T N k Q .normal (trimE np E) M nx) : GRange P T N g ps as b k Q E M nx := by
  intro r hr B W w0 σ a w hs
  have hr0 : r = none := hr.resolve_right (by simp [ndC])
  subst hr0
  obtain ⟨gfn, c, hf, hb, hn, hlen, hit⟩ := hit
  have hgv := ev_rel hs.env g
  rw [hg] at hgv
  obtain ⟨vs1, ws, hgv, q1, q2⟩ := hgv
  cases q1
  refine wpIn_rangeFunc fun fn _ => ?_
  -- the loop's record is laid
  obtain ⟨rcd, hrcd⟩ : ∃ rcd : Loop, rcd = { state := .ready, pending := none, fn, tmps := a.tmps, params := ps, assign := as, body := b, defers := w.heap.size } := ⟨_, rfl⟩
  obtain ⟨w1, hw1⟩ : ∃ w1, (w.alloc (.deferred (some []))).alloc (.loop rcd) = w1 := ⟨_, rfl⟩
  have hsz1 : w1.heap.size = w.heap.size + 2 := by rw [← hw1]; simp
  have hl1 : w1.heap[w.heap.size + 1]? = some (.loop rcd) := by
    rw [← hw1]; have := World.alloc_heap_new (w.alloc (.deferred (some []))) (.loop rcd); rwa [World.size_alloc] at this
  have hD1 : w1.heap[w.heap.size]? = some (.deferred (some [])) := by
    rw [← hw1]; exact (Below.heap_alloc _ _ _ (by simp)).trans (World.alloc_heap_new w _)
  have hold : ∀ b, b < w.heap.size → w1.heap[b]? = w.heap[b]? := fun b hb => by
    rw [← hw1]; exact (Below.heap_alloc _ _ _ (by simp; omega)).trans (Below.heap_alloc _ _ _ hb)
  have hk1 : Keep (Zof B σ M w) (Zof B σ M w1) w w1 := fun b hb => ⟨⟨⟨by rw [hsz1]; have := hb.1.1; omega, hb.1.2⟩, hb.2⟩, hold b hb.1.1⟩
  have hWlt : ∀ b, Wof σ M b → b < w.heap.size := fun b h => by
    obtain ⟨o, h1, _⟩ := Wof_heap hs.mem h
    exact heap_lt h1
  have hWB : ∀ b, Wof σ M b → W b ∨ w0.heap.size ≤ b := fun b ⟨r, R, L, h1, h2, h3⟩ => hs.mem.own r R L b h1 h2 h3
  have hnB : ∀ b, w.heap.size ≤ b → B b := fun b hb => hs.mem.newB b (.inl (Nat.le_trans hs.fr.size hb))
  have hm1 : MOK B (Wof σ M) w1.heap.size σ M (From nx) w1 := ⟨fun b hb => hb.elim (fun h => hnB b (by omega)) (fun h => hs.mem.newB b (hWB b h).symm), hs.mem.fresh, fun r R hr => by
      obtain ⟨L, e1, e2⟩ := hs.mem.reg r R hr
      exact ⟨L, e1, e2.mono (fun _ _ h => h) hk1 fun b hb => hold b (hWlt b ⟨r, R, L, hr, e1, hb⟩)⟩, hs.mem.inj, fun r R L b h1 h2 h3 => .inl ⟨r, R, L, h1, h2, h3⟩⟩
  have hgood : RG (w.heap.size + 1) N.n fn ps as b E M B (Wof σ M) ⟨w1, σ⟩ := by
    refine ⟨⟨a.tmps, w.heap.size, by rw [hl1, hrcd], hs.size, fun t => SV.rel_mono (fun _ _ h => h) hk1 _ _ (hs.env t)⟩, fun x => Iff.rfl, fun h => ?_, hnB _ (by omega)⟩
    have := hWlt _ h
    omega
  refine ⟨w.heap.size + 1, [{ target := .collected w.heap.size, args := #[] }], w1, { target := .fn (.func gf) ws.toArray, args := #[.func (.yield (w.heap.size + 1)) #[] #[]] }, w1, gf,
    #[.func (.yield (w.heap.size + 1)) #[] #[]] ++ ws.toArray, w1, ?_, ?_, fun _ _ => trivial, ?_, by simp [fw, Fence.wide], ?_⟩
  · rw [← hw1, hrcd]; exact run_enterLoop_outer _ _ _ _ _
  · simp only [resolve, hgv]
    simp [go_sem]
  · simp [invoke, enter_run hf hb hn]
  have harr : (#[Value.func (.yield (w.heap.size + 1)) #[] #[]] ++ ws.toArray) = (Value.func (.yield (w.heap.size + 1)) #[] #[] :: ws).toArray := by simp
  rw [harr]
  have ha : SV.relL σ (Zof B σ M w1) w1 (.fn (.yield (w.heap.size + 1)) [] [] :: ca) (Value.func (.yield (w.heap.size + 1)) #[] #[] :: ws) :=
    ⟨_, _, rfl, ⟨[], [], rfl, rfl, rfl⟩, SV.relL_mono (fun _ _ h => h) hk1 _ _ q2⟩
  have hy := yieldsAt_of (P := P) (N := ⟨gfn.ntmps, np, ⟨RG (w.heap.size + 1) N.n fn ps as b E M, true⟩⟩) hT rfl rfl hps hlt hnd round
  have hG := hit np ⟨RG (w.heap.size + 1) N.n fn ps as b E M, true⟩ (w.heap.size + 1) I M nx hnx h0 hst hy
  refine (callsIn_wide (n := 0)).2 ((calls_of_gexecn hT hf hb (by simpa using hlen) hnx hgood hm1 ha hG).mono fun e w2 h2 => ?_)
  obtain ⟨s, y, σ2, M2, nx2, rfl, hI, _, hm2, hfr2, hlow2, hpin2⟩ := h2
  -- behind the loop
  have hnWl : ¬ Wof σ M (w.heap.size + 1) := fun h => by have := hWlt _ h; omega
  have hnWD : ¬ Wof σ M w.heap.size := fun h => by have := hWlt _ h; omega
  have hl2 : w2.heap[w.heap.size + 1]? = some (.loop rcd) := (hfr2.block _ (by show _ < w1.heap.size; omega) hnWl).trans hl1
  have hD2 : w2.heap[w.heap.size]? = some (.deferred (some [])) := (hfr2.block _ (by show _ < w1.heap.size; omega) hnWD).trans hD1
  refine ⟨rcd.pending, _, run_endLoop hl2 (by rw [hrcd]; simp), ?_⟩
  have ht : Turn w0.heap.size w2 (w2.putObj (w.heap.size + 1) (.loop { rcd with state := .exhausted })) := Turn.putObj (by have := hs.fr.size; omega) hl2 ⟨_, rfl, trivial⟩ ⟨_, rfl, trivial⟩
  have hoth : ∀ b, b ≠ w.heap.size + 1 → (w2.putObj (w.heap.size + 1) (.loop { rcd with state := .exhausted })).heap[b]? = w2.heap[b]? := fun b hb => World.putObj_heap_other hb
  generalize w2.putObj (w.heap.size + 1) (.loop { rcd with state := .exhausted }) = w3 at ht hoth
  have hpd : rcd.pending = none := by rw [hrcd]
  rw [hpd]
  show ∃ E' M' nx' σ', _ ∧ St B W w0 N σ' E' M' nx' _ w3
  have hk2 : Keep (Zof B σ M w1) (Zof B σ2 M2 w2) w1 w2 := keep_walk (w1 := w2) (fun b hb ⟨r, R, L, h1, h2, h3⟩ => hb.2 r R L h1 h2 h3) hm2 hfr2
  have hown2 : ∀ b, Wof σ2 M2 b → Wof σ M b ∨ w1.heap.size ≤ b := fun b ⟨r, R, L, h1, h2, h3⟩ => hm2.own r R L b h1 h2 h3
  have hsz2 : w1.heap.size ≤ w2.heap.size := hfr2.size
  have hk12 : Keep (Zof B σ M w) (Zof B σ2 M2 w2) w w2 := fun b hb => ⟨(hk2 b (hk1 b hb).1).1, (hk2 b (hk1 b hb).1).2.trans (hk1 b hb).2⟩
  have hk3 : Keep (Zof B σ M w) (Zof B σ2 M2 w3) w w3 := fun b hb => by
    have h := hk12 b hb
    refine ⟨Zof.turn ht b h.1, ?_⟩
    rw [hoth b (by have := hb.1.1; omega)]
    exact h.2
  have hm3 := hm2.turn ht
  refine ⟨trimE np E, M2, nx2, σ2, hk M2 nx2 hlow2 hI, fun t => ?_, ⟨hs.mem.newB, hm3.fresh, hm3.reg, hm3.inj, fun r R L b h1 h2 h3 => ?_⟩, ?_, ?_, hs.size, Nat.le_trans hnp hlow2, fun r hr => ?_, hs.good⟩
  · exact SV.rel_trim (fun r L hr hL => by rw [hpin2 r hr]; exact hL) hk3 _ _ (hs.env t)
  · exact (hown2 b ⟨r, R, L, h1, h2, h3⟩).elim (hWB b) fun h => .inr (by have := hs.fr.size; omega)
  · refine ⟨?_, ?_, ?_, ?_, ?_, fun b hb hn => ?_⟩
    · rw [ht.os, hfr2.os, ← hs.fr.os]; rw [← hw1]; rfl
    · rw [ht.tape, hfr2.tape, ← hs.fr.tape]; rw [← hw1]; rfl
    · rw [ht.output, hfr2.output, ← hs.fr.output]; rw [← hw1]; rfl
    · rw [ht.size]; have := hs.fr.size; omega
    · have h1 : w.drawn ≤ w1.drawn := by rw [← hw1]; exact Nat.le_refl _
      exact Nat.le_trans hs.fr.drawn (Nat.le_trans h1 (Nat.le_trans hfr2.drawn ht.drawn))
    · have hbw : b < w.heap.size := Nat.lt_of_lt_of_le hb hs.fr.size
      rw [hoth b (by omega), hfr2.block b (by show b < w1.heap.size; omega) fun h => (hWB b h).elim hn fun h => by omega]
      exact (hold b hbw).trans (hs.fr.block b hb hn)
  · obtain ⟨_, l, d1, d2, d3⟩ := hs.defers
    refine ⟨fun h => (by rw [hmd] at h; cases h), w.heap.size :: l, by simp [d1], List.nodup_cons.2 ⟨fun h => ?_, d2⟩, fun D hD => ?_⟩
    · have := heap_lt (d3 _ h).2.2
      omega
    · rcases List.mem_cons.1 hD with rfl | hD
      · refine ⟨hs.fr.size, Zof.turn ht _ ⟨⟨by omega, hnB _ (Nat.le_refl _)⟩, fun r R L h1 h2 h3 => ?_⟩, by rw [hoth _ (by omega)]; exact hD2⟩
        rcases hown2 _ ⟨r, R, L, h1, h2, h3⟩ with h | h
        · exact hnWD h
        · omega
      · have h := d3 D hD
        exact ⟨h.1, (hk3 D h.2.1).1, (hk3 D h.2.1).2.trans h.2.2⟩
  · exact (hpin2 r (Nat.lt_of_lt_of_le hr hnp)).trans (hs.pin r hr)
end
end Go.Gx
