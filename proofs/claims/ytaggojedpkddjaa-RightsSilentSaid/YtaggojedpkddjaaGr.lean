/-
  A region that leaves its order open: the order of the text serves for all.
-/
import Derived.Test.YtaggojedpkddjaaGq
import Derived.Orders
set_option linter.unusedVariables false
set_option linter.unusedSimpArgs false
namespace Go.Gx
open Go.RowKit

mutual
def SV.refs : SV → List Nat
  | .r _ => []
  | .ptr q _ _ _ => [q]
  | .sl q _ _ _ _ => [q]
  | .fn _ fi ca => SV.refsL fi ++ SV.refsL ca
  | .agg l => SV.refsL l
  | .tup l => SV.refsL l
def SV.refsL : List SV → List Nat
  | [] => []
  | s :: l => s.refs ++ SV.refsL l
end

section
variable {P : Program} {T : Tab} {B W F : Nat → Prop} {w0 : World} {N : Nat} {n0 : Nat} {σ σ' : Sig} {M M' : Mem} {nx : Nat} {w w' : World} {a : Act} {E E' : Env}

mutual
theorem SV.refs_rel {Z : Nat → Prop} : ∀ (s : SV) (y : Value), s.rel σ Z w y → ∀ p ∈ s.refs, ∃ L, σ p = some L
  | .r x, y, h, q', hr => by simp [SV.refs] at hr
  | .ptr q _ _ _, y, h, q', hr => by
    simp [SV.refs] at hr; subst hr
    obtain ⟨L, b, h1, _⟩ := h
    exact ⟨L, h1⟩
  | .sl q _ _ _ _, y, h, q', hr => by
    simp [SV.refs] at hr; subst hr
    obtain ⟨L, A, h1, _⟩ := h
    exact ⟨L, h1⟩
  | .fn f fi ca, y, h, q', hr => by
    obtain ⟨vs, ws, e, h1, h2⟩ := h
    simp only [SV.refs, List.mem_append] at hr
    rcases hr with hr | hr
    · exact SV.refsL_rel fi vs h1 q' hr
    · exact SV.refsL_rel ca ws h2 q' hr
  | .agg l, y, h, q', hr => by
    obtain ⟨vs, e, h1, h2⟩ := h
    exact SV.refsL_rel l vs h2 q' hr
  | .tup l, y, h, q', hr => by
    obtain ⟨vs, e, h2⟩ := h
    exact SV.refsL_rel l vs h2 q' hr
theorem SV.refsL_rel {Z : Nat → Prop} : ∀ (l : List SV) (ys : List Value), SV.relL σ Z w l ys → ∀ p ∈ SV.refsL l, ∃ L, σ p = some L
  | [], ys, h, q', hr => by simp [SV.refsL] at hr
  | s :: l, ys, h, q', hr => by
    obtain ⟨v, vs', e, h1, h2⟩ := h
    simp only [SV.refsL, List.mem_append] at hr
    rcases hr with hr | hr
    · exact SV.refs_rel s v h1 q' hr
    · exact SV.refsL_rel l vs' h2 q' hr
end

theorem gload_agree (t : TypeId) (s : SV) (h : ∀ q ∈ s.refs, M' q = M q) : gload T t M' s = gload T t M s := by
  unfold gload
  cases T.ti t with
  | none => rfl
  | some i =>
    cases s with
    | ptr q row k fld => simp only [h q (by simp [SV.refs])]
    | r x => cases x <;> rfl
    | _ => rfl
theorem gstore_agree (t : TypeId) (s x : SV) (h : ∀ q ∈ s.refs, M' q = M q) : gstore T t M' s x = gstore T t M s x := by
  unfold gstore
  cases T.ti t with
  | none => rfl
  | some i =>
    cases s with
    | ptr q row k fld => simp only [h q (by simp [SV.refs])]
    | _ => rfl
theorem rowsOf_agree (k : Nat) (x : SV) (h : ∀ q ∈ x.refs, M' q = M q) : rowsOf M' k x = rowsOf M k x := by
  unfold rowsOf
  cases x with
  | sl q k' lo m c => simp only [h q (by simp [SV.refs])]
  | r x =>
    cases x with
    | v x =>
      cases x with
      | slice A n c =>
        cases A with
        | none => cases n <;> first | rfl | (cases c <;> rfl)
        | some A => rfl
      | _ => rfl
    | _ => rfl
  | _ => rfl
theorem gapp_agree (e : TypeId) (ei : TI) (s : SV) (ob : Prop) (m : Nat) (get : Nat → Nat → RV) (h : ∀ q ∈ s.refs, M' q = M q) : gapp e ei M' nx s ob m get = gapp e ei M nx s ob m get := by
  unfold gapp
  cases s with
  | sl q k lo n c =>
    cases c with
    | none =>
      cases lo with
      | zero => simp only [h q (by simp [SV.refs])]
      | succ lo => rfl
    | some c => simp only [h q (by simp [SV.refs])]
  | r x =>
    cases x with
    | v x =>
      cases x with
      | slice A n c =>
        cases A with
        | none => cases n <;> first | rfl | (cases c <;> rfl)
        | some A => rfl
      | _ => rfl
    | _ => rfl
  | _ => rfl
theorem gappend_agree (t : TypeId) (s x : SV) (h : ∀ q ∈ s.refs, M' q = M q) (h' : ∀ q ∈ x.refs, M' q = M q) : gappend T t M' nx s x = gappend T t M nx s x := by
  unfold gappend
  simp only [rowsOf_agree _ x h', gapp_agree _ _ s _ _ _ h]
theorem gappendZ_agree (t t' : TypeId) (s x : SV) (h : ∀ q ∈ s.refs, M' q = M q) : gappendZ T t t' M' nx s x = gappendZ T t t' M nx s x := by
  unfold gappendZ
  split
  · split
    · rfl
    · split
      · rw [gapp_agree _ _ _ _ _ _ h]
      · rfl
  · rfl
theorem gcopy_agree (t : TypeId) (s x : SV) (h : ∀ q ∈ s.refs, M' q = M q) (h' : ∀ q ∈ x.refs, M' q = M q) : gcopy T t M' s x = gcopy T t M s x := by
  unfold gcopy
  simp only [rowsOf_agree _ x h']
  rcases T.ti t with _ | ⟨a, b, c, kd⟩
  · rfl
  cases kd with
  | slice e =>
    try dsimp only
    cases T.ti e with
    | none => rfl
    | some ei =>
      try dsimp only
      rcases rowsOf M ei.size x with _ | ⟨ob, m, get⟩
      · rfl
      try dsimp only
      cases s with
      | sl q k lo n c => simp only [h q (by simp [SV.refs])]
      | _ => rfl
  | _ => rfl
theorem gclear_agree (t : TypeId) (s : SV) (h : ∀ q ∈ s.refs, M' q = M q) : gclear T t M' s = gclear T t M s := by
  unfold gclear
  rcases T.ti t with _ | ⟨a, b, c, kd⟩
  · rfl
  cases kd with
  | slice e =>
    try dsimp only
    cases T.ti e with
    | none => rfl
    | some ei =>
      cases s with
      | sl q k lo n c => simp only [h q (by simp [SV.refs])]
      | r x =>
        cases x with
        | v x =>
          cases x with
          | slice A n c =>
            cases A with
            | none => cases n <;> first | rfl | (cases c <;> rfl)
            | some A => rfl
          | _ => rfl
        | _ => rfl
      | _ => rfl
  | _ => rfl
theorem rowsN_agree {q : Nat} (h : M' q = M q) : rowsN M' q = rowsN M q := by unfold rowsN; rw [h]
theorem gslice_agree (t : TypeId) (x : SV) (lo hi mx : Option SV) (h : ∀ q ∈ x.refs, M' q = M q) : gslice T M' t x lo hi mx = gslice T M t x lo hi mx := by
  unfold gslice
  rcases T.ti t with _ | ⟨a, b, c, kd⟩
  · rfl
  cases kd with
  | slice e =>
    try dsimp only
    cases T.ti e with
    | none => rfl
    | some ei =>
      try dsimp only
      cases loInt lo with
      | none => rfl
      | some l =>
        try dsimp only
        cases x with
        | sl q k l0 n c =>
          cases c with
          | none => simp only [rowsN_agree (h q (by simp [SV.refs]))]
          | some c => simp only [h q (by simp [SV.refs])]
        | r x =>
          cases x with
          | v x =>
            cases x with
            | slice A n c =>
              cases A with
              | none => cases n <;> first | rfl | (cases c <;> rfl)
              | some A => rfl
            | _ => rfl
          | _ => rfl
        | _ => rfl
  | _ => rfl

theorem gbuiltin_agree (b : Builtin) (ts : List TypeId) (l : List SV) (h : ∀ x ∈ l, ∀ r ∈ x.refs, M' r = M r) : gbuiltin T b ts M' nx l = gbuiltin T b ts M nx l := by
  unfold gbuiltin
  split
  · rfl
  · rw [gappend_agree _ _ _ (h _ (by simp)) (h _ (by simp)), gappendZ_agree _ _ _ _ (h _ (by simp))]
  · rw [gcopy_agree _ _ _ (h _ (by simp)) (h _ (by simp))]
  · rw [gclear_agree _ _ (h _ (by simp))]
  all_goals rfl

theorem map_ev {l : List Operand} (h : ∀ x ∈ l, ev E' x = ev E x) : l.map (ev E') = l.map (ev E) := List.map_congr_left h

theorem gop_agree {op : Op} {q : Nat} (he : ∀ x ∈ op.operands.toList, ev E' x = ev E x) (hm : ∀ x ∈ op.operands.toList, ∀ r ∈ (ev E x).refs, M' r = M r) : gop T op E' M' q = gop T op E M q := by
  cases op with
  | move x => simp only [gop]; rw [he x (by simp [Op.operands])]
  | assign x => simp only [gop]; rw [he x (by simp [Op.operands])]
  | box t x => simp only [gop]; rw [he x (by simp [Op.operands])]
  | alloc t => rfl
  | build t ps =>
    simp only [gop]
    rw [show (ps.toList.map fun p => (p.1, ev E' p.2)) = (ps.toList.map fun p => (p.1, ev E p.2)) from List.map_congr_left fun p hp => by rw [he p.2 (by simp [Op.operands]; exact ⟨p.1, by simpa using hp⟩)]]
  | buildSlice t len ps =>
    simp only [gop]
    rw [show (ps.toList.map fun p => (p.1, ev E' p.2)) = (ps.toList.map fun p => (p.1, ev E p.2)) from List.map_congr_left fun p hp => by rw [he p.2 (by simp [Op.operands]; exact ⟨p.1, by simpa using hp⟩)]]
  | load t x => simp only [gop]; rw [he x (by simp [Op.operands]), gload_agree _ _ (hm x (by simp [Op.operands]))]
  | store t x y => simp only [gop]; rw [he x (by simp [Op.operands]), he y (by simp [Op.operands]), gstore_agree _ _ _ (hm x (by simp [Op.operands]))]
  | nilCheck x => simp only [gop]; rw [he x (by simp [Op.operands])]
  | binOp o t x y t' => simp only [gop]; rw [he x (by simp [Op.operands]), he y (by simp [Op.operands])]
  | unOp o t x => simp only [gop]; rw [he x (by simp [Op.operands])]
  | convert s d x => simp only [gop]; rw [he x (by simp [Op.operands])]
  | makeFunc f fi ca => simp only [gop]; rw [map_ev (l := fi.toList) fun x hx => he x (by simp [Op.operands] at hx ⊢; exact .inl hx), map_ev (l := ca.toList) fun x hx => he x (by simp [Op.operands] at hx ⊢; exact .inr hx)]
  | slice t x lo hi mx =>
    simp only [gop]
    rw [he x (by simp [Op.operands]), gslice_agree (M := M) _ _ _ _ _ (hm x (by simp [Op.operands]))]
    have e : ∀ o : Option Operand, (∀ y, o = some y → y ∈ (Op.slice t x lo hi mx).operands.toList) → o.map (ev E') = o.map (ev E) := by
      intro o h
      cases o with
      | none => rfl
      | some y => simp [he y (h y rfl)]
    rw [e lo (fun y hy => by simp [Op.operands, hy]), e hi (fun y hy => by simp [Op.operands, hy]), e mx (fun y hy => by simp [Op.operands, hy])]
  | fieldAddr t x f => simp only [gop]; rw [he x (by simp [Op.operands])]
  | indexAddr t x i => simp only [gop]; rw [he x (by simp [Op.operands]), he i (by simp [Op.operands])]
  | extract x i => simp only [gop]; rw [he x (by simp [Op.operands])]
  | call c =>
    obtain ⟨callee, args, ts⟩ := c
    have ha := map_ev (l := args.toList) fun x hx => he x (by simp only [Op.operands, Call.operands, Array.toList_append, List.mem_append]; exact .inr hx)
    simp only [gop]
    cases callee with
    | builtin b =>
      simp only [ha]
      exact gbuiltin_agree _ _ _ fun x hx r hr => by
        obtain ⟨o, ho, rfl⟩ := List.mem_map.1 hx
        exact hm o (by simp only [Op.operands, Call.operands, Array.toList_append, List.mem_append]; exact .inr ho) r hr
    | value f =>
      simp only [ha]
      rw [he f (by simp [Op.operands, Call.operands])]
    | invoke r m => rfl
  | _ => rfl

mutual
theorem gview_agree : ∀ (s : SV) (K : SV → Prop), (∀ r ∈ s.refs, M' r = M r) → (gview M' s K ↔ gview M s K)
  | .r x, K, h => by unfold gview; exact Iff.rfl
  | .ptr q row k fld, K, h => by unfold gview; rw [h q (by simp [SV.refs])]
  | .sl q k lo n c, K, h => by unfold gview; rw [h q (by simp [SV.refs])]
  | .fn f fi ca, K, h => by
    unfold gview
    rw [gviewL_agree fi _ (fun r hr => h r (by simp [SV.refs, hr]))]
    have : (fun fi' => gviewL M' ca fun ca' => K (.fn f fi' ca')) = (fun fi' => gviewL M ca fun ca' => K (.fn f fi' ca')) := by
      funext fi'
      exact propext (gviewL_agree ca _ (fun r hr => h r (by simp [SV.refs, hr])))
    rw [this]
  | .agg l, K, h => by unfold gview; exact gviewL_agree l _ h
  | .tup l, K, h => by unfold gview; exact gviewL_agree l _ h
theorem gviewL_agree : ∀ (l : List SV) (K : List SV → Prop), (∀ r ∈ SV.refsL l, M' r = M r) → (gviewL M' l K ↔ gviewL M l K)
  | [], K, h => Iff.rfl
  | s :: l, K, h => by
    unfold gviewL
    rw [gview_agree s _ (fun r hr => h r (by simp [SV.refsL, hr]))]
    have : (fun s' => gviewL M' l fun l' => K (s' :: l')) = (fun s' => gviewL M l fun l' => K (s' :: l')) := by
      funext s'
      exact propext (gviewL_agree l _ (fun r hr => h r (by simp [SV.refsL, hr])))
    rw [this]
end

/-- What a call hands back in a region of open order: the one value v. -/
def DCall (P : Program) (M : Mem) (f : FuncId) (args : List SV) (v : SV) : Prop :=
  ((gviewL M args fun l => Pure P f l (· = v)) ∧ v.flat = true) ∨ (SV.closedL args = true ∧ Pure P f args (· = v) ∧ v.closed = true)

theorem dcall_run (hm : MOK B W n0 σ M F w) (hn : n0 ≤ w.heap.size) {f : FuncId} {args : List SV} {v : SV} {vs : List Value} (h : DCall P M f args v) (ha : SV.relL σ (Zof B σ M w) w args vs) :
    (callFunc f vs.toArray).run P w = .ok (.enter f vs.toArray) w ∧ Calls P f vs.toArray w fun e w' => ∃ y, e = .returned y ∧ v.rel σ (Zof B σ M w') w' y ∧ MOK B W n0 σ M F w' ∧ Keep (Zof B σ M w) (Zof B σ M w') w w' ∧ FrS W n0 w w' := by
  have fin : ∀ {w' : World}, FrS (fun _ => False) w.heap.size w w' → MOK B W n0 σ M F w' ∧ Keep (Zof B σ M w) (Zof B σ M w') w w' ∧ FrS W n0 w w' := by
    intro w' hf
    have hsame : ∀ b, b < w.heap.size → w'.heap[b]? = w.heap[b]? := fun b hb => hf.block b hb (fun h => h)
    have hk : Keep (Zof B σ M w) (Zof B σ M w') w w' := fun b hb => ⟨⟨⟨Nat.lt_of_lt_of_le hb.1.1 hf.size, hb.1.2⟩, hb.2⟩, hsame b hb.1.1⟩
    refine ⟨⟨hm.newB, hm.fresh, fun r R h => ?_, hm.inj, hm.own⟩, hk, ⟨hf.os, hf.tape, hf.output, hf.size, fun b hb _ => hsame b (by omega)⟩⟩
    obtain ⟨L, e1, e2⟩ := hm.reg r R h
    exact ⟨L, e1, e2.mono (fun _ _ h => h) hk fun b hb => hsame b (e2.block hb)⟩
  rcases h with ⟨h, hfl⟩ | ⟨hc, hp, hcl⟩
  · obtain ⟨l, hp', ha'⟩ := gviewL_rel' (Z' := fun b => b < w.heap.size) hm (fun b hb => hb.1.1) (fun r R L b h1 h2 h3 => by
      obtain ⟨L', e1, e2⟩ := hm.reg r R h1
      rw [h2] at e1; cases e1
      exact e2.block h3) args _ vs h ha
    obtain ⟨h1, h2⟩ := hp' (fun b => b < w.heap.size) w vs (fun b hb => hb) ha'
    refine ⟨h1, h2.mono fun e w' h => ?_⟩
    obtain ⟨y, s, rfl, rfl, hr, hf⟩ := h
    obtain ⟨g1, g2, g3⟩ := fin hf
    exact ⟨y, rfl, SV.rel_flat s y hfl hr, g1, g2, g3⟩
  · obtain ⟨h1, h2⟩ := hp (Zof B σ M w) w vs (fun b hb => hb.1.1) (SV.relL_closed (fun b hb => ⟨hb, rfl⟩) _ _ hc ha)
    refine ⟨h1, h2.mono fun e w' h => ?_⟩
    obtain ⟨y, s, rfl, rfl, hr, hf⟩ := h
    obtain ⟨g1, g2, g3⟩ := fin hf
    refine ⟨y, rfl, SV.rel_closed (fun b hb => ⟨?_, rfl⟩) s y hcl hr, g1, g2, g3⟩
    rcases hb with hb | hb
    · exact ⟨⟨Nat.lt_of_lt_of_le hb.1.1 hf.size, hb.1.2⟩, hb.2⟩
    · refine ⟨⟨hb.2, hm.newB b (.inl (by omega))⟩, fun r R L h1 h2 h3 => ?_⟩
      obtain ⟨L', e1, e2⟩ := hm.reg r R h1
      rw [h2] at e1; cases e1
      have := e2.block h3
      omega

/-! ### the phase -/
def underL (nx : Nat) (l : List SV) : Prop := ∀ s ∈ l, ∀ q ∈ s.refs, q < nx

/-- What operation o gives, in the order of the text. -/
def DRun (P : Program) (T : Tab) (o : Oper) (E : Env) (M : Mem) (q : Nat) (v : SV) (u : Option Reg) : Prop :=
  underL q (o.op.operands.toList.map (ev E)) ∧
  match o.op with
  | .pick c x y => ∃ t, ev E c = .b t ∧ v = (if t then ev E x else ev E y) ∧ u = none
  | op => match gop T op E M q with
    | .pure ob s => ob ∧ v = s ∧ u = none
    | .new ob R s => ob ∧ v = s ∧ u = some R
    | .call f args => underL q args ∧ DCall P M f args v ∧ u = none
    | _ => False

def DStep (P : Program) (T : Tab) (N : Nat) (ops : Array Oper) (o : Oper) (E : Env) (M : Mem) (q : Nat) (v : SV) (u : Option Reg) : Prop :=
  dOK N o.dst ∧
  match o.guard with
  | none => DRun P T o E M q v u
  | some (j, want) => ∃ d, (ops[j]?).bind (·.dst) = some d ∧ ((∃ t, E d = .b t ∧ if t = want then DRun P T o E M q v u else v = .r (.v undef) ∧ u = none) ∨ (∃ x, E d = .r (.v x) ∧ (∀ t, x = .bool t → False) ∧ v = .r (.v undef) ∧ u = none))

def memUp (M : Mem) (q : Nat) (u : Option Reg) : Mem := match u with | some R => upd M q (some R) | none => M
def nxUp (q : Nat) (u : Option Reg) : Nat := match u with | some _ => q + 1 | none => q

/-- The phase's steps. -/
def Steps_ (P : Program) (T : Tab) (N : Nat) (ops : Array Oper) (vals : Nat → SV × Option Reg) (E : Env) (M : Mem) (nx : Nat) : Nat → Env × Mem × Nat
  | 0 => (E, M, nx)
  | j + 1 =>
    let s := Steps_ P T N ops vals E M nx j
    (envPut s.1 ((ops[j]?).bind (·.dst)) (vals j).1, memUp s.2.1 s.2.2 (vals j).2, nxUp s.2.2 (vals j).2)

def clashes (ops : Array Oper) (i j : Nat) : Bool :=
  match (ops[i]?).bind (·.dst), ops[j]? with
  | some d, some o =>
    o.dst == some d || (o.op.operands.any fun | .tmp t => t == d | _ => false) ||
      (match o.guard with | some (g, _) => ((ops[g]?).bind (·.dst)) == some d | none => false)
  | _, _ => false
/-- i is ahead of j on every order. -/
def mask (acc : Array Nat) (l : List Edge) : Nat := l.foldr (fun e s => if Region.binds .any e then 2 ^ e.on ||| acc.getD e.on 0 ||| s else s) 0
def befGo (acc : Array Nat) : List Oper → Array Nat
  | [] => acc
  | o :: rest => befGo (acc.push (mask acc o.after.toList)) rest
def befs (ops : Array Oper) : Array Nat := befGo #[] ops.toList
def ahead_ (ops : Array Oper) (i j : Nat) : Bool := ((befs ops).getD j 0).testBit i
/-- Of the first m operations two that touch one temporary are ordered; each behind is behind all ahead of it. -/
def drawOK (ops : Array Oper) (m : Nat) : Bool :=
  decide (m ≤ ops.size) &&
  ((List.range m).all fun j => (List.range m).all fun i => i == j || !(clashes ops i j) || (if i < j then ahead_ ops i j else ahead_ ops j i)) &&
  ((List.range ops.size).all fun j => decide (j < m) || (List.range j).all fun i => ahead_ ops i j) &&
  ops.toList.zipIdx.all fun (o, i) => o.after.all fun e => !Region.binds .any e || decide (e.on < i)

theorem mask_spec (acc : Array Nat) (i : Nat) : ∀ l : List Edge, (mask acc l).testBit i = true → ∃ e ∈ l, Region.binds .any e = true ∧ (e.on = i ∨ (acc.getD e.on 0).testBit i = true)
  | [], h => by simp [mask] at h
  | e :: l, h => by
    have hm : mask acc (e :: l) = if Region.binds .any e then 2 ^ e.on ||| acc.getD e.on 0 ||| mask acc l else mask acc l := rfl
    rw [hm] at h
    split at h
    · rename_i hb
      rw [Nat.testBit_or, Nat.testBit_or, Bool.or_eq_true, Bool.or_eq_true] at h
      rcases h with (h | h) | h
      · rw [Nat.testBit_two_pow] at h
        exact ⟨e, by simp, hb, .inl (by simpa using h)⟩
      · exact ⟨e, by simp, hb, .inr h⟩
      · obtain ⟨e', h1, h2, h3⟩ := mask_spec acc i l h
        exact ⟨e', by simp [h1], h2, h3⟩
    · obtain ⟨e', h1, h2, h3⟩ := mask_spec acc i l h
      exact ⟨e', by simp [h1], h2, h3⟩

theorem befGo_old : ∀ (l : List Oper) (acc : Array Nat) (j : Nat), j < acc.size → (befGo acc l).getD j 0 = acc.getD j 0
  | [], acc, j, h => rfl
  | o :: l, acc, j, h => by
    simp only [befGo]
    rw [befGo_old l _ j (by simp; omega)]
    simp [Array.getElem?_push, Nat.ne_of_lt h, h]

theorem befGo_new (i : Nat) : ∀ (l : List Oper) (acc : Array Nat) (k : Nat), ((befGo acc l).getD (acc.size + k) 0).testBit i = true →
    ∃ o, l[k]? = some o ∧ ∃ e ∈ o.after.toList, Region.binds .any e = true ∧ (e.on = i ∨ (acc.size + k ≤ e.on ∨ ((befGo acc l).getD e.on 0).testBit i = true))
  | [], acc, k, h => by simp [befGo] at h
  | o :: l, acc, 0, h => by
    simp only [befGo, Nat.add_zero] at h
    rw [befGo_old l _ acc.size (by simp)] at h
    simp at h
    obtain ⟨e, h1, h2, h3⟩ := mask_spec acc i _ h
    refine ⟨o, rfl, e, h1, h2, h3.imp id fun h4 => ?_⟩
    rcases Nat.lt_or_ge e.on acc.size with h5 | h5
    · right
      simp only [befGo]
      rw [befGo_old l _ e.on (by simp; omega)]
      simpa [Array.getElem?_push, Nat.ne_of_lt h5, h5] using h4
    · left; omega
  | o :: l, acc, k + 1, h => by
    simp only [befGo] at h ⊢
    have := befGo_new i l (acc.push (mask acc o.after.toList)) k (by simpa [Nat.add_assoc, Nat.add_comm 1 k] using h)
    simpa [Nat.add_assoc, Nat.add_comm 1 k] using this

/-- The set of what has been done is closed: what is ahead of a member is a member. -/
theorem ahead_in {ops : Array Oper} (hwf : ∀ j o, ops[j]? = some o → ∀ e ∈ o.after, Region.binds .any e = true → e.on < j) {l : Nat → Prop} (hl : ∀ j o, l j → ops[j]? = some o → ∀ e ∈ o.after, Region.binds .any e = true → l e.on) {i : Nat} :
    ∀ (j : Nat), (∀ o, ops[j]? = some o → ∀ e ∈ o.after, Region.binds .any e = true → l e.on) → ahead_ ops i j = true → l i := by
  intro j
  induction j using Nat.strongRecOn with
  | _ j ih =>
    intro hj h
    obtain ⟨o, h1, e, h2, h3, h4⟩ := befGo_new i ops.toList #[] j (by simpa [ahead_, befs] using h)
    have h1' : ops[j]? = some o := by simpa using h1
    have h2' : e ∈ o.after := by simpa using h2
    have hlt := hwf j o h1' e h2' h3
    have hle := hj o h1' e h2' h3
    rcases h4 with rfl | h4 | h4
    · exact hle
    · simp at h4; omega
    · exact ih e.on hlt (fun o' ho' => hl _ o' hle ho') (by simpa [ahead_, befs] using h4)

/-! ### any order of the phase -/
def ESl (ops : Array Oper) (vals : Nat → SV × Option Reg) (E : Env) (l : Nat → Bool) : Nat → Env
  | 0 => E
  | j + 1 => if l j then envPut (ESl ops vals E l j) ((ops[j]?).bind (·.dst)) (vals j).1 else ESl ops vals E l j
def MSl (vals : Nat → SV × Option Reg) (q : Nat → Nat) (M : Mem) (l : Nat → Bool) : Nat → Mem
  | 0 => M
  | j + 1 => if l j then memUp (MSl vals q M l j) (q j) (vals j).2 else MSl vals q M l j

theorem envPut_ne {E : Env} {d : Option Tmp} {s : SV} {t : Nat} (h : d ≠ some t) : envPut E d s t = E t := by
  cases d with
  | none => rfl
  | some d => exact upd_ne _ _ (fun e => h (by rw [e]))

theorem ESl_agree {ops : Array Oper} {vals : Nat → SV × Option Reg} {E : Env} {l l' : Nat → Bool} {t : Nat} : ∀ (m : Nat), (∀ k, k < m → (ops[k]?).bind (·.dst) = some t → l k = l' k) → ESl ops vals E l m t = ESl ops vals E l' m t
  | 0, _ => rfl
  | m + 1, h => by
    have ih := ESl_agree (vals := vals) (E := E) m (fun k hk => h k (by omega))
    simp only [ESl]
    by_cases hd : (ops[m]?).bind (·.dst) = some t
    · simp only [h m (by omega) hd]
      split
      · rw [hd]; simp [envPut, upd]
      · exact ih
    · have h1 : ∀ b : Bool, ∀ A : Env, (if b then envPut A ((ops[m]?).bind (·.dst)) (vals m).1 else A) t = A t := by
        intro b A
        cases b
        · rfl
        · simp only [if_true]; exact envPut_ne hd
      rw [h1, h1]; exact ih

theorem ESl_none {ops : Array Oper} {vals : Nat → SV × Option Reg} {E : Env} {l : Nat → Bool} {t i : Nat} : ∀ (m : Nat), i ≤ m → (∀ k, i ≤ k → k < m → (ops[k]?).bind (·.dst) = some t → l k = false) → ESl ops vals E l m t = ESl ops vals E l i t
  | 0, hi, _ => by
    have : i = 0 := by omega
    subst this; rfl
  | m + 1, hi, h => by
    by_cases he : i = m + 1
    · subst he; rfl
    · rw [← ESl_none m (by omega) (fun k h1 h2 => h k h1 (by omega))]
      simp only [ESl]
      split
      · rename_i hl
        refine envPut_ne fun hd => ?_
        rw [h m (by omega) (by omega) hd] at hl; cases hl
      · rfl

theorem MSl_at {vals : Nat → SV × Option Reg} {q : Nat → Nat} {M : Mem} {l : Nat → Bool} {x : Nat} : ∀ (m : Nat), (∀ k, k < m → (vals k).2 ≠ none → q k ≠ x) → MSl vals q M l m x = M x
  | 0, _ => rfl
  | m + 1, h => by
    have ih := MSl_at (l := l) (M := M) m (fun k hk => h k (by omega))
    simp only [MSl]
    split
    · cases hu : (vals m).2 with
      | none => exact ih
      | some R => simp only [memUp]; rw [upd_ne _ _ (Ne.symm (h m (by omega) (by simp [hu])))]; exact ih
    · exact ih
theorem MSl_new {vals : Nat → SV × Option Reg} {q : Nat → Nat} {M : Mem} {l : Nat → Bool} {c : Nat} {R : Reg} (hc : (vals c).2 = some R) : ∀ (m : Nat), c < m → (∀ k, k < m → k ≠ c → (vals k).2 ≠ none → q k ≠ q c) → l c = true → MSl vals q M l m (q c) = some R
  | 0, h, _, _ => by omega
  | m + 1, h, hne, hl => by
    simp only [MSl]
    by_cases he : c = m
    · subst he
      rw [if_pos hl, hc]; simp [memUp, upd]
    · have ih := MSl_new (M := M) hc m (by omega) (fun k hk => hne k (by omega)) hl
      split
      · cases hu : (vals m).2 with
        | none => exact ih
        | some R' => simp only [memUp]; rw [upd_ne _ _ (Ne.symm (hne m (by omega) (Ne.symm he) (by simp [hu])))]; exact ih
      · exact ih
theorem MSl_put {vals : Nat → SV × Option Reg} {q : Nat → Nat} {M : Mem} {l : Nat → Bool} {i : Nat} (hl : l i = false) : ∀ (m : Nat), i < m → (∀ k, k < m → k ≠ i → (vals k).2 ≠ none → (vals i).2 ≠ none → q k ≠ q i) →
    MSl vals q M (fun k => if k = i then true else l k) m = memUp (MSl vals q M l m) (q i) (vals i).2
  | 0, h, _ => by omega
  | m + 1, h, hne => by
    simp only [MSl]
    by_cases he : i = m
    · subst he
      rw [if_pos (by simp), if_neg (by simp [hl])]
      congr 1
      have : ∀ j, j ≤ i → MSl vals q M (fun k => if k = i then true else l k) j = MSl vals q M l j := by
        intro j
        induction j with
        | zero => intro _; rfl
        | succ j ih =>
          intro hj
          simp only [MSl]
          have hji : ¬ j = i := by omega
          simp only [ih (by omega), hji, if_false]
      exact this i (Nat.le_refl _)
    · have ih := MSl_put (vals := vals) (q := q) (M := M) hl m (by omega) (fun k hk => hne k (by omega))
      have hmi : ¬ m = i := Ne.symm he
      simp only [ih, hmi, if_false]
      split
      · cases hu : (vals m).2 with
        | none => rfl
        | some R =>
          cases hi : (vals i).2 with
          | none => rfl
          | some R' =>
            simp only [memUp]
            funext x
            have := hne m (by omega) (Ne.symm he) (by simp [hu]) (by simp [hi])
            simp only [upd]
            split
            · rename_i h1; subst h1; rw [if_neg this]
            · rfl
      · rfl
theorem ESl_put {ops : Array Oper} {vals : Nat → SV × Option Reg} {E : Env} {l : Nat → Bool} {i : Nat} (hl : l i = false) : ∀ (m : Nat), i < m → (∀ k, i < k → k < m → l k = true → ∀ t, (ops[i]?).bind (·.dst) = some t → (ops[k]?).bind (·.dst) ≠ some t) →
    ESl ops vals E (fun k => if k = i then true else l k) m = envPut (ESl ops vals E l m) ((ops[i]?).bind (·.dst)) (vals i).1
  | 0, h, _ => by omega
  | m + 1, h, hne => by
    simp only [ESl]
    by_cases he : i = m
    · subst he
      rw [if_pos (by simp), if_neg (by simp [hl])]
      congr 1
      have : ∀ j, j ≤ i → ESl ops vals E (fun k => if k = i then true else l k) j = ESl ops vals E l j := by
        intro j
        induction j with
        | zero => intro _; rfl
        | succ j ih =>
          intro hj
          simp only [ESl]
          have hji : ¬ j = i := by omega
          simp only [ih (by omega), hji, if_false]
      exact this i (Nat.le_refl _)
    · have ih := ESl_put (vals := vals) (E := E) hl m (by omega) (fun k h1 h2 => hne k h1 (by omega))
      have hmi : ¬ m = i := Ne.symm he
      simp only [ih, hmi, if_false]
      split
      · rename_i hlm
        cases hu : (ops[m]?).bind (·.dst) with
        | none => rfl
        | some d =>
          cases hi : (ops[i]?).bind (·.dst) with
          | none => rfl
          | some d' =>
            have hdd : d ≠ d' := fun e => hne m (by omega) (by omega) hlm d' hi (by rw [hu, e])
            simp only [envPut]
            funext x
            simp only [upd]
            split
            · rename_i h1; subst h1; rw [if_neg hdd]
            · rfl
      · rfl
end
end Go.Gx
