/-
  Maps that are ranged over; regions of open order with writes.
-/
import Derived.Test.YtnajladibkpeaaaK5
import Derived.Maps.RangeRun
set_option linter.unusedVariables false
set_option linter.unusedSimpArgs false
namespace Go.Gx
open Go.RowKit Go.ChangeMaps

section
variable {P : Program} {T : Tab} {B W F : Nat → Prop} {w0 : W0} {N : Cfg} {n0 : Nat} {σ σ' : Sig} {M M' : Mem} {nx : Nat} {w w' : World} {a : Act} {E E' : Env}

theorem MapOf.born_inj {has : Int → Bool} {R : Int → Value → Prop} {es : List MapEntry} {ck : Nat} (h : MapOf has R es ck) {x y : MapEntry} (hx : x ∈ es) (hy : y ∈ es) (hb : x.born = y.born) : x = y := by
  obtain ⟨i, hi, rfl⟩ := List.getElem_of_mem hx
  obtain ⟨j, hj, rfl⟩ := List.getElem_of_mem hy
  have hp := List.pairwise_iff_getElem.1 h.2.2.1
  rcases Nat.lt_trichotomy i j with h1 | h1 | h1
  · exact absurd hb (hp i j hi hj h1).2
  · subst h1; rfl
  · exact absurd hb.symm (hp j i hj hi h1).2
theorem MapOf.key_inj {has : Int → Bool} {R : Int → Value → Prop} {es : List MapEntry} {ck : Nat} (h : MapOf has R es ck) {x y : MapEntry} (hx : x ∈ es) (hy : y ∈ es) (hb : x.key = y.key) : x = y := by
  obtain ⟨i, hi, rfl⟩ := List.getElem_of_mem hx
  obtain ⟨j, hj, rfl⟩ := List.getElem_of_mem hy
  have hp := List.pairwise_iff_getElem.1 h.2.2.1
  rcases Nat.lt_trichotomy i j with h1 | h1 | h1
  · exact absurd hb (hp i j hi hj h1).1
  · subst h1; rfl
  · exact absurd hb.symm (hp j i hj hi h1).1

/-- The map of a region: what is known of its block. -/
theorem reg_map (hm : MOK B W n0 σ M F w) {q : Nat} {has : Int → Bool} {val : Int → SV} {st : Option ((Int → Nat) × Nat)} (hQ : M q = some (.map has val st)) {L : Loc} {b : Nat} (h1 : σ q = some L) (h2 : L.at_ = some b) :
    ∃ (es : Array MapEntry) (ck : Nat), w.heap[b]? = some (.map es ck) ∧ MapOf has (fun a v => (val a).rel σ (Zof B σ M w) w v) es.toList ck ∧ ∀ f c, st = some (f, c) → ck = c ∧ ∀ e ∈ es.toList, ∀ a, e.key = .int .i64 a → e.born = f a := by
  obtain ⟨L', e1, b', es, ck, f1, f2, f3, f4⟩ := hm.reg q _ hQ
  rw [h1] at e1; cases e1
  rw [h2] at f1; cases f1
  exact ⟨es, ck, f2, f3, f4⟩

theorem set_same_w (hm : MOK B W n0 σ M F w) {ref : Nat} {R R' : Reg} (hM : M ref = some R) (hR : ∀ L Z, σ ref = some L → RegOK σ Z w L R → RegOK σ Z w L R') :
    MOK B W n0 σ (upd M ref (some R')) F w ∧ Keep (Zof B σ M w) (Zof B σ (upd M ref (some R')) w) w w := by
  have hz : ∀ b, Zof B σ M w b → Zof B σ (upd M ref (some R')) w b := by
    intro b hb
    refine ⟨hb.1, fun r R1 L h1 h2 h3 => ?_⟩
    by_cases hr : r = ref
    · subst hr; exact hb.2 r R L hM h2 h3
    · rw [upd_ne _ _ hr] at h1; exact hb.2 r R1 L h1 h2 h3
  have hk : Keep (Zof B σ M w) (Zof B σ (upd M ref (some R')) w) w w := fun b hb => ⟨hz b hb, rfl⟩
  refine ⟨⟨hm.newB, hm.fresh, fun r R1 h => ?_, fun r r' R1 R2 L1 L2 x h1 h2 h3 h4 h5 h6 => ?_, fun r R1 L x h1 h2 h3 => ?_⟩, hk⟩
  · by_cases hr : r = ref
    · subst hr
      rw [upd_same] at h; cases h
      obtain ⟨L, e1, e2⟩ := hm.reg r R hM
      exact ⟨L, e1, hR _ _ e1 (e2.mono (fun _ _ h => h) hk (fun _ _ => rfl))⟩
    · rw [upd_ne _ _ hr] at h
      obtain ⟨L, e1, e2⟩ := hm.reg r R1 h
      exact ⟨L, e1, e2.mono (fun _ _ h => h) hk (fun _ _ => rfl)⟩
  · have ex : ∀ r R1, upd M ref (some R') r = some R1 → ∃ R2, M r = some R2 := by
      intro r R1 h
      by_cases hr : r = ref
      · exact ⟨R, by rw [hr]; exact hM⟩
      · rw [upd_ne _ _ hr] at h; exact ⟨_, h⟩
    obtain ⟨q1, a1⟩ := ex _ _ h1
    obtain ⟨q2, a2⟩ := ex _ _ h2
    exact hm.inj r r' q1 q2 L1 L2 x a1 a2 h3 h4 h5 h6
  · by_cases hr : r = ref
    · subst hr; exact hm.own r R L x hM h2 h3
    · rw [upd_ne _ _ hr] at h1; exact hm.own r R1 L x h1 h2 h3

/-- 'range m': a new iterator; the entries' stamps and the map's clock are given names. -/
theorem GOp_range (hT : TabOK P T) {K : Env → Mem → Nat → Prop} {d : Option Tmp} {t ty : TypeId} {pos : String} {af : Array Edge} {x : Operand} {q : Nat} {has : Int → Bool} {val : Int → SV} {st : Option ((Int → Nat) × Nat)}
    (hx : ev E x = .mp q) (hQ : M q = some (.map has val st)) (ht : (mapE T t).isSome = true) (hd : dOK N.n d)
    (h : ∀ f c, K (envPut E d (.ptr nx 0 1 0)) (upd (upd M q (some (.map has val (some (f, c))))) nx (some (.iter (.mp q) f c has has none))) (nx + 1)) :
    GOpW P N ⟨d, .range t x, ty, pos, af, none⟩ E M nx K := by
  intro B W w0 σ a w hs next Q' hK
  obtain ⟨e, he⟩ := Option.isSome_iff_exists.1 ht
  obtain ⟨k, hu, hk⟩ := mapE_spec hT he
  have hr := ev_rel hs.env x
  rw [hx] at hr
  obtain ⟨L, b, h1, h2, h3⟩ := hr
  obtain ⟨es, ck, g1, g2, g3⟩ := reg_map hs.mem hQ h1 h2
  have hrun : (execOp a.eval ⟨d, .range t x, ty, pos, af, none⟩).run P w = .ok (.value (.pointer (some ⟨w.heap.size, 0, none⟩))) (w.alloc (.mapIter (some b) ck #[] ck)) := by
    simp [execOp, h3, Instr.range, run_underlying hu, MapKept.run_getObj_map g1, newObj, Sem.run, Result.andThen]
  let f : Int → Nat := fun a => ((es.toList.find? fun e => match e.key with | .int .i64 n => decide (n = a) | _ => false).map (·.born)).getD 0
  have hf : ∀ e ∈ es.toList, ∀ a, e.key = .int .i64 a → e.born = f a := by
    intro e he a hka
    show e.born = _
    cases hq : es.toList.find? (fun e => match e.key with | .int .i64 n => decide (n = a) | _ => false) with
    | none =>
      have := List.find?_eq_none.1 hq e he
      rw [hka] at this; simp at this
    | some e' =>
      have h4 := List.find?_some hq
      have h5 := List.mem_of_find?_eq_some hq
      have h6 : e'.key = .int .i64 a := by
        cases hk' : e'.key with
        | int k n =>
          rw [hk'] at h4
          cases k <;> simp at h4
          rw [h4]
        | _ => rw [hk'] at h4; simp at h4
      have h7 : e = e' := g2.key_inj he h5 (by rw [hka, h6])
      have h8 : f a = e'.born := by
        show ((es.toList.find? _).map (·.born)).getD 0 = _
        rw [hq]; rfl
      rw [h7, h8]
  obtain ⟨m1, m2⟩ := set_same_w (R' := .map has val (some (f, ck))) hs.mem hQ (fun L' Z hL hR => by
    obtain ⟨b', es', ck', q1, q2, q3, q4⟩ := hR
    rw [h1] at hL; cases hL
    rw [h2] at q1; cases q1
    rw [g1] at q2; cases q2
    exact ⟨b, es, ck, h2, g1, q3, fun f' c' hc => by cases hc; exact ⟨rfl, hf⟩⟩)
  have hold : ∀ b', b' < w.heap.size → (w.alloc (.mapIter (some b) ck #[] ck)).heap[b']? = w.heap[b']? := fun b' h => heap_old w _ b' h
  have hQ' : upd M q (some (.map has val (some (f, ck)))) q = some (.map has val (some (f, ck))) := upd_same ..
  obtain ⟨e1, e2, e3⟩ := mem_new (w' := w.alloc (.mapIter (some b) ck #[] ck)) (L := ⟨some w.heap.size, 0⟩) (R := .iter (.mp q) f ck has has none) m1 (Nat.le_refl nx) hs.fr.size (by simp) hold (fun b hb => by cases hb; exact Nat.le_refl _)
    (fun σ' Z' hs' hk => ⟨w.heap.size, some b, #[], ck, rfl, heap_new w _, Nat.le_refl _, ⟨L, b, hs' _ _ h1, h2, rfl⟩, fun a ha => by simp [ha], by simp⟩)
  unfold Oper.wp
  rw [hrun]
  refine hK _ _ _ _ _ _ (h f ck) (St.put ⟨fun t => SV.rel_mono e3 e2 _ _ (SV.rel_mono (fun _ _ h => h) m2 _ _ (hs.env t)), e1.weaken fun r hr => ⟨Nat.le_of_succ_le hr, Nat.ne_of_gt hr⟩, hs.fr.step ⟨rfl, rfl, rfl, by simp, fun b hb _ => hold b (Nat.lt_of_lt_of_le hb hs.fr.size)⟩, hs.defers, hs.size, Nat.le_succ_of_le hs.low, fun r hr => (upd_ne _ _ (Nat.ne_of_lt (Nat.lt_of_lt_of_le hr hs.low))).trans (hs.pin r hr)⟩ hd ?_)
  exact ⟨_, w.heap.size, upd_same .., rfl, rfl⟩

/-- 'next': nothing is left, or some key that is left. -/
theorem GOp_next {K : Env → Mem → Nat → Prop} {d : Option Tmp} {ty : TypeId} {pos : String} {af : Array Edge} {x : Operand} {q ref kk : Nat} {f : Int → Nat} {c : Nat} {all left has : Int → Bool} {la : Option Int} {val : Int → SV}
    (hx : ev E x = .ptr ref 0 kk 0) (hM : M ref = some (.iter (.mp q) f c all left la)) (hQ : M q = some (.map has val (some (f, c)))) (hall : ∀ a, has a = all a) (hd : dOK N.n d)
    (h1 : ∀ a, has a = true → left a = true → K (envPut E d (.tup [.b true, .i a, val a])) (upd M ref (some (.iter (.mp q) f c all (fun x => left x && !decide (x = a)) (some a)))) nx)
    (h0 : (∀ a, has a = true → left a = false) → K (envPut E d (.tup [.b false])) M nx) :
    GOpW P N ⟨d, .next x false, ty, pos, af, none⟩ E M nx K := by
  intro B W w0 σ a w hs nxt Q' hK
  have hr := ev_rel hs.env x
  rw [hx] at hr
  obtain ⟨L, b, r1, r2, r3⟩ := hr
  obtain ⟨L', e1, b', mo, seen, sp, g1, g2, g3, g4, g5, g6⟩ := hs.mem.reg ref _ hM
  rw [r1] at e1; cases e1
  rw [r2] at g1; cases g1
  obtain ⟨Lq, bq, k1, k2, k3⟩ := g4
  cases k3
  obtain ⟨es, ck, q1, q2, q3⟩ := reg_map hs.mem hQ k1 k2
  obtain ⟨rfl, q4⟩ := q3 f c rfl
  have hne : bq ≠ b := fun e => by
    subst e; rw [q1] at g2; cases g2
  have r3' : a.eval x = .pointer (some ⟨b, 0, none⟩) := by rw [r3]; simp
  unfold Oper.wp
  rcases run_next_at (P := P) w ty b bq ck sp seen es ck g2 q1 q2.2.2.2 g3 with ⟨n1, n2⟩ | ⟨en, n1, w1, n2, n3⟩
  · have hrun : (execOp a.eval ⟨d, .next x false, ty, pos, af, none⟩).run P w = .ok (.value (.tuple #[.bool false])) w := by
      simp [execOp, r3', n2, Result.andThen]
    rw [hrun]
    refine hK _ _ _ _ _ _ (h0 fun k hk => ?_) (St.put hs hd ⟨[.bool false], rfl, _, _, rfl, rfl, rfl⟩)
    cases hl : left k with
    | false => rfl
    | true =>
      obtain ⟨e', m1, m2⟩ := q2.2.1 k hk
      have m3 := (g5 k (by rw [← hall]; exact hk)).1 hl
      have : e' ∈ (leftOf es seen).toList := by
        simp only [leftOf, Array.toList_filter, List.mem_filter]
        refine ⟨m1, ?_⟩
        rw [q4 e' m1 k m2]
        simpa using m3
      have hz : (leftOf es seen).toList = [] := List.eq_nil_of_length_eq_zero (by simpa using n1)
      rw [hz] at this; simp at this
  · have hrun : (execOp a.eval ⟨d, .next x false, ty, pos, af, none⟩).run P w = .ok (.value (.tuple #[.bool true, en.key, en.val])) (setBlock w1 b (.mapIter (some bq) ck (seen.push en.born) ck)) := by
      simp [execOp, r3', n3, Result.andThen]
    rw [hrun]
    simp only [leftOf, Array.toList_filter, List.mem_filter] at n1
    obtain ⟨n4, n5⟩ := n1
    obtain ⟨k, p1, p2, p3, p4⟩ := q2.1 en n4
    have hb := q4 en n4 k p1
    have hlk : left k = true := (g5 k (by rw [← hall]; exact p2)).2 (by rw [← hb]; simpa using n5)
    have hw1 : w1.heap = w.heap ∧ w1.os = w.os ∧ w1.tape = w.tape ∧ w1.output = w.output := by rcases n2 with rfl | rfl <;> exact ⟨rfl, rfl, rfl, rfl⟩
    have hbw : w1.heap[b]? = some (.mapIter (some bq) ck seen sp) := by rw [hw1.1]; exact g2
    obtain ⟨z1, z2, z3⟩ := heap_setB (o' := .mapIter (some bq) ck (seen.push en.born) ck) hbw
    have hsame : ∀ x, x ≠ b → (setBlock w1 b (.mapIter (some bq) ck (seen.push en.born) ck)).heap[x]? = w.heap[x]? := fun x hx => by rw [z2 x hx, hw1.1]
    have hsz : (setBlock w1 b (.mapIter (some bq) ck (seen.push en.born) ck)).heap.size = w.heap.size := by rw [z3, hw1.1]
    obtain ⟨m1, m2⟩ := mem_set (w' := setBlock w1 b (.mapIter (some bq) ck (seen.push en.born) ck)) (R := .iter (.mp q) f ck all (fun x => left x && !decide (x = k)) (some k)) hs.mem hM r1 r2 hsz hsame
      (fun Z' hk => ⟨b, some bq, seen.push en.born, ck, r2, z1, Nat.le_refl _, ⟨Lq, bq, k1, k2, rfl⟩, fun y hy => by
        have h5 := g5 y hy
        simp only [Array.toList_push, List.mem_append, List.mem_singleton, not_or, Bool.and_eq_true, Bool.not_eq_true', decide_eq_false_iff_not]
        rw [h5]
        constructor
        · rintro ⟨t1, t2⟩
          refine ⟨t1, fun t3 => t2 ?_⟩
          obtain ⟨ey, u1, u2⟩ := q2.2.1 y (by rw [hall]; exact hy)
          have : ey = en := q2.born_inj u1 n4 (by rw [q4 ey u1 y u2, t3])
          subst this
          rw [p1] at u2; cases u2; rfl
        · rintro ⟨t1, t2⟩
          exact ⟨t1, fun t3 => t2 (by rw [t3, hb])⟩, fun y hy => by
        cases hy
        exact ⟨rfl, by simp [hb]⟩⟩)
    have hfr : FrS W w0.heap.size w (setBlock w1 b (.mapIter (some bq) ck (seen.push en.born) ck)) := by
      refine ⟨hw1.2.1, hw1.2.2.1, hw1.2.2.2, by rw [hsz]; exact Nat.le_refl _, fun x hx hw => hsame x fun e => ?_⟩
      subst e
      rcases hs.mem.own ref _ L x hM r1 r2 with h' | h'
      · exact hw h'
      · omega
    refine hK _ _ _ _ _ _ (h1 k p2 hlk) (St.put (hs.go m1 hfr (fun t z hz => SV.rel_mono (fun _ _ h => h) m2 _ _ hz) hs.low fun _ _ => rfl) hd ?_)
    refine ⟨[.bool true, en.key, en.val], rfl, _, _, rfl, rfl, _, _, rfl, p1, _, _, rfl, ?_, rfl⟩
    exact SV.rel_mono (fun _ _ h => h) m2 _ _ p4

/-- The key and the element of the step. -/
theorem GOp_entry {K : Env → Mem → Nat → Prop} {d : Option Tmp} {ty : TypeId} {pos : String} {af : Array Edge} {x : Operand} {q ref kk : Nat} {f : Int → Nat} {c : Nat} {all left has : Int → Bool} {k : Int} {val : Int → SV}
    (hx : ev E x = .ptr ref 0 kk 0) (hM : M ref = some (.iter (.mp q) f c all left (some k))) (hQ : M q = some (.map has val (some (f, c)))) (hk : has k = true) (hd : dOK N.n d)
    (h : K (envPut E d (.tup [.i k, val k])) M nx) : GOpW P N ⟨d, .entry x, ty, pos, af, none⟩ E M nx K := by
  intro B W w0 σ a w hs nxt Q' hK
  have hr := ev_rel hs.env x
  rw [hx] at hr
  obtain ⟨L, b, r1, r2, r3⟩ := hr
  obtain ⟨L', e1, b', mo, seen, sp, g1, g2, g3, g4, g5, g6⟩ := hs.mem.reg ref _ hM
  rw [r1] at e1; cases e1
  rw [r2] at g1; cases g1
  obtain ⟨Lq, bq, k1, k2, k3⟩ := g4
  cases k3
  obtain ⟨es, ck, q1, q2, q3⟩ := reg_map hs.mem hQ k1 k2
  obtain ⟨rfl, q4⟩ := q3 f c rfl
  obtain ⟨rfl, g7⟩ := g6 k rfl
  have r3' : a.eval x = .pointer (some ⟨b, 0, none⟩) := by rw [r3]; simp
  obtain ⟨e', m1, m2⟩ := q2.2.1 k hk
  obtain ⟨k', p1, p2, p3, p4⟩ := q2.1 e' m1
  rw [m2] at p1; cases p1
  have hfind : es.find? (·.born == f k) = some e' := by
    rw [← Array.find?_toList]
    have : ∃ e, es.toList.find? (·.born == f k) = some e := by
      cases hq : es.toList.find? (·.born == f k) with
      | none =>
        have := List.find?_eq_none.1 hq e' m1
        rw [q4 e' m1 k m2] at this; simp at this
      | some e => exact ⟨e, rfl⟩
    obtain ⟨e, he⟩ := this
    rw [he]
    have h4 := List.find?_some he
    have h5 := List.mem_of_find?_eq_some he
    rw [q2.born_inj h5 m1 (by rw [q4 e' m1 k m2]; simpa using h4)]
  have hrun : (execOp a.eval ⟨d, .entry x, ty, pos, af, none⟩).run P w = .ok (.value (.tuple #[.int .i64 k, e'.val])) w := by
    simp [execOp, r3', Instr.entry, getObj, Sem.run, g2, g7, q1, hfind, m2, Result.andThen]
  unfold Oper.wp
  rw [hrun]
  exact hK _ _ _ _ _ _ h (St.put hs hd ⟨[.int .i64 k, e'.val], rfl, _, _, rfl, rfl, _, _, rfl, p4, rfl⟩)
end
end Go.Gx
/-
  Regions of open order with writes: all orders as a tree; what depends on no memory goes first.
-/
set_option linter.unusedVariables false
set_option linter.unusedSimpArgs false
namespace Go.Gx
open Go.RowKit

inductive TT where
  | done
  | bad
  | nil
  | alt (i : Nat) (sub more : TT)
  | take (i : Nat) (sub : TT)

/-- What goes first: it reads no memory. -/
def takes (o : Oper) : Bool := o.guard.isNone && match o.op with | .fieldAddr .. | .move _ | .assign _ => true | _ => false
def gtake (T : Tab) (E : Env) : Op → GR
  | .fieldAddr t x f => gfield T t (ev E x) f
  | .move x | .assign x => .pure True (ev E x)
  | _ => .bad
def TT.make (ops : Array Oper) : Nat → Array Bool → TT
  | 0, l => if (Region.ready .any ops l).isEmpty then .done else .bad
  | n + 1, l =>
    let r := Region.ready .any ops l
    if r.isEmpty then .done else
    match r.find? fun i => ((ops[i]?).map takes).getD false && Region.free .any ops l i with
    | some i => .take i (TT.make ops n (l.setIfInBounds i true))
    | none => r.foldr (fun i t => .alt i (TT.make ops n (l.setIfInBounds i true)) t) .nil

section
variable (P : Program) (T : Tab) (N : Cfg)
def TQ (K : Env → Mem → Nat → Prop) : GQ := fun e E M nx => match e with | .normal => K E M nx | _ => True
def GTk (g : GR) (d : Option Tmp) (K : Env → Mem → Nat → Prop) (E : Env) (M : Mem) (nx : Nat) : Prop :=
  match g with
  | .pure ob s => ob ∧ dOK N.n d ∧ K (envPut E d s) M nx
  | _ => False
def GU (all : Array Oper) : TT → List It → GQ → Env → Mem → Nat → Prop
  | .done, k, Q, E, M, nx => GK P T N k Q .normal E M nx
  | .bad, _, _, _, _, _ => False
  | .nil, _, _, _, _, _ => True
  | .alt i sub more, k, Q, E, M, nx => (match all[i]? with | some o => GO P T N all [o] [] (TQ (GU all sub k Q)) E M nx | none => False) ∧ GU all more k Q E M nx
  | .take i sub, k, Q, E, M, nx => match all[i]? with | some o => GTk N (gtake T E o.op) o.dst (GU all sub k Q) E M nx | none => False
def GUo (o : Option Oper) (all : Array Oper) (sub : TT) (k : List It) (Q : GQ) (E : Env) (M : Mem) (nx : Nat) : Prop :=
  match o with | some o => GO P T N all [o] [] (TQ (GU P T N all sub k Q)) E M nx | none => False
def GUt (o : Option Oper) (all : Array Oper) (sub : TT) (k : List It) (Q : GQ) (E : Env) (M : Mem) (nx : Nat) : Prop :=
  match o with | some o => GTk N (gtake T E o.op) o.dst (GU P T N all sub k Q) E M nx | none => False
end
section
variable {P : Program} {T : Tab} {N : Cfg} {k : List It} {Q : GQ} {E : Env} {M : Mem} {nx : Nat}
@[go_sem] theorem TQ_normal (K : Env → Mem → Nat → Prop) : TQ K .normal E M nx = K E M nx := (rfl)
@[go_sem] theorem GU_done (all : Array Oper) : GU P T N all .done k Q E M nx = GK P T N k Q .normal E M nx := (rfl)
@[go_sem] theorem GU_nil (all : Array Oper) : GU P T N all .nil k Q E M nx = True := (rfl)
@[go_sem] theorem GU_alt (all : Array Oper) (i : Nat) (s m : TT) : GU P T N all (.alt i s m) k Q E M nx = (GUo P T N all[i]? all s k Q E M nx ∧ GU P T N all m k Q E M nx) := (rfl)
@[go_sem] theorem GU_take (all : Array Oper) (i : Nat) (s : TT) : GU P T N all (.take i s) k Q E M nx = GUt P T N all[i]? all s k Q E M nx := (rfl)
@[go_sem] theorem GUo_some (all : Array Oper) (o : Oper) (s : TT) : GUo P T N (some o) all s k Q E M nx = GO P T N all [o] [] (TQ (GU P T N all s k Q)) E M nx := (rfl)
@[go_sem] theorem GUt_some (all : Array Oper) (d : Option Tmp) (op : Op) (ty : TypeId) (pos : String) (af : Array Edge) (g : Option (Nat × Bool)) (s : TT) :
    GUt P T N (some ⟨d, op, ty, pos, af, g⟩) all s k Q E M nx = GTk N (gtake T E op) d (GU P T N all s k Q) E M nx := (rfl)
@[go_sem] theorem GTk_pure (ob : Prop) (s : SV) (d : Option Tmp) (K : Env → Mem → Nat → Prop) : GTk N (.pure ob s) d K E M nx = (ob ∧ dOK N.n d ∧ K (envPut E d s) M nx) := (rfl)
@[go_sem] theorem gtake_fieldAddr (t : TypeId) (x : Operand) (f : Nat) : gtake T E (.fieldAddr t x f) = gfield T t (ev E x) f := (rfl)
@[go_sem] theorem gtake_move (x : Operand) : gtake T E (.move x) = .pure True (ev E x) := (rfl)
@[go_sem] theorem gtake_assign (x : Operand) : gtake T E (.assign x) = .pure True (ev E x) := (rfl)

theorem take_field (hT : TabOK P T) {t : TypeId} {f : Nat} {s s' : SV} {ob : Prop} (hg : gfield T t s f = .pure ob s') (hob : ob) {σ : Sig} {Z : Nat → Prop} {w0 : World} {x : Value} (hx : s.rel σ Z w0 x) :
    ∃ y, (∀ w, (Instr.fieldAt t x f).run P w = .ok y w) ∧ s'.rel σ Z w0 y := by
  unfold gfield at hg
  split at hg
  · rename_i sz by_ ze fs hti
    obtain ⟨fa, hu, hsz, hget⟩ := und_struct (hT.ti t _ hti) rfl
    split at hg
    · rename_i o sz' g hf
      obtain ⟨fd, h1, rfl, h3, _⟩ := hget f _ _ _ hf
      have key : ∀ (b q : Nat), sz' ≠ 0 → ∀ w, (Instr.fieldAt t (.pointer (some ⟨b, q, none⟩)) f).run P w = .ok (.pointer (some ⟨b, q + fd.offset, none⟩)) w := by
        intro b q h0 w
        simp [Instr.fieldAt, run_underlying hu, h1, Instr.sureAddr, fieldPlace, run_sizeIs h3, h0, add_none]
      split at hg
      · rename_i ref row k fld
        cases hg
        obtain ⟨L, b, g1, g2, rfl⟩ := hx
        exact ⟨_, key b _ hob, L, b, g1, g2, by congr 3; omega⟩
      · rename_i k n get row fld
        cases hg
        obtain ⟨b, q, rfl, hz, hc⟩ := hx
        exact ⟨_, key b _ hob, b, q, by congr 3; omega, hz, hc⟩
      · cases hg
    · cases hg
  · cases hg

theorem gu_alts {all : Array Oper} {f : Nat → TT} : ∀ (l : List Nat), GU P T N all (l.foldr (fun i t => .alt i (f i) t) .nil) k Q E M nx →
    ∀ i ∈ l, ∃ o, all[i]? = some o ∧ gops P T N all [o] E M nx (fun E M nx => GU P T N all (f i) k Q E M nx)
  | [], _, i, hi => by simp at hi
  | j :: l, h, i, hi => by
    simp only [List.foldr_cons, GU] at h
    rcases List.mem_cons.1 hi with rfl | hi
    · have h1 := h.1
      cases ho : all[i]? with
      | none => rw [ho] at h1; exact h1.elim
      | some o => rw [ho] at h1; exact ⟨o, rfl, h1⟩
    · exact gu_alts l h.2 i hi

theorem gu_any (hT : TabOK P T) {B W : Nat → Prop} {w0 : W0} {all : Array Oper} (hsel : Region.noSelect all = true) {R : Exit → Act → World → Prop}
    (hK : ∀ E M nx σ a w, GK P T N k Q .normal E M nx → St B W w0 N σ E M nx a w → R .normal a w) (hR : ∀ c a w, ¬ R (.panic c) a w) : ∀ (fuel : Nat) (listed : Array Bool) (E : Env) (M : Mem) (nx : Nat) (σ : Sig) (a : Act) (w : World),
    St B W w0 N σ E M nx a w → GU P T N all (TT.make all fuel listed) k Q E M nx → wpAny P .any all R fuel listed a w := by
  intro fuel
  induction fuel with
  | zero =>
    intro listed E M nx σ a w h hg
    simp only [TT.make] at hg
    split at hg
    · rename_i hr
      exact ⟨List.isEmpty_iff.1 hr, hK _ _ _ _ _ _ hg h⟩
    · exact hg.elim
  | succ fuel ih =>
    intro listed E M nx σ a w h hg
    simp only [TT.make] at hg
    split at hg
    · rename_i hr
      have hr' := List.isEmpty_iff.1 hr
      refine ⟨fun _ => hK _ _ _ _ _ _ hg h, fun i hi => ?_⟩
      rw [hr'] at hi; simp at hi
    · rename_i hr
      split at hg
      · rename_i i hi
        have hp := List.find?_some hi
        have hmem := List.mem_of_find?_eq_some hi
        simp only [Bool.and_eq_true] at hp
        obtain ⟨hp1, hp2⟩ := hp
        simp only [GU] at hg
        cases ho : all[i]? with
        | none => rw [ho] at hg; exact hg.elim
        | some o =>
          rw [ho] at hg hp1
          simp only [Option.map_some, Option.getD_some] at hp1
          obtain ⟨dst, op, ty, pos, af, gd⟩ := o
          simp only [takes, Bool.and_eq_true, Option.isNone_iff_eq_none] at hp1
          obtain ⟨rfl, hp1⟩ := hp1
          have hw : Region.wanted ⟨dst, op, ty, pos, af, none⟩ (yielded all a.tmps) = true := by simp [Region.wanted]
          have fin : ∀ (s : SV) (y : Value), (∀ w, (execOp a.eval ⟨dst, op, ty, pos, af, none⟩).run P w = .ok (.value y) w) → s.rel σ (Zof B σ M w) w y → dOK N.n dst → GU P T N all (TT.make all fuel (listed.setIfInBounds i true)) k Q (envPut E dst s) M nx → wpAny P .any all R (fuel + 1) listed a w := by
            intro s y h1 h2 h3 h4
            exact wpAny_take (v := y) ho hsel hp2 (by simpa using hmem) (fun c a w hh => (hR _ _ _ hh).elim) (.inl ⟨hw, h1⟩) (ih _ _ _ _ _ _ _ (h.put h3 h2) h4)
          cases op with
          | fieldAddr t x f =>
            simp only [gtake] at hg
            cases hq : gfield T t (ev E x) f with
            | pure ob s =>
              rw [hq] at hg
              obtain ⟨h1, h2, h3⟩ := hg
              obtain ⟨y, e1, e2⟩ := take_field hT hq h1 (ev_rel h.env x)
              exact fin s y (fun w => by simp [execOp, e1]) e2 h2 h3
            | _ => rw [hq] at hg; exact hg.elim
          | move x =>
            obtain ⟨_, h2, h3⟩ := hg
            exact fin _ (a.eval x) (fun w => rfl) (ev_rel h.env x) h2 h3
          | assign x =>
            obtain ⟨_, h2, h3⟩ := hg
            exact fin _ (a.eval x) (fun w => rfl) (ev_rel h.env x) h2 h3
          | _ => simp at hp1
      · refine ⟨fun h' => absurd (List.isEmpty_iff.2 h') hr, fun i hi => ?_⟩
        obtain ⟨o, ho, hgo⟩ := gu_alts _ hg i hi
        have hs := gops_step (Q := R) (next := wpAny P .any all R fuel (listed.setIfInBounds i true)) hT h hgo (fun E' M' nx' σ' a' w' hk hs => ih _ E' M' nx' σ' a' w' hs hk)
        unfold wpOp; rw [ho]; simp only []
        split
        · rename_i hw; rw [if_pos hw] at hs; exact .inl hs
        · rename_i hw; rw [if_neg hw] at hs; exact hs

/-- A region of open order, by all its orders. -/
theorem GDraw_any (hT : TabOK P T) (hm : P.follows .mixedOrders = true) {id : Nat} {all : Array Oper} {t : TT} (hsel : Region.noSelect all = true) (ht : TT.make all all.size (Array.replicate all.size false) = t)
    (hp : ∀ c E M nx, GK P T N k Q (.panic c) E M nx → False) (h : GU P T N all t k Q E M nx) : GDraw P T N id all k Q E M nx := by
  subst ht
  intro B W w0 σ a w hs
  refine wp_region_any hm (gu_any hT hsel (R := fun e a' w' => ∃ E' M' nx' σ', GK P T N k Q e E' M' nx' ∧ St B W w0 N σ' E' M' nx' a' w') (fun E M nx σ a w hk hst => ⟨E, M, nx, σ, hk, hst⟩) (fun c a w ⟨E, M, nx, σ, hk, _⟩ => hp _ _ _ _ hk) _ _ E M nx σ a _ hs.drawn h)
end
end Go.Gx
