/-
  Regions of open order by all their orders, told behind the region by slots and regions alone (a join).
-/
import Derived.Test.YtnajladibkpeaaaK9
import Derived.Test.YtnajladibkpeaaaFp
import Derived.Test.YtnajladibkpeaaaFo
set_option linter.unusedVariables false
set_option linter.unusedSimpArgs false
namespace Go.Gx
open Go.RowKit

section
variable {P : Program} {T : Tab} {N : Cfg} {k : List It} {Q : GQ} {E : Env} {M : Mem} {nx : Nat}
def JQ (S : List (Nat × SV)) (n : Nat) (φ : Mem → Prop) : GQ := fun e E M nx => match e with | .normal => slotsS n E S ∧ φ (trimM n M) | _ => False
@[go_sem] theorem JQ_normal (S : List (Nat × SV)) (n : Nat) (φ : Mem → Prop) : JQ S n φ .normal E M nx = (slotsS n E S ∧ φ (trimM n M)) := (rfl)
theorem gdraw_xj (hT : TabOK P T) (hm : P.follows .mixedOrders = true) {id : Nat} {all : Array Oper} {t : TT} (hsel : Region.noSelect all = true) (ht : TT.makeX all all.size (Array.replicate all.size false) = t)
    (hp : ∀ c E M nx, GK P T N k Q (.panic c) E M nx → False) {S : List (Nat × SV)} {n : Nat} {φ : Mem → Prop} {M1 : Mem} (hφ : ∀ E M nx, slotsS n E S → φ (trimM n M) → Fit N E M nx S M1 n)
    (h : GUX P T N all t [] (JQ S n φ) E M nx) (hk : ∀ J, GK P T N k Q .normal (updL J S) M1 n) : GDraw P T N id all k Q E M nx := by
  subst ht
  intro B W w0 σ a w hs
  refine wp_region_any hm (guX_any hT hsel (R := fun e a' w' => ∃ E' M' nx' σ', GK P T N k Q e E' M' nx' ∧ St B W w0 N σ' E' M' nx' a' w') (fun E M nx σ a w hk0 hst => ?_) (fun c a w ⟨E, M, nx, σ, hk, _⟩ => hp _ _ _ _ hk) _ _ E M nx σ a _ hs.drawn h)
  have hk1 : slotsS n E S ∧ φ (trimM n M) := hk0
  obtain ⟨J, hv⟩ := hφ E M nx hk1.1 hk1.2
  obtain ⟨σ1, h1⟩ := hv _ _ _ _ _ _ hst
  exact ⟨_, _, _, σ1, hk J, h1⟩
/-- Behind the region: the slots S and the regions l. -/
theorem GDraw_xs (S : List (Nat × SV)) (l : List (Option Reg)) (n : Nat) (hT : TabOK P T) (hm : P.follows .mixedOrders = true) {id : Nat} {all : Array Oper} {t : TT} (hsel : Region.noSelect all = true)
    (ht : TT.makeX all all.size (Array.replicate all.size false) = t) (hp : ∀ c E M nx, GK P T N k Q (.panic c) E M nx → False) (hl : l.length = n)
    (h : GUX P T N all t [] (JQ S n fun M => regsS 0 M l) E M nx) (hk : ∀ J, GK P T N k Q .normal (updL J S) (memL l) n) (hnp : N.np ≤ n := by first | exact Nat.zero_le _ | decide) : GDraw P T N id all k Q E M nx :=
  gdraw_xj hT hm hsel ht hp (fun E M nx h1 h2 => Fit.of_slotsS hnp h1 (regsS_memL hl h2)) h hk
/-- Behind the region: the slots S, the regions l, and a family. -/
theorem GDraw_xf (S : List (Nat × SV)) (l : List (Option Reg)) (b cnt : Nat) (R : Nat → Option Reg) (n : Nat) (hT : TabOK P T) (hm : P.follows .mixedOrders = true) {id : Nat} {all : Array Oper} {t : TT} (hsel : Region.noSelect all = true)
    (ht : TT.makeX all all.size (Array.replicate all.size false) = t) (hp : ∀ c E M nx, GK P T N k Q (.panic c) E M nx → False) (hl : l.length = b)
    (h : GUX P T N all t [] (JQ S n fun M => regsS 0 M l ∧ ∀ i, i < cnt → Reg.sub (M (i + b)) (R i)) E M nx) (hk : ∀ J, GK P T N k Q .normal (updL J S) (famN (memL l) b cnt R) n) (hnp : N.np ≤ n := by first | exact Nat.zero_le _ | decide) : GDraw P T N id all k Q E M nx :=
  gdraw_xj hT hm hsel ht hp (fun E M nx h1 h2 => Fit.of_famN hnp h1 hl h2.1 h2.2) h hk
end
end Go.Gx
/-
  Regions of open order: what is read and reckoned goes first, as ghosts; it is read again behind each step that is not so (nothing that was read has changed).
-/
set_option linter.unusedVariables false
set_option linter.unusedSimpArgs false
namespace Go.Gx
open Go.RowKit

/-- Two acts that differ at the places D alone. -/
def Agree (D : Nat → Prop) (a b : Act) : Prop := a.defers = b.defers ∧ a.tmps.size = b.tmps.size ∧ ∀ t, ¬ D t → a.tmps[t]? = b.tmps[t]?
section
variable {P : Program} {ops : Array Oper} {Q : Exit → Act → World → Prop} {D : Nat → Prop} {a b : Act} {w : World}
theorem Agree.eval (h : Agree D a b) {x : Operand} (hx : ∀ t, x = .tmp t → ¬ D t) : a.eval x = b.eval x := by
  cases x with
  | tmp t =>
    simp only [Act.eval, Array.getD_eq_getD_getElem?]
    rw [h.2.2 t (hx t rfl)]
  | _ => rfl
theorem Agree.put (h : Agree D a b) (d : Option Tmp) (v : Value) : Agree D (a.put d v) (b.put d v) := by
  cases d with
  | none => exact h
  | some d =>
    refine ⟨h.1, by simpa [Act.put] using h.2.1, fun t ht => ?_⟩
    simp only [Act.put, Array.getElem?_setIfInBounds, h.2.1, h.2.2 t ht]
theorem Agree.wanted (h : Agree D a b) (o : Oper) (hx : ∀ t ∈ o.looksAt ops, ¬ D t) : Region.wanted o (yielded ops a.tmps) = Region.wanted o (yielded ops b.tmps) := by
  unfold Region.wanted
  cases hg : o.guard with
  | none => rfl
  | some gw =>
    obtain ⟨g, want⟩ := gw
    have hy : yielded ops a.tmps g = yielded ops b.tmps g := by
      unfold yielded
      cases ht : (ops[g]?).bind (·.dst) with
      | none => rfl
      | some t =>
        have : a.tmps[t]? = b.tmps[t]? := h.2.2 t (hx t (by simp [Oper.looksAt, hg, ht]))
        simp [this]
    simp only [hy]
theorem Agree.exec (h : Agree D a b) (o : Oper) (hs : ∀ cs b, o.op ≠ .select cs b) (hx : ∀ t ∈ o.looksAt ops, ¬ D t) : execOp a.eval o = execOp b.eval o :=
  execOp_congr o hs fun x hx2 => h.eval fun t ht => hx t (by
    subst ht
    exact List.mem_append_left _ (List.mem_filterMap.2 ⟨.tmp t, by simpa using hx2, rfl⟩))
theorem wpOp_agree {j : Nat} {o : Oper} (hj : ops[j]? = some o) (hs : ∀ cs b, o.op ≠ .select cs b) (hx : ∀ t ∈ o.looksAt ops, ¬ D t) (hab : Agree D a b) (hQ : ∀ c a w, ¬ Q (.panic c) a w) {K K' : Act → World → Prop}
    (hK : ∀ a' b' w', Agree D a' b' → K' b' w' → K a' w') (h : wpOp P ops Q j K' b w) : wpOp P ops Q j K a w := by
  unfold wpOp at *
  simp only [hj] at *
  rw [hab.wanted o hx]
  split
  · rename_i hw
    simp only [hw, if_true] at h
    rcases h with h | ⟨h1, h2⟩
    case inr => exact .inr ⟨by unfold Oper.asks at *; rw [hab.exec o hs hx]; exact h1, h2⟩
    refine .inl ?_
    unfold Oper.wp at *
    rw [hab.exec o hs hx]
    generalize (execOp b.eval o).run P w = r at *
    cases r with
    | ok n w' =>
      cases n <;> simp only [Oper.upon] at h ⊢
      case value u => exact hK _ _ _ (hab.put _ _) h
      case skip => exact hK _ _ _ (hab.put _ _) h
      case defer d =>
        refine hK _ _ _ (Agree.put (a := { a with defers := d :: a.defers }) (b := { b with defers := d :: b.defers }) ⟨by simp [hab.1], hab.2.1, hab.2.2⟩ _ _) h
      case enter f args =>
        refine Calls.mono h fun e w'' he => ?_
        cases e with
        | returned u => exact hK _ _ _ (hab.put _ _) he
        | panicked c => exact (hQ _ _ _ he).elim
        | outgrown => exact he
      case row row args => exact Rows.mono h fun u w'' he => hK _ _ _ (hab.put _ _) he
    | halt x w' =>
      cases x <;> simp only [Oper.upon] at h ⊢
      case panic u => exact (hQ _ _ _ h).elim
  · rename_i hw
    simp only [hw] at h
    exact hK _ _ _ (hab.put _ _) h
end

/-- Trees of orders; p: what may stand out still at this place. -/
inductive TL where
  | done (p : List Nat)
  | bad
  | nil
  | alt (i : Nat) (p : List Nat) (sub more : TL)
  | take (i : Nat) (sub : TL)
def takesL (o : Oper) : Bool := o.guard.isNone && match o.op with
  | .fieldAddr .. | .indexAddr .. | .move _ | .assign _ | .nilCheck _ | .load .. | .slice .. | .binOp .. | .unOp .. | .extract .. | .convert .. | .field .. | .index .. | .build .. => true
  | .call c => match c.callee with | .builtin .len => true | _ => false
  | _ => false
def okU (ops : Array Oper) (i : Nat) : Bool := match ops[i]? with
  | none => false
  | some oi => takesL oi && match oi.dst with
    | none => true
    | some d => (List.range ops.size).all fun j => match ops[j]? with
      | none => true
      | some oj => if j == i then !(oj.looksAt ops).contains d else oj.dst != some d && (!(oj.looksAt ops).contains d || oj.after.any fun e => Region.binds .any e && e.on == i)
def edge (ops : Array Oper) (j i : Nat) : Bool := match ops[j]? with | some oj => oj.after.any fun e => Region.binds .any e && e.on == i | none => false
def TL.make (ops : Array Oper) : Nat → Array Bool → List Nat → TL
  | 0, l, p => if (Region.ready .any ops l).isEmpty then .done p else .bad
  | n + 1, l, p =>
    let r := Region.ready .any ops l
    if r.isEmpty then .done p else
    match r.find? (okU ops) with
    | some i => .take i (TL.make ops n (l.setIfInBounds i true) (i :: p))
    | none => r.foldr (fun i t => .alt i p (TL.make ops n (l.setIfInBounds i true) (p.filter fun q => !edge ops i q)) t) .nil

section
variable (P : Program) (T : Tab) (N : Cfg)
def dEq (E : Env) (d : Option Tmp) (s : SV) : Prop := match d with | some d => E d = s | none => True
def PendG (E : Env) (d : Option Tmp) : GR → Prop | .pure ob s => ob ∧ dEq E d s | _ => False
def PendOp (E : Env) (M : Mem) (nx : Nat) : Option Oper → Prop | some o => PendG E o.dst (gop T o.op E M nx) | none => False
def PendOK (all : Array Oper) : List Nat → Env → Mem → Nat → Prop
  | [], _, _, _ => True
  | i :: l, E, M, nx => PendOp T E M nx all[i]? ∧ PendOK all l E M nx
def GUL (all : Array Oper) : TL → List It → GQ → Env → Mem → Nat → Prop
  | .done p, k, Q, E, M, nx => PendOK T all p E M nx ∧ GK P T N k Q .normal E M nx
  | .bad, _, _, _, _, _ => False
  | .nil, _, _, _, _, _ => True
  | .alt i p sub more, k, Q, E, M, nx => PendOK T all p E M nx ∧ (match all[i]? with | some o => GO P T N all [o] [] (TQX (GUL all sub k Q)) E M nx | none => False) ∧ GUL all more k Q E M nx
  | .take i sub, k, Q, E, M, nx => match all[i]? with | some o => GTkX N (gop T o.op E M nx) o.dst (GUL all sub k Q) E M nx | none => False
end
section
variable {P : Program} {T : Tab} {N : Cfg} {k : List It} {Q : GQ} {E : Env} {M : Mem} {nx : Nat} {all : Array Oper}

theorem PendOK.get : ∀ {p : List Nat}, PendOK T all p E M nx → ∀ i ∈ p, ∃ o ob s, all[i]? = some o ∧ gop T o.op E M nx = .pure ob s ∧ ob ∧ dEq E o.dst s
  | [], _, i, hi => by simp at hi
  | j :: l, h, i, hi => by
    rcases List.mem_cons.1 hi with rfl | hi
    · have h1 := h.1
      unfold PendOp at h1
      cases ho : all[i]? with
      | none => rw [ho] at h1; exact h1.elim
      | some o =>
        rw [ho] at h1
        simp only [] at h1
        unfold PendG at h1
        split at h1
        · rename_i ob s hg
          exact ⟨o, ob, s, rfl, hg, h1.1, h1.2⟩
        · exact h1.elim
    · exact PendOK.get h.2 i hi
theorem guL_alts {f : Nat → TL} {p : List Nat} : ∀ (l : List Nat), GUL P T N all (l.foldr (fun i t => .alt i p (f i) t) .nil) k Q E M nx →
    ∀ i ∈ l, PendOK T all p E M nx ∧ ∃ o, all[i]? = some o ∧ gops P T N all [o] E M nx (fun E M nx => GUL P T N all (f i) k Q E M nx)
  | [], _, i, hi => by simp at hi
  | j :: l, h, i, hi => by
    simp only [List.foldr_cons, GUL] at h
    rcases List.mem_cons.1 hi with rfl | hi
    · have h1 := h.2.1
      cases ho : all[i]? with
      | none => rw [ho] at h1; exact h1.elim
      | some o => rw [ho] at h1; exact ⟨h.1, o, rfl, h1⟩
    · exact guL_alts l h.2.2 i hi

/-- What may stand out, in the order in which it was taken (last first). -/
def POrd (all : Array Oper) (lr : Array Bool) : List Nat → Prop
  | [] => True
  | i :: l => (∃ o, all[i]? = some o ∧ ∀ e ∈ o.after, Region.binds .any e = true → lr.getD e.on false = true ∨ e.on ∈ l) ∧ POrd all lr l
theorem getD_ff {l : Array Bool} {i : Nat} (h : l.getD i false = true) : l.getD i true = true := by
  rcases Nat.lt_or_ge i l.size with h' | h'
  · simpa [h'] using h
  · simp [Array.getElem?_eq_none h'] at h
theorem getD_tf {l : Array Bool} {i : Nat} (hi : i < l.size) (h : l.getD i true = true) : l.getD i false = true := by
  simpa [hi] using h
theorem POrd.ready {lr : Array Bool} (hsz : lr.size = all.size) : ∀ {p : List Nat}, POrd all lr p → ∀ i ∈ p, lr.getD i true = false → ∃ q, q ∈ Region.ready .any all lr
  | [], _, i, hi, _ => by simp at hi
  | j :: l, h, i, hi, hf => by
    by_cases hl : ∃ q ∈ l, lr.getD q true = false
    · obtain ⟨q, h1, h2⟩ := hl
      exact POrd.ready hsz h.2 q h1 h2
    · have hall : ∀ q ∈ l, lr.getD q true = true := fun q hq => by
        cases hh : lr.getD q true with
        | true => rfl
        | false => exact absurd ⟨q, hq, hh⟩ hl
      rcases List.mem_cons.1 hi with rfl | hi
      · obtain ⟨o, ho, hall2⟩ := h.1
        refine ⟨i, mem_ready.2 ⟨hf, o, ho, fun e he hb => ?_⟩⟩
        rcases hall2 e he hb with h1 | h1
        · exact h1
        · have h2 := hall _ h1
          refine getD_tf ?_ h2
          rcases Nat.lt_or_ge e.on lr.size with h' | h'
          · exact h'
          · exfalso
            -- an edge out of bounds: e.on is in l, so it is an operation
            have : ∀ {p : List Nat}, POrd all lr p → ∀ q ∈ p, q < all.size := by
              intro p
              induction p with
              | nil => intro _ q hq; simp at hq
              | cons x xs ih =>
                intro hp q hq
                rcases List.mem_cons.1 hq with rfl | hq
                · obtain ⟨o', ho', _⟩ := hp.1
                  exact (Array.getElem?_eq_some_iff.1 ho').1
                · exact ih hp.2 q hq
            have := this h.2 _ h1
            omega
      · have := hall i hi
        rw [this] at hf; cases hf
theorem POrd.more {lr lr' : Array Bool} (h : ∀ i, lr.getD i false = true → lr'.getD i false = true) : ∀ {p : List Nat}, POrd all lr p → POrd all lr' p
  | [], _ => trivial
  | i :: l, hp => ⟨by
      obtain ⟨o, ho, h1⟩ := hp.1
      exact ⟨o, ho, fun e he hb => (h1 e he hb).imp (h _) id⟩, POrd.more h hp.2⟩
theorem POrd.filter {lr : Array Bool} {φ : Nat → Bool} : ∀ {p : List Nat}, (∀ i ∈ p, φ i = false → lr.getD i false = true) → POrd all lr p → POrd all lr (p.filter φ)
  | [], _, _ => trivial
  | i :: l, h, hp => by
    have ih := POrd.filter (φ := φ) (fun q hq => h q (List.mem_cons_of_mem _ hq)) hp.2
    rw [List.filter_cons]
    split
    · refine ⟨?_, ih⟩
      obtain ⟨o, ho, h1⟩ := hp.1
      refine ⟨o, ho, fun e he hb => ?_⟩
      rcases h1 e he hb with h2 | h2
      · exact .inl h2
      · cases hφ : φ e.on with
        | true => exact .inr (List.mem_filter.2 ⟨h2, hφ⟩)
        | false => exact .inl (h _ (List.mem_cons_of_mem _ h2) hφ)
    · exact ih

/-- What stands out: taken by the ghosts, not done yet. -/
def Out (all : Array Oper) (lr : Array Bool) (p : List Nat) (t : Nat) : Prop := ∃ i ∈ p, lr.getD i true = false ∧ ∃ o, all[i]? = some o ∧ o.dst = some t
def left (all : Array Oper) (lr : Array Bool) : Nat := ((List.range all.size).filter fun i => !lr.getD i true).length
structure Inv (all : Array Oper) (lr lg : Array Bool) (p : List Nat) : Prop where
  sr : lr.size = all.size
  sg : lg.size = all.size
  h1 : ∀ i, lg.getD i true = false → lr.getD i true = false
  h2 : ∀ i, lr.getD i true = false → lg.getD i true = false ∨ i ∈ p
  h3 : ∀ i ∈ p, okU all i = true ∧ lg.getD i true = true
  h4 : POrd all lr p
theorem okU_spec {i : Nat} (h : okU all i = true) : ∃ o, all[i]? = some o ∧ o.guard = none ∧ ∀ d, o.dst = some d → d ∉ o.looksAt all ∧ ∀ j oj, all[j]? = some oj → j ≠ i → oj.dst ≠ some d ∧ (d ∈ oj.looksAt all → ∃ e ∈ oj.after, Region.binds .any e = true ∧ e.on = i) := by
  unfold okU at h
  cases ho : all[i]? with
  | none => rw [ho] at h; cases h
  | some o =>
    rw [ho] at h
    simp only [Bool.and_eq_true] at h
    obtain ⟨ht, h⟩ := h
    refine ⟨o, rfl, ?_, fun d hd => ?_⟩
    · simp only [takesL, Bool.and_eq_true, Option.isNone_iff_eq_none] at ht
      exact ht.1
    rw [hd] at h
    simp only [List.all_eq_true, List.mem_range] at h
    refine ⟨?_, fun j oj hj hne => ?_⟩
    · have := h i (Array.getElem?_eq_some_iff.1 ho).1
      simp only [ho, beq_self_eq_true, if_true, Bool.not_eq_true', List.contains_eq_mem, decide_eq_false_iff_not] at this
      exact this
    · have := h j (Array.getElem?_eq_some_iff.1 hj).1
      simp only [hj, beq_iff_eq, hne, if_false, Bool.and_eq_true, bne_iff_ne, ne_eq, Bool.or_eq_true, Bool.not_eq_true', List.contains_eq_mem, decide_eq_false_iff_not] at this
      refine ⟨this.1, fun hm => ?_⟩
      rcases this.2 with h5 | h5
      · exact absurd hm h5
      · obtain ⟨e, he, hb⟩ := Array.any_eq_true'.1 h5
        simp only [Bool.and_eq_true, beq_iff_eq] at hb
        exact ⟨e, he, hb⟩
theorem Inv.looks {lr lg : Array Bool} {p : List Nat} (hI : Inv all lr lg p) {j : Nat} {oj : Oper} (hj : j ∈ Region.ready .any all lr) (hoj : all[j]? = some oj) : ∀ t ∈ oj.looksAt all, ¬ Out all lr p t := by
  rintro t ht ⟨i, hi, hf, o, ho, hd⟩
  obtain ⟨o', ho', _, hU⟩ := okU_spec (hI.h3 i hi).1
  rw [ho] at ho'; cases ho'
  obtain ⟨u1, u2⟩ := hU t hd
  by_cases hij : j = i
  · subst hij
    rw [ho] at hoj; cases hoj
    exact u1 ht
  · obtain ⟨e, he, hb, hon⟩ := (u2 j oj hoj hij).2 ht
    obtain ⟨_, oj', hoj', hall⟩ := mem_ready.1 hj
    rw [hoj] at hoj'; cases hoj'
    have := getD_ff (hall e he hb)
    rw [hon, hf] at this; cases this
theorem set_tt {l : Array Bool} {i j : Nat} : (l.setIfInBounds j true).getD i true = if i = j then true else l.getD i true := by
  by_cases h : i = j
  · subst h
    rw [if_pos rfl]
    rcases Nat.lt_or_ge i l.size with h' | h'
    · simp [h']
    · simp [Array.getElem?_eq_none h']
  · rw [if_neg h]
    exact getD_set_ne true fun e => h e.symm
theorem left_set {lr : Array Bool} {j : Nat} (hj : j ∈ Region.ready .any all lr) : left all (lr.setIfInBounds j true) < left all lr := by
  obtain ⟨hf, o, ho, _⟩ := mem_ready.1 hj
  have hlt := (Array.getElem?_eq_some_iff.1 ho).1
  have e : (List.range all.size).filter (fun i => !(lr.setIfInBounds j true).getD i true) = ((List.range all.size).filter fun i => !lr.getD i true).filter fun i => decide (i ≠ j) := by
    rw [List.filter_filter]
    congr 1
    funext i
    rw [set_tt]
    by_cases h : i = j <;> simp [h]
  unfold left
  rw [e]
  exact List.length_filter_lt_length_iff_exists.2 ⟨j, List.mem_filter.2 ⟨List.mem_range.2 hlt, by simpa using hf⟩, by simp⟩
theorem left_zero {lr : Array Bool} (h : left all lr = 0) : Region.ready .any all lr = [] := by
  cases hr : Region.ready .any all lr with
  | nil => rfl
  | cons j l =>
    have := left_set (all := all) (lr := lr) (j := j) (by rw [hr]; simp)
    omega

variable {B W : Nat → Prop} {w0 : W0} {R : Exit → Act → World → Prop}
theorem envPut_dEq {E : Env} {d : Option Tmp} {s : SV} (h : dEq E d s) : envPut E d s = E := by
  cases d with
  | none => rfl
  | some d =>
    funext t
    show upd E d s t = E t
    unfold upd
    split
    · rename_i e; rw [e]; exact h.symm
    · rfl
/-- What stands out is done now. -/
theorem pend_step (hT : TabOK P T) (hsel : Region.noSelect all = true) {fuel : Nat} {lr lg : Array Bool} {p : List Nat} {σ : Sig} {a b : Act} {w : World} (hI : Inv all lr lg p) (hab : Agree (Out all lr p) a b)
    (hs : St B W w0 N σ E M nx b w) (hp : PendOK T all p E M nx) {j : Nat} (hj : j ∈ Region.ready .any all lr) (hg : lg.getD j true = true)
    (hnext : ∀ lr' a' b', Inv all lr' lg p → Agree (Out all lr' p) a' b' → St B W w0 N σ E M nx b' w → left all lr' < left all lr → wpAny P .any all R fuel lr' a' w) :
    wpOp P all R j (wpAny P .any all R fuel (lr.setIfInBounds j true)) a w := by
  obtain ⟨hf, oj, hoj, hall⟩ := mem_ready.1 hj
  have hjp : j ∈ p := (hI.h2 j hf).resolve_left (by rw [hg]; simp)
  obtain ⟨o, ob, s, ho, hgo, hob, hd⟩ := PendOK.get hp j hjp
  rw [hoj] at ho; cases ho
  obtain ⟨o', ho', hgd, hU⟩ := okU_spec (hI.h3 j hjp).1
  rw [hoj] at ho'; cases ho'
  have hlook := hI.looks hj hoj
  have hsn := snd_op hT hs.mem (nx := nx) (Nat.le_refl nx) hs.fr.size hs.env oj
  rw [hgo] at hsn
  obtain ⟨y, hy, hrel⟩ := hsn hob
  have hdk : dOK N.n oj.dst → True := fun _ => trivial
  have hfin : wpAny P .any all R fuel (lr.setIfInBounds j true) (a.put oj.dst y) w := by
    refine hnext _ _ (b.put oj.dst y) ⟨by simpa using hI.sr, hI.sg, fun i hi => ?_, fun i hi => ?_, hI.h3, hI.h4.more fun i hi => getD_set_true hi⟩ ?_ ?_ (left_set hj)
    · rw [set_tt]
      by_cases e : i = j
      · subst e; rw [hg] at hi; cases hi
      · rw [if_neg e]; exact hI.h1 i hi
    · rw [set_tt] at hi
      by_cases e : i = j
      · rw [if_pos e] at hi; cases hi
      · rw [if_neg e] at hi; exact hI.h2 i hi
    · cases hdst : oj.dst with
      | none =>
        refine ⟨hab.1, hab.2.1, fun t ht => hab.2.2 t fun ⟨i, hi, h1, o2, h2, h3⟩ => ht ⟨i, hi, ?_, o2, h2, h3⟩⟩
        rw [set_tt]
        by_cases e : i = j
        · subst e; rw [hoj] at h2; cases h2; rw [hdst] at h3; cases h3
        · rw [if_neg e]; exact h1
      | some d =>
        refine ⟨hab.1, by simpa [Act.put] using hab.2.1, fun t ht => ?_⟩
        simp only [Act.put, Array.getElem?_setIfInBounds, hab.2.1]
        by_cases e : d = t
        · simp [e]
        · simp only [e, if_false]
          refine hab.2.2 t fun ⟨i, hi, h1, o2, h2, h3⟩ => ht ⟨i, hi, ?_, o2, h2, h3⟩
          rw [set_tt]
          by_cases e2 : i = j
          · subst e2; rw [hoj] at h2; cases h2; rw [hdst] at h3; cases h3; exact absurd rfl e
          · rw [if_neg e2]; exact h1
    · have h1 := hs.env
      refine ⟨fun t => ?_, hs.mem, hs.fr, ?_, ?_, hs.low, hs.pin⟩
      · cases hdst : oj.dst with
        | none => exact h1 t
        | some d =>
          rw [hdst] at hd
          simp only [Act.put, Array.getD_eq_getD_getElem?, Array.getElem?_setIfInBounds]
          by_cases e : d = t
          · subst e
            by_cases hlt : d < b.tmps.size
            · simp only [hlt, if_true]
              rw [show E d = s from hd]
              exact hrel
            · simp only [hlt, if_true, if_false]
              have := h1 d
              simpa [Array.getD_eq_getD_getElem?, Array.getElem?_eq_none (Nat.le_of_not_lt hlt)] using this
          · simp only [e, if_false]
            simpa [Array.getD_eq_getD_getElem?] using h1 t
      · cases oj.dst <;> exact hs.defers
      · cases oj.dst with
        | none => exact hs.size
        | some d => simpa [Act.put] using hs.size
  unfold wpOp
  simp only [hoj]
  rw [if_pos (by simp [Region.wanted, hgd])]
  refine .inl ?_
  unfold Oper.wp
  rw [hab.exec oj (Region.noSelect_spec hsel j oj · · hoj) hlook]
  rcases hy with hy | ⟨hy, rfl⟩
  · rw [hy]; exact hfin
  · rw [hy]; exact hfin
theorem ready_lg {lr lg : Array Bool} {p : List Nat} (hI : Inv all lr lg p) {j : Nat} (hj : j ∈ Region.ready .any all lr) (hg : lg.getD j true = false) : j ∈ Region.ready .any all lg := by
  obtain ⟨hf, o, ho, hall⟩ := mem_ready.1 hj
  refine mem_ready.2 ⟨hg, o, ho, fun e he hb => ?_⟩
  have h1 := hall e he hb
  have h2 : lg.getD e.on true = true := by
    cases hh : lg.getD e.on true with
    | true => rfl
    | false =>
      have := hI.h1 _ hh
      rw [getD_ff h1] at this; cases this
  refine getD_tf ?_ h2
  rcases Nat.lt_or_ge e.on lr.size with h' | h'
  · rw [hI.sg, ← hI.sr]; exact h'
  · simp [Array.getElem?_eq_none h'] at h1
/-- Nothing is ready: nothing stands out, and nothing is left. -/
theorem none_ready {lr lg : Array Bool} {p : List Nat} (hI : Inv all lr lg p) (h : Region.ready .any all lr = []) : (∀ i ∈ p, lr.getD i true = true) ∧ Region.ready .any all lg = [] := by
  have h1 : ∀ i ∈ p, lr.getD i true = true := fun i hi => by
    cases hh : lr.getD i true with
    | true => rfl
    | false =>
      obtain ⟨q, hq⟩ := hI.h4.ready hI.sr i hi hh
      rw [h] at hq; cases hq
  refine ⟨h1, ?_⟩
  cases hr : Region.ready .any all lg with
  | nil => rfl
  | cons j l =>
    have hj : j ∈ Region.ready .any all lg := by rw [hr]; simp
    obtain ⟨hf, o, ho, hall⟩ := mem_ready.1 hj
    have : j ∈ Region.ready .any all lr := by
      refine mem_ready.2 ⟨hI.h1 j hf, o, ho, fun e he hb => ?_⟩
      have h2 := hall e he hb
      have h3 : lr.getD e.on true = true := by
        cases hh : lr.getD e.on true with
        | true => rfl
        | false =>
          rcases hI.h2 _ hh with h4 | h4
          · rw [getD_ff h2] at h4; cases h4
          · rw [h1 _ h4] at hh; cases hh
      refine getD_tf ?_ h3
      rcases Nat.lt_or_ge e.on lg.size with h' | h'
      · rw [hI.sr, ← hI.sg]; exact h'
      · simp [Array.getElem?_eq_none h'] at h2
    rw [h] at this; cases this
theorem agree_none {lr : Array Bool} {p : List Nat} {a b : Act} (hab : Agree (Out all lr p) a b) (h : ∀ i ∈ p, lr.getD i true = true) : a = b := by
  have : ∀ t, a.tmps[t]? = b.tmps[t]? := fun t => hab.2.2 t fun ⟨i, hi, hf, _⟩ => by rw [h i hi] at hf; cases hf
  obtain ⟨at1, d1⟩ := a
  obtain ⟨at2, d2⟩ := b
  congr 1
  · exact Array.ext_getElem? this
  · exact hab.1
theorem guL_any (hT : TabOK P T) (hsel : Region.noSelect all = true)
    (hK : ∀ E M nx σ a w, GK P T N k Q .normal E M nx → St B W w0 N σ E M nx a w → R .normal a w) (hR : ∀ c a w, ¬ R (.panic c) a w) : ∀ (fuel n : Nat) (lr lg : Array Bool) (p : List Nat) (E : Env) (M : Mem) (nx : Nat) (σ : Sig) (a b : Act) (w : World),
    left all lr ≤ fuel → Inv all lr lg p → Agree (Out all lr p) a b → St B W w0 N σ E M nx b w → GUL P T N all (TL.make all n lg p) k Q E M nx → wpAny P .any all R fuel lr a w := by
  suffices H : ∀ (fuel : Nat), (∀ m, fuel = m + 1 → ∀ (n : Nat) (lr lg : Array Bool) (p : List Nat) (E : Env) (M : Mem) (nx : Nat) (σ : Sig) (a b : Act) (w : World),
      left all lr ≤ m → Inv all lr lg p → Agree (Out all lr p) a b → St B W w0 N σ E M nx b w → GUL P T N all (TL.make all n lg p) k Q E M nx → wpAny P .any all R m lr a w) →
      ∀ (n : Nat) (lr lg : Array Bool) (p : List Nat) (E : Env) (M : Mem) (nx : Nat) (σ : Sig) (a b : Act) (w : World),
      left all lr ≤ fuel → Inv all lr lg p → Agree (Out all lr p) a b → St B W w0 N σ E M nx b w → GUL P T N all (TL.make all n lg p) k Q E M nx → wpAny P .any all R fuel lr a w by
    intro fuel
    induction fuel with
    | zero => exact H 0 fun m hm => by cases hm
    | succ fuel ih => exact H (fuel + 1) fun m hm => by cases hm; exact ih
  intro fuel ihf n
  have hdone : ∀ (n : Nat) (lr lg : Array Bool) (p : List Nat) (E : Env) (M : Mem) (nx : Nat) (σ : Sig) (a b : Act) (w : World),
      left all lr ≤ fuel → Inv all lr lg p → Agree (Out all lr p) a b → St B W w0 N σ E M nx b w → Region.ready .any all lg = [] → PendOK T all p E M nx → GK P T N k Q .normal E M nx →
      GUL P T N all (TL.make all n lg p) k Q E M nx → wpAny P .any all R fuel lr a w := by
    intro n lr lg p E M nx σ a b w hle hI hab hs hr hp hk hg
    have fin : Region.ready .any all lr = [] → R .normal a w := fun h => by
      have := agree_none hab (none_ready hI h).1
      rw [this]
      exact hK _ _ _ _ _ _ hk hs
    cases fuel with
    | zero => exact ⟨left_zero (by omega), fin (left_zero (by omega))⟩
    | succ m =>
      refine ⟨fin, fun j hj => pend_step hT hsel hI hab hs hp hj ?_ fun lr' a' b' hI' hab' hs' hlt => ihf m rfl n lr' lg p E M nx σ a' b' w (by omega) hI' hab' hs' hg⟩
      cases hh : lg.getD j true with
      | true => rfl
      | false =>
        have := ready_lg hI hj hh
        rw [hr] at this; cases this
  induction n with
  | zero =>
    intro lr lg p E M nx σ a b w hle hI hab hs hg
    have hg0 := hg
    simp only [TL.make] at hg
    split at hg
    · rename_i hr
      exact hdone 0 lr lg p E M nx σ a b w hle hI hab hs (List.isEmpty_iff.1 hr) hg.1 hg.2 hg0
    · exact hg.elim
  | succ n ihn =>
    intro lr lg p E M nx σ a b w hle hI hab hs hg
    have hg0 := hg
    simp only [TL.make] at hg
    split at hg
    · rename_i hr
      exact hdone (n + 1) lr lg p E M nx σ a b w hle hI hab hs (List.isEmpty_iff.1 hr) hg.1 hg.2 hg0
    rename_i hr
    have hne : Region.ready .any all lg ≠ [] := fun h => hr (List.isEmpty_iff.2 h)
    split at hg
    · rename_i i hi
      have hok := List.find?_some hi
      have hmem := List.mem_of_find?_eq_some hi
      obtain ⟨hf, o, ho, hall⟩ := mem_ready.1 hmem
      obtain ⟨o', ho', hgd, hU⟩ := okU_spec hok
      rw [ho] at ho'; cases ho'
      simp only [GUL, ho] at hg
      unfold GTkX at hg
      split at hg
      · rename_i ob s hgo
        obtain ⟨hob, hd, hg⟩ := hg
        have hsn := snd_op hT hs.mem (nx := nx) (Nat.le_refl nx) hs.fr.size hs.env o
        rw [hgo] at hsn
        obtain ⟨y, hy, hrel⟩ := hsn hob
        have hlrf := hI.h1 i hf
        refine ihn lr (lg.setIfInBounds i true) (i :: p) _ _ _ _ a (b.put o.dst y) w hle ⟨hI.sr, by simpa using hI.sg, fun q hq => ?_, fun q hq => ?_, fun q hq => ?_, ⟨o, ho, fun e he hb => ?_⟩, hI.h4⟩ ?_ (hs.put hd hrel) hg
        · rw [set_tt] at hq
          by_cases e : q = i
          · rw [if_pos e] at hq; cases hq
          · rw [if_neg e] at hq; exact hI.h1 q hq
        · by_cases e : q = i
          · exact .inr (by rw [e]; simp)
          · rw [set_tt, if_neg e]
            exact (hI.h2 q hq).imp id (List.mem_cons_of_mem _)
        · rw [set_tt]
          rcases List.mem_cons.1 hq with rfl | hq
          · exact ⟨hok, by rw [if_pos rfl]⟩
          · refine ⟨(hI.h3 q hq).1, ?_⟩
            split
            · rfl
            · exact (hI.h3 q hq).2
        · have h1 := hall e he hb
          cases hh : lr.getD e.on true with
          | true =>
            refine .inl (getD_tf ?_ hh)
            rcases Nat.lt_or_ge e.on lg.size with h' | h'
            · rw [hI.sr, ← hI.sg]; exact h'
            · simp [Array.getElem?_eq_none h'] at h1
          | false =>
            rcases hI.h2 _ hh with h4 | h4
            · rw [getD_ff h1] at h4; cases h4
            · exact .inr h4
        · refine ⟨?_, ?_, fun t ht => ?_⟩
          · cases o.dst <;> exact hab.1
          · cases o.dst with
            | none => exact hab.2.1
            | some d => simpa [Act.put] using hab.2.1
          · have h5 : ¬ Out all lr p t := fun ⟨q, hq, h1, o2, h2, h3⟩ => ht ⟨q, List.mem_cons_of_mem _ hq, h1, o2, h2, h3⟩
            rw [hab.2.2 t h5]
            cases hdst : o.dst with
            | none => rfl
            | some d =>
              have hne2 : d ≠ t := fun e => ht ⟨i, by simp, hlrf, o, ho, by rw [hdst, e]⟩
              simp [Act.put, Array.getElem?_setIfInBounds_ne hne2]
      · exact hg.elim
    · rename_i hfind
      have hp0 : PendOK T all p E M nx := by
        cases hr2 : Region.ready .any all lg with
        | nil => exact absurd hr2 hne
        | cons j l => exact (guL_alts (f := fun i => TL.make all n (lg.setIfInBounds i true) (p.filter fun q => !edge all i q)) _ hg j (by rw [hr2]; simp)).1
      have hno : Region.ready .any all lr ≠ [] := fun h => hne (none_ready hI h).2
      cases fuel with
      | zero => exact absurd (left_zero (by omega)) hno
      | succ m =>
        refine ⟨fun h => absurd h hno, fun j hj => ?_⟩
        cases hgj : lg.getD j true with
        | true => exact pend_step hT hsel hI hab hs hp0 hj hgj fun lr' a' b' hI' hab' hs' hlt => ihf m rfl (n + 1) lr' lg p E M nx σ a' b' w (by omega) hI' hab' hs' hg0
        | false =>
          obtain ⟨_, o, ho, hgo⟩ := guL_alts (f := fun i => TL.make all n (lg.setIfInBounds i true) (p.filter fun q => !edge all i q)) _ hg j (ready_lg hI hj hgj)
          obtain ⟨hf, o', ho', hall⟩ := mem_ready.1 hj
          rw [ho] at ho'; cases ho'
          have hjs : j < all.size := (Array.getElem?_eq_some_iff.1 ho).1
          have hedge : ∀ q ∈ p, edge all j q = true → lr.getD q false = true := fun q hq he => by
            unfold edge at he
            rw [ho] at he
            obtain ⟨e, he1, he2⟩ := Array.any_eq_true'.1 he
            simp only [Bool.and_eq_true, beq_iff_eq] at he2
            rw [← he2.2]
            exact hall e he1 he2.1
          have hs2 := gops_step (Q := R) (next := fun b' w' => ∃ E' M' nx' σ', GUL P T N all (TL.make all n (lg.setIfInBounds j true) (p.filter fun q => !edge all j q)) k Q E' M' nx' ∧ St B W w0 N σ' E' M' nx' b' w') hT hs hgo (fun E' M' nx' σ' a' w' hk hst => ⟨E', M', nx', σ', hk, hst⟩)
          have hb : wpOp P all R j (fun b' w' => ∃ E' M' nx' σ', GUL P T N all (TL.make all n (lg.setIfInBounds j true) (p.filter fun q => !edge all j q)) k Q E' M' nx' ∧ St B W w0 N σ' E' M' nx' b' w') b w := by
            unfold wpOp; rw [ho]; simp only []
            split
            · rename_i hw; rw [if_pos hw] at hs2; exact .inl hs2
            · rename_i hw; rw [if_neg hw] at hs2; exact hs2
          refine wpOp_agree ho (Region.noSelect_spec hsel j o · · ho) (hI.looks hj ho) hab hR ?_ hb
          rintro a' b' w' hab' ⟨E', M', nx', σ', hg', hs'⟩
          have hlt := left_set (all := all) hj
          refine ihf m rfl n (lr.setIfInBounds j true) (lg.setIfInBounds j true) _ E' M' nx' σ' a' b' w' (by omega) ⟨by simpa using hI.sr, by simpa using hI.sg, fun q hq => ?_, fun q hq => ?_, fun q hq => ?_, (POrd.filter (fun q hq he => hedge q hq (by simpa using he)) hI.h4).more fun q hq => getD_set_true hq⟩ ?_ hs' hg'
          · rw [set_tt] at hq ⊢
            by_cases e : q = j
            · rw [if_pos e] at hq; cases hq
            · rw [if_neg e] at hq ⊢; exact hI.h1 q hq
          · rw [set_tt] at hq ⊢
            by_cases e : q = j
            · rw [if_pos e] at hq; cases hq
            · rw [if_neg e] at hq ⊢
              refine (hI.h2 q hq).imp id fun h5 => List.mem_filter.2 ⟨h5, ?_⟩
              cases he : edge all j q with
              | false => rfl
              | true =>
                have := getD_ff (hedge q h5 he)
                rw [hq] at this; cases this
          · have h5 := List.mem_filter.1 hq
            refine ⟨(hI.h3 q h5.1).1, ?_⟩
            rw [set_tt]
            split
            · rfl
            · exact (hI.h3 q h5.1).2
          · refine ⟨hab'.1, hab'.2.1, fun t ht => hab'.2.2 t fun ⟨q, hq, h1, o2, h2, h3⟩ => ht ⟨q, List.mem_filter.2 ⟨hq, ?_⟩, ?_, o2, h2, h3⟩⟩
            · cases he : edge all j q with
              | false => rfl
              | true =>
                have := getD_ff (hedge q hq he)
                rw [h1] at this; cases this
            · rw [set_tt]
              by_cases e : q = j
              · subst e
                rw [(hI.h3 q hq).2] at hgj; cases hgj
              · rw [if_neg e]; exact h1

end
section
variable {P : Program} {T : Tab} {N : Cfg} {k : List It} {Q : GQ} {E : Env} {M : Mem} {nx : Nat} {all : Array Oper}
def GULo (P : Program) (T : Tab) (N : Cfg) (o : Option Oper) (all : Array Oper) (sub : TL) (k : List It) (Q : GQ) (E : Env) (M : Mem) (nx : Nat) : Prop :=
  match o with | some o => GO P T N all [o] [] (TQX (GUL P T N all sub k Q)) E M nx | none => False
def GULt (P : Program) (T : Tab) (N : Cfg) (o : Option Oper) (all : Array Oper) (sub : TL) (k : List It) (Q : GQ) (E : Env) (M : Mem) (nx : Nat) : Prop :=
  match o with | some o => GTkX N (gop T o.op E M nx) o.dst (GUL P T N all sub k Q) E M nx | none => False
@[go_sem] theorem GUL_done (p : List Nat) : GUL P T N all (.done p) k Q E M nx = (PendOK T all p E M nx ∧ GK P T N k Q .normal E M nx) := (rfl)
@[go_sem] theorem GUL_nil : GUL P T N all .nil k Q E M nx = True := (rfl)
@[go_sem] theorem GUL_alt (i : Nat) (p : List Nat) (s m : TL) : GUL P T N all (.alt i p s m) k Q E M nx = (PendOK T all p E M nx ∧ GULo P T N all[i]? all s k Q E M nx ∧ GUL P T N all m k Q E M nx) := (rfl)
@[go_sem] theorem GUL_take (i : Nat) (s : TL) : GUL P T N all (.take i s) k Q E M nx = GULt P T N all[i]? all s k Q E M nx := (rfl)
@[go_sem] theorem GULo_some (o : Oper) (s : TL) : GULo P T N (some o) all s k Q E M nx = GO P T N all [o] [] (TQX (GUL P T N all s k Q)) E M nx := (rfl)
@[go_sem] theorem GULt_some (d : Option Tmp) (op : Op) (ty : TypeId) (pos : String) (af : Array Edge) (g : Option (Nat × Bool)) (s : TL) :
    GULt P T N (some ⟨d, op, ty, pos, af, g⟩) all s k Q E M nx = GTkX N (gop T op E M nx) d (GUL P T N all s k Q) E M nx := (rfl)
@[go_sem] theorem PendOK_nil : PendOK T all [] E M nx = True := (rfl)
@[go_sem] theorem PendOK_cons (i : Nat) (l : List Nat) : PendOK T all (i :: l) E M nx = (PendOp T E M nx all[i]? ∧ PendOK T all l E M nx) := (rfl)
@[go_sem] theorem PendOp_some (d : Option Tmp) (op : Op) (ty : TypeId) (pos : String) (af : Array Edge) (g : Option (Nat × Bool)) : PendOp T E M nx (some ⟨d, op, ty, pos, af, g⟩) = PendG E d (gop T op E M nx) := (rfl)
@[go_sem] theorem PendG_pure (d : Option Tmp) (ob : Prop) (s : SV) : PendG E d (.pure ob s) = (ob ∧ dEq E d s) := (rfl)
@[go_sem] theorem dEq_some (d : Nat) (s : SV) : dEq E (some d) s = (E d = s) := (rfl)
@[go_sem] theorem dEq_none (s : SV) : dEq E none s = True := (rfl)
@[go_sem] theorem gop_move (x : Operand) : gop T (.move x) E M nx = .pure True (ev E x) := (rfl)
@[go_sem] theorem gop_assign (x : Operand) : gop T (.assign x) E M nx = .pure True (ev E x) := (rfl)
@[go_sem] theorem gop_load (t : TypeId) (x : Operand) : gop T (.load t x) E M nx = gload T t M (ev E x) := (rfl)
@[go_sem] theorem gop_slice (t : TypeId) (x : Operand) (lo hi mx : Option Operand) : gop T (.slice t x lo hi mx) E M nx = gslice T M t (ev E x) (lo.map (ev E)) (hi.map (ev E)) (mx.map (ev E)) := (rfl)
@[go_sem] theorem gop_fieldAddr (t : TypeId) (x : Operand) (f : Nat) : gop T (.fieldAddr t x f) E M nx = gfield T t (ev E x) f := (rfl)
@[go_sem] theorem gop_indexAddr (t : TypeId) (x i : Operand) : gop T (.indexAddr t x i) E M nx = gindex T t (ev E x) (ev E i) := (rfl)
@[go_sem] theorem gop_nilCheck (x : Operand) : gop T (.nilCheck x) E M nx = gnilop (ev E x) := (rfl)
@[go_sem] theorem gop_binOp (op : BinOp) (t : TypeId) (x y : Operand) (t2 : TypeId) : gop T (.binOp op t x y t2) E M nx = gbinop T op t (ev E x) (ev E y) := (rfl)
@[go_sem] theorem gop_unOp (op : UnOp) (t : TypeId) (x : Operand) : gop T (.unOp op t x) E M nx = gunop op (ev E x) := (rfl)
@[go_sem] theorem gop_convert (t t2 : TypeId) (x : Operand) : gop T (.convert t t2 x) E M nx = gconvop T t t2 (ev E x) := (rfl)
@[go_sem] theorem gop_extract (x : Operand) (i : Nat) : gop T (.extract x i) E M nx = gextop (ev E x) i := (rfl)
@[go_sem] theorem gop_field (t : TypeId) (x : Operand) (f : Nat) : gop T (.field t x f) E M nx = gfieldV T t (ev E x) f := (rfl)
@[go_sem] theorem gop_index (t : TypeId) (x i : Operand) : gop T (.index t x i) E M nx = gindexV T t (ev E x) (ev E i) := (rfl)
@[go_sem] theorem gop_build (t : TypeId) (ps : List (Nat × Operand)) : gop T (.build t ps.toArray) E M nx = gbuild T t (ps.map fun p => (p.1, ev E p.2)) := (rfl)

theorem inv0 : Inv all (Array.replicate all.size false) (Array.replicate all.size false) [] := by
  refine ⟨by simp, by simp, fun i h => h, fun i h => .inl h, fun i hi => by simp at hi, trivial⟩
theorem left0 : left all (Array.replicate all.size false) ≤ all.size := by
  unfold left
  exact Nat.le_trans (List.length_filter_le _ _) (by simp)
theorem gdraw_l (hT : TabOK P T) (hm : P.follows .mixedOrders = true) {id : Nat} {all : Array Oper} {t : TL} (hsel : Region.noSelect all = true) (ht : TL.make all all.size (Array.replicate all.size false) [] = t)
    {k0 : List It} {Q0 : GQ} {φ : Env → Mem → Nat → Prop} {E' : Env} (h0 : ∀ c E M nx, GK P T N k Q (.panic c) E M nx → False)
    (hK : ∀ (B W : Nat → Prop) (w0 : W0) E M nx σ a w, GK P T N k0 Q0 .normal E M nx → St B W w0 N σ E M nx a w → ∃ E' M' nx' σ', GK P T N k Q .normal E' M' nx' ∧ St B W w0 N σ' E' M' nx' a w)
    (h : GUL P T N all t k0 Q0 E M nx) : GDraw P T N id all k Q E M nx := by
  subst ht
  intro B W w0 σ a w hs
  have hs' := hs.drawn
  refine wp_region_any hm (guL_any hT hsel (k := k0) (Q := Q0) (B := B) (W := W) (w0 := w0) (R := fun e a' w' => ∃ E' M' nx' σ', GK P T N k Q e E' M' nx' ∧ St B W w0 N σ' E' M' nx' a' w') (fun E M nx σ a w hk hst => hK _ _ _ _ _ _ _ _ _ hk hst)
    (fun c a w ⟨E, M, nx, σ, hk, _⟩ => h0 _ _ _ _ hk) _ _ _ _ [] E M nx σ a a _ left0 inv0 ⟨rfl, rfl, fun _ _ => rfl⟩ hs' h)
/-- A region of open order: what is read and reckoned first, the rest by all its orders. -/
theorem GDraw_l (hT : TabOK P T) (hm : P.follows .mixedOrders = true) {id : Nat} {all : Array Oper} {t : TL} (hsel : Region.noSelect all = true) (ht : TL.make all all.size (Array.replicate all.size false) [] = t)
    (hp : ∀ c E M nx, GK P T N k Q (.panic c) E M nx → False) (h : GUL P T N all t k Q E M nx) : GDraw P T N id all k Q E M nx :=
  gdraw_l hT hm hsel ht (φ := fun _ _ _ => True) (E' := E) hp (fun B W w0 E M nx σ a w hk hst => ⟨E, M, nx, σ, hk, hst⟩) h
/-- The same, told behind the region by slots and regions alone. -/
theorem GDraw_ls (S : List (Nat × SV)) (l : List (Option Reg)) (n : Nat) (hT : TabOK P T) (hm : P.follows .mixedOrders = true) {id : Nat} {all : Array Oper} {t : TL} (hsel : Region.noSelect all = true)
    (ht : TL.make all all.size (Array.replicate all.size false) [] = t) (hp : ∀ c E M nx, GK P T N k Q (.panic c) E M nx → False) (hl : l.length = n)
    (h : GUL P T N all t [] (JQ S n fun M => regsS 0 M l) E M nx) (hk : ∀ J, GK P T N k Q .normal (updL J S) (memL l) n) (hnp : N.np ≤ n := by first | exact Nat.zero_le _ | decide) : GDraw P T N id all k Q E M nx :=
  gdraw_l hT hm hsel ht (φ := fun _ _ _ => True) (E' := E) hp (fun B W w0 E M nx σ a w hk0 hst => by
    have hk1 : slotsS n E S ∧ regsS 0 (trimM n M) l := hk0
    obtain ⟨J, hv⟩ := Fit.of_slotsS (nx := nx) hnp hk1.1 (regsS_memL hl hk1.2)
    obtain ⟨σ1, h1⟩ := hv _ _ _ _ _ _ hst
    exact ⟨_, _, _, σ1, hk J, h1⟩) h
/-- The same, with a family of regions. -/
theorem GDraw_lf (S : List (Nat × SV)) (l : List (Option Reg)) (b cnt : Nat) (R : Nat → Option Reg) (n : Nat) (hT : TabOK P T) (hm : P.follows .mixedOrders = true) {id : Nat} {all : Array Oper} {t : TL} (hsel : Region.noSelect all = true)
    (ht : TL.make all all.size (Array.replicate all.size false) [] = t) (hp : ∀ c E M nx, GK P T N k Q (.panic c) E M nx → False) (hl : l.length = b)
    (h : GUL P T N all t [] (JQ S n fun M => regsS 0 M l ∧ ∀ i, i < cnt → Reg.sub (M (i + b)) (R i)) E M nx) (hk : ∀ J, GK P T N k Q .normal (updL J S) (famN (memL l) b cnt R) n) (hnp : N.np ≤ n := by first | exact Nat.zero_le _ | decide) : GDraw P T N id all k Q E M nx :=
  gdraw_l hT hm hsel ht (φ := fun _ _ _ => True) (E' := E) hp (fun B W w0 E M nx σ a w hk0 hst => by
    have hk1 : slotsS n E S ∧ (regsS 0 (trimM n M) l ∧ ∀ i, i < cnt → Reg.sub (trimM n M (i + b)) (R i)) := hk0
    obtain ⟨J, hv⟩ := Fit.of_famN (nx := nx) hnp hk1.1 hl hk1.2.1 hk1.2.2
    obtain ⟨σ1, h1⟩ := hv _ _ _ _ _ _ hst
    exact ⟨_, _, _, σ1, hk J, h1⟩) h
end
end Go.Gx
/-
  slices.Insert and slices.Delete of cases and of links.
-/
set_option linter.unusedVariables false
set_option linter.unusedSimpArgs false
set_option maxRecDepth 20000
set_option maxHeartbeats 4000000
namespace Go.Gx
open Go.RowKit Go.Proofs Go.Proofs.Ytnajladibkpeaaa

def insR (get one : Nat → Nat → RV) (i : Nat) : Nat → Nat → RV := fun r c => if r < i then get r c else if r = i then one 0 c else get (r - 1) c
theorem insert79 (n i : Nat) (hn : n ≤ 1000000) (hi : i ≤ n) (get one : Nat → Nat → RV) :
    Own Try.prog 79 [.vec 93 3 n fun r c => .r (get r c), .vec 93 3 1 fun r c => .r (one r c)] [.sl 0 3 0 n none, .i i, .sl 1 3 0 1 none] (.sl 0 3 0 (n + 1) none) [.vec 93 3 (n + 1) fun r c => .r (insR get one i r c)] := by
  refine own_of_GC T_ok Try.func79 rfl (by kernel_rfl) (Nat.le_of_ble_eq_true rfl) rfl rfl ?_
  simp [go_sem]
  refine ⟨hi, ?_⟩
  by_cases hin : i = n
  · subst hin
    rw [if_pos rfl]
    refine ⟨by omega, [0], by simp, fun N => ⟨?_, ?_⟩⟩
    · simp [go_sem]
    · simp [go_sem]
      intro r c hr hc
      unfold joined insR
      by_cases h : r < i
      · rw [if_pos h, if_pos h]; rfl
      · rw [if_neg h, if_pos hr, if_neg h, if_pos (by omega), show r - i = 0 from by omega]; rfl
  rw [if_neg (by omega)]
  refine ⟨by omega, ?_⟩
  refine GOp_cap T_ok (ref := 0) (kk := 3) (n := n) (by simp [go_sem]) (M := memR _) rfl rfl (by simp [dOK]) ?_
  intro C hC _ hC2
  simp only [maxLen] at hC2
  by_cases hc : C < n + 1
  · have hc' : (C : Int) < (n : Int) + 1 := by omega
    left
    simp [go_sem, hc', hi]
    refine ⟨by omega, by omega, ⟨by omega, by omega, by omega⟩, by omega, ?_⟩
    refine GDraw_of T_ok (by kernel_rfl) 8 (by kernel_rfl) rfl rfl ?_
    simp [go_sem, hi]
    have e1 : i + (n + 1 - i) = n + 1 := by omega
    refine ⟨by omega, ⟨by omega, by omega⟩, by omega, [2], by simp, fun N => ⟨?_, ?_⟩⟩
    · simp [go_sem, e1]
    · simp [go_sem]
      refine ⟨by omega, fun r c hr hc => ?_⟩
      unfold insR joined
      repeat' split
      all_goals first | (exfalso; omega) | rfl | exact congrArg SV.r (congrFun (congrArg get (by omega)) _) | exact congrArg SV.r (congrFun (congrArg one (by omega)) _)
  · have hc' : ¬ (C : Int) < (n : Int) + 1 := by omega
    have hn1 : ¬ (n : Int) + 1 ≤ (n : Int) := by omega
    right
    simp [go_sem, hc', hi, hn1]
    refine ⟨by omega, ⟨by omega, by omega⟩, by omega, by omega, ?_⟩
    refine callK_apart T_ok Try.func125 (by kernel_rfl) (by kernel_rfl) (by kernel_rfl) (tS := 24) (tR := 4) (by kernel_rfl) (el := 93) rfl rfl (q := 1) (r := 0) (hq := rfl) (hr := rfl) (by decide) (by omega) (by omega) (by omega) ?_
    simp [go_sem, hi, hc']
    refine GDraw_of T_ok (by kernel_rfl) 8 (by kernel_rfl) rfl rfl ?_
    simp [go_sem, hi]
    refine ⟨by omega, by omega, by omega, ⟨by omega, by omega⟩, by omega, by omega, [0], by simp, fun N => ⟨?_, ?_⟩⟩
    · simp [go_sem]
    · simp [go_sem]
      refine ⟨by omega, fun r c hr hc => ?_⟩
      unfold insR
      repeat' split
      all_goals first | (exfalso; omega) | rfl | exact congrArg SV.r (congrFun (congrArg get (by omega)) _) | exact congrArg SV.r (congrFun (congrArg one (by omega)) _)
theorem insert85 (n i : Nat) (hn : n ≤ 1000000) (hi : i ≤ n) (get one : Nat → Nat → RV) :
    Own Try.prog 85 [.vec 46 3 n fun r c => .r (get r c), .vec 46 3 1 fun r c => .r (one r c)] [.sl 0 3 0 n none, .i i, .sl 1 3 0 1 none] (.sl 0 3 0 (n + 1) none) [.vec 46 3 (n + 1) fun r c => .r (insR get one i r c)] := by
  refine own_of_GC T_ok Try.func85 rfl (by kernel_rfl) (Nat.le_of_ble_eq_true rfl) rfl rfl ?_
  simp [go_sem]
  refine ⟨hi, ?_⟩
  by_cases hin : i = n
  · subst hin
    rw [if_pos rfl]
    refine ⟨by omega, [0], by simp, fun N => ⟨?_, ?_⟩⟩
    · simp [go_sem]
    · simp [go_sem]
      intro r c hr hc
      unfold joined insR
      by_cases h : r < i
      · rw [if_pos h, if_pos h]; rfl
      · rw [if_neg h, if_pos hr, if_neg h, if_pos (by omega), show r - i = 0 from by omega]; rfl
  rw [if_neg (by omega)]
  refine ⟨by omega, ?_⟩
  refine GOp_cap T_ok (ref := 0) (kk := 3) (n := n) (by simp [go_sem]) (M := memR _) rfl rfl (by simp [dOK]) ?_
  intro C hC _ hC2
  simp only [maxLen] at hC2
  by_cases hc : C < n + 1
  · have hc' : (C : Int) < (n : Int) + 1 := by omega
    left
    simp [go_sem, hc', hi]
    refine ⟨by omega, by omega, ⟨by omega, by omega, by omega⟩, by omega, ?_⟩
    refine GDraw_of T_ok (by kernel_rfl) 8 (by kernel_rfl) rfl rfl ?_
    simp [go_sem, hi]
    have e1 : i + (n + 1 - i) = n + 1 := by omega
    refine ⟨by omega, ⟨by omega, by omega⟩, by omega, [2], by simp, fun N => ⟨?_, ?_⟩⟩
    · simp [go_sem, e1]
    · simp [go_sem]
      refine ⟨by omega, fun r c hr hc => ?_⟩
      unfold insR joined
      repeat' split
      all_goals first | (exfalso; omega) | rfl | exact congrArg SV.r (congrFun (congrArg get (by omega)) _) | exact congrArg SV.r (congrFun (congrArg one (by omega)) _)
  · have hc' : ¬ (C : Int) < (n : Int) + 1 := by omega
    have hn1 : ¬ (n : Int) + 1 ≤ (n : Int) := by omega
    right
    simp [go_sem, hc', hi, hn1]
    refine ⟨by omega, ⟨by omega, by omega⟩, by omega, by omega, ?_⟩
    refine callK_apart T_ok Try.func128 (by kernel_rfl) (by kernel_rfl) (by kernel_rfl) (tS := 23) (tR := 4) (by kernel_rfl) (el := 46) rfl rfl (q := 1) (r := 0) (hq := rfl) (hr := rfl) (by decide) (by omega) (by omega) (by omega) ?_
    simp [go_sem, hi, hc']
    refine GDraw_of T_ok (by kernel_rfl) 8 (by kernel_rfl) rfl rfl ?_
    simp [go_sem, hi]
    refine ⟨by omega, by omega, by omega, ⟨by omega, by omega⟩, by omega, by omega, [0], by simp, fun N => ⟨?_, ?_⟩⟩
    · simp [go_sem]
    · simp [go_sem]
      refine ⟨by omega, fun r c hr hc => ?_⟩
      unfold insR
      repeat' split
      all_goals first | (exfalso; omega) | rfl | exact congrArg SV.r (congrFun (congrArg get (by omega)) _) | exact congrArg SV.r (congrFun (congrArg one (by omega)) _)
theorem delete84 (n i : Nat) (hn : n ≤ 1000000) (hi : i < n) (get : Nat → Nat → RV) :
    Own Try.prog 84 [.vec 93 3 n fun r c => .r (get r c)] [.sl 0 3 0 n none, .i i, .i ((i : Int) + 1)] (.sl 0 3 0 (n - 1) none) [.vec 93 3 (n - 1) fun r c => .r (if r < i then get r c else get (r + 1) c)] := by
  refine own_of_GC T_ok Try.func84 rfl (by kernel_rfl) (Nat.le_of_ble_eq_true rfl) rfl rfl ?_
  simp [go_sem]
  refine ⟨by omega, ?_⟩
  split
  · omega
  refine GDraw_of T_ok (by kernel_rfl) 6 (by kernel_rfl) rfl rfl ?_
  simp [go_sem]
  have e1 : i + (n - (i + 1)) = n - 1 := by omega
  refine ⟨by omega, ⟨by omega, by omega⟩, ⟨by omega, by omega, by omega, by omega⟩, ⟨by omega, by omega, by omega⟩, by omega, [0], by simp, fun N => ⟨?_, ?_⟩⟩
  · simp [go_sem, e1]
  · simp [go_sem]
    refine ⟨by omega, fun r c hr hc => ?_⟩
    rw [if_neg (by omega)]
    unfold joined
    by_cases h : r < i
    · simp [h, SV.kill]
    · rw [if_neg h, if_pos (by omega), if_neg h]
      show SV.r (get (i + 1 + (r - i)) c) = _
      rw [show i + 1 + (r - i) = r + 1 from by omega]
theorem delete93 (n i : Nat) (hn : n ≤ 1000000) (hi : i < n) (get : Nat → Nat → RV) :
    Own Try.prog 93 [.vec 46 3 n fun r c => .r (get r c)] [.sl 0 3 0 n none, .i i, .i ((i : Int) + 1)] (.sl 0 3 0 (n - 1) none) [.vec 46 3 (n - 1) fun r c => .r (if r < i then get r c else get (r + 1) c)] := by
  refine own_of_GC T_ok Try.func93 rfl (by kernel_rfl) (Nat.le_of_ble_eq_true rfl) rfl rfl ?_
  simp [go_sem]
  refine ⟨by omega, ?_⟩
  split
  · omega
  refine GDraw_of T_ok (by kernel_rfl) 6 (by kernel_rfl) rfl rfl ?_
  simp [go_sem]
  have e1 : i + (n - (i + 1)) = n - 1 := by omega
  refine ⟨by omega, ⟨by omega, by omega⟩, ⟨by omega, by omega, by omega, by omega⟩, ⟨by omega, by omega, by omega⟩, by omega, [0], by simp, fun N => ⟨?_, ?_⟩⟩
  · simp [go_sem, e1]
  · simp [go_sem]
    refine ⟨by omega, fun r c hr hc => ?_⟩
    rw [if_neg (by omega)]
    unfold joined
    by_cases h : r < i
    · simp [h, SV.kill]
    · rw [if_neg h, if_pos (by omega), if_neg h]
      show SV.r (get (i + 1 + (r - i)) c) = _
      rw [show i + 1 + (r - i) = r + 1 from by omega]
end Go.Gx
/-
  Insert and Delete of cases whose votes lie in memory of their own.
-/
set_option linter.unusedVariables false
set_option linter.unusedSimpArgs false
set_option maxRecDepth 20000
set_option maxHeartbeats 4000000
namespace Go.Gx
open Go.RowKit Go.Proofs Go.Proofs.Ytnajladibkpeaaa

theorem delCaseK {i n : Nat} {M : Mem} {nx q : Nat} {cs : Nat → Nat → SV} {K : SV → Mem → Nat → (SV → SV) → Prop} (hn : n ≤ 1000000) (hi : i < n) (hM : M q = some (.vec 93 3 n cs))
    (hK : K (.sl nx 3 0 (n - 1) none) (upd (upd M q none) nx (some (.vec 93 3 (n - 1) fun r c => if r < i then cs r c else cs (r + 1) c))) (nx + 1) id) :
    CallK Try.prog 0 84 [.sl q 3 0 n none, .i i, .i ((i : Int) + 1)] M nx K := by
  refine callK_opq2 (S := .sl nx 3 0 (n - 1) none) (M2 := upd M q none) (q := nx) (k := 3) (m := n - 1) (nx' := nx + 1) (e' := 93) (get' := fun r c => if r < i then cs r c else cs (r + 1) c) [q] (fun r hr => ?_) (fun Nm hNm M1 hM1 => ?_) hK
  · simp at hr; subst hr; exact ⟨_, _, _, _, hM⟩
  obtain ⟨c, h7, hcell⟩ := hM1.2 q (by simp) _ _ _ _ hM
  refine callK_own [q] (delete84 n i hn hi fun r j => .v (c r j)) (by simp) rfl ⟨h7, trivial⟩ ⟨rfl, rfl, rfl, fun r j => if r < i then c r j else c (r + 1) j, fun r j hr hj => ?_, ?_⟩
  · by_cases h : r < i
    · simp only [h, if_true]; exact (hcell r j (by omega) hj).1
    · simp only [h, if_false]; exact (hcell (r + 1) j (by omega) hj).1
  · funext r
    simp only [addS, dropM, upd_app]
    by_cases h1 : r = nx
    · simp only [h1, Nat.add_zero, if_true, Reg.ren, SV.ren]
      congr 2
      funext a b
      by_cases h : a < i <;> simp [h]
    · by_cases h2 : r = q
      · subst h2
        simp [h1]
      · simp [h1, h2, hM1.1 r (by simpa using h2)]
theorem insCaseK {i n : Nat} {M : Mem} {nx q p : Nat} {cs one : Nat → Nat → SV} {K : SV → Mem → Nat → (SV → SV) → Prop} (hn : n ≤ 1000000) (hi : i ≤ n) (hqp : q ≠ p) (hM : M q = some (.vec 93 3 n cs)) (hM2 : M p = some (.vec 93 3 1 one))
    (hK : K (.sl nx 3 0 (n + 1) none) (upd (upd (upd M q none) p none) nx (some (.vec 93 3 (n + 1) fun r c => if r < i then cs r c else if r = i then one 0 c else cs (r - 1) c))) (nx + 1) id) :
    CallK Try.prog 0 79 [.sl q 3 0 n none, .i i, .sl p 3 0 1 none] M nx K := by
  refine callK_opq2 (S := .sl nx 3 0 (n + 1) none) (M2 := upd (upd M q none) p none) (q := nx) (k := 3) (m := n + 1) (nx' := nx + 1) (e' := 93) (get' := fun r c => if r < i then cs r c else if r = i then one 0 c else cs (r - 1) c) [q, p] (fun r hr => ?_) (fun Nm hNm M1 hM1 => ?_) hK
  · simp at hr
    rcases hr with rfl | rfl
    · exact ⟨_, _, _, _, hM⟩
    · exact ⟨_, _, _, _, hM2⟩
  obtain ⟨c, h7, hcell⟩ := hM1.2 q (by simp) _ _ _ _ hM
  obtain ⟨d, h8, hdell⟩ := hM1.2 p (by simp) _ _ _ _ hM2
  refine callK_own [q, p] (insert79 n i hn hi (fun r j => .v (c r j)) fun r j => .v (d r j)) (by simpa using hqp) rfl ⟨h7, h8, trivial⟩ ⟨rfl, rfl, rfl, fun r j => if r < i then c r j else if r = i then d 0 j else c (r - 1) j, fun r j hr hj => ?_, ?_⟩
  · by_cases h : r < i
    · simp only [h, if_true]; exact (hcell r j (by omega) hj).1
    · by_cases h' : r = i
      · simp only [h, h', if_true, if_false, Nat.lt_irrefl]; exact (hdell 0 j (by omega) hj).1
      · simp only [h, h', if_false]; exact (hcell (r - 1) j (by omega) hj).1
  · funext r
    simp only [addS, dropM, upd_app]
    by_cases h1 : r = nx
    · simp only [h1, Nat.add_zero, if_true, Reg.ren, SV.ren]
      congr 2
      funext a b
      unfold insR
      by_cases h : a < i
      · simp [h]
      · by_cases h' : a = i <;> simp [h, h']
    · by_cases h2 : r = q
      · subst h2
        simp [h1]
      · by_cases h3 : r = p
        · subst h3
          simp [h1]
        · simp [h1, h2, h3, hM1.1 r (by simp [h2, h3])]
end Go.Gx
/-
  Withdraw: the program's.
-/
set_option linter.unusedVariables false
set_option linter.unusedSimpArgs false
set_option maxRecDepth 20000
set_option maxHeartbeats 4000000
namespace Go.Gx
open Go.RowKit Go.Proofs Go.Proofs.Ytnajladibkpeaaa

/-- The register with one link less. -/
def EG.dropL (g : EG) (k : Nat) : EG := { g with nl := g.nl - 1, l := fun i => if i < k then g.l i else g.l (i + 1) }
theorem withdraw_bad {g : EG} (h : g.OK) (hv : g.valid = false) (a b : Int) : Own Try.prog 37 [] [g.sv, .i a, .i b] (.tup [nilR, .i 8]) [] := by
  refine own_of_GC T_ok Try.func37 rfl (by kernel_rfl) (Nat.le_of_ble_eq_true rfl) rfl rfl ?_
  simp [go_sem]
  refine callK_own [] (open_bad h hv) (by simp) rfl trivial ?_
  simp [go_sem]
  exact ⟨[], by simp, fun N => ⟨by simp [go_sem], trivial⟩⟩
theorem withdraw37 {g : EG} (h : g.Sm) (hv : g.valid = true) {a b : Int} (hf : g.lin (min a b) (max a b) = true) : Own Try.prog 37 [] [g.sv, .i a, .i b] (.tup [(g.dropL (g.lat (min a b) (max a b))).oS, .i 0]) (g.dropL (g.lat (min a b) (max a b))).oR := by
  refine own_of_GC T_ok Try.func37 rfl (by kernel_rfl) (Nat.le_of_ble_eq_true rfl) rfl rfl ?_
  have hr := h.nr
  have hl := h.nl
  have hc := h.nc
  have hat := EG.at76 g h.ok (EG.valid_lks hv) (min a b) (max a b)
  have hlt : g.lat (min a b) (max a b) < g.nl := by simp [EG.lin, fnd] at hf; exact hf.1
  simp [go_sem]
  refine callK_own [] (open61 h hv) (by simp) rfl trivial ?_
  simp [go_sem]
  refine GDraw_all T_ok (by kernel_rfl) (by kernel_rfl) ?_
  simp [go_sem]
  refine ⟨_, dcall_val (pairOf75 a b) rfl rfl, ?_⟩
  simp [go_sem]
  have q4 : ∀ n, n < 7 → ¬ (n = 2 + (g.nc + 1 + 1 + 1 + 1 + 1)) := fun n _ => by omega
  have q6 : ∀ n, n < 7 → ¬ (2 + (g.nc + 1 + 1 + 1 + 1 + 1) = n) := fun n _ => by omega
  have q8 : ∀ i, i < g.nc → ¬ (i + 7 = 2 + (g.nc + 1 + 1 + 1 + 1 + 1)) := fun i _ => by omega
  refine ⟨by omega, _, dcall_lent (v := .tup [.i (g.lat (min a b) (max a b)), .b (g.lin (min a b) (max a b))]) ?_ rfl, ?_⟩
  · simp [go_sem]
    exact hat
  simp [go_sem, hf]
  generalize hk : g.lat (min a b) (max a b) = k at hlt
  refine ⟨by omega, ?_⟩
  refine callK_own [5] (delete93 g.nl k (by omega) hlt fun i j => (g.l i).c j) (by simp) rfl ⟨rfl, trivial⟩ ?_
  simp [go_sem, q4, q6]
  refine ⟨famR [4, 2 + (g.nc + 1 + 1 + 1 + 1 + 1), 6] g.nc 7, nodup_fam (by simp [q4, q6]) (fun i j _ _ h => by omega) (fun x hx i hi => by simp at hx; omega), fun N => ⟨by simp [go_sem, famR_lo, EG.dropL], ?_⟩⟩
  refine gexpR_famN (l := [4, 2 + (g.nc + 1 + 1 + 1 + 1 + 1), 6]) (Rs := [.vec 85 2 (g.dropL k).nr fun i j => .r (((g.dropL k).r i).c j), .vec 46 3 (g.dropL k).nl fun i j => .r (((g.dropL k).l i).c j), .vec 93 3 (g.dropL k).nc ((g.dropL k).oc 3)]) ?_ fun i hi => ?_
  · simp [go_sem, famR_lo, q4, q6, EG.dropL]
    refine ⟨fun i j hi hj => ?_, fun i j hi hj => (g.oc_famR rfl hi).symm⟩
    split <;> rfl
  · simp [go_sem, hi, q8 i hi, EG.dropL]
theorem withdraw_no {g : EG} (h : g.Sm) (hv : g.valid = true) {a b : Int} (hf : g.lin (min a b) (max a b) = false) : Own Try.prog 37 [] [g.sv, .i a, .i b] (.tup [nilR, .i 6]) [] := by
  refine own_of_GC T_ok Try.func37 rfl (by kernel_rfl) (Nat.le_of_ble_eq_true rfl) rfl rfl ?_
  have hr := h.nr
  have hl := h.nl
  have hc := h.nc
  have hat := EG.at76 g h.ok (EG.valid_lks hv) (min a b) (max a b)
  simp [go_sem]
  refine callK_own [] (open61 h hv) (by simp) rfl trivial ?_
  simp [go_sem]
  refine GDraw_all T_ok (by kernel_rfl) (by kernel_rfl) ?_
  simp [go_sem]
  refine ⟨_, dcall_val (pairOf75 a b) rfl rfl, ?_⟩
  simp [go_sem]
  refine ⟨by omega, _, dcall_lent (v := .tup [.i (g.lat (min a b) (max a b)), .b (g.lin (min a b) (max a b))]) ?_ rfl, ?_⟩
  · simp [go_sem]
    exact hat
  simp [go_sem, hf]
  exact ⟨[], by simp, fun N => ⟨by simp [go_sem], trivial⟩⟩
end Go.Gx
/-
  Withdraw: the reference's.
-/
set_option linter.unusedVariables false
set_option linter.unusedSimpArgs false
set_option maxRecDepth 20000
set_option maxHeartbeats 4000000
namespace Go.Gx
open Go.RowKit Go.Proofs Go.Proofs.Ytnajladibkpeaaa

theorem EG.fd_lat {g : EG} (h : g.lks = true) {p q : Int} (hf : g.lin p q = true) : g.fd p q = g.lat p q := by
  obtain ⟨j, hj, e1, e2⟩ := (fnd_iff (x := fun i => (g.l i).a) (y := fun i => (g.l i).b) (EG.lks_sorted h)).1 hf
  have h2 := bnd_at (x := fun i => (g.l i).a) (y := fun i => (g.l i).b) (EG.lks_sorted h) hj
  subst e1 e2
  have h3 : g.lat (g.l j).a (g.l j).b = j := h2
  rw [h3]
  refine EG.fd_at hj rfl rfl fun k hk e3 e4 => ?_
  have h4 := bnd_at (x := fun i => (g.l i).a) (y := fun i => (g.l i).b) (EG.lks_sorted h) (show k < g.nl by omega)
  simp only [e3, e4] at h4
  have h5 : g.lat (g.l j).a (g.l j).b = k := h4
  omega
theorem refWithdraw_bad {g : EG} (h : g.OK) (hv : g.valid = false) (a b : Int) : Pure Try.prog 38 [g.sv, .i a, .i b] (· = .tup [nilR, .i 8]) := by
  refine pure_of_GC T_ok Try.func38 rfl (by kernel_rfl) (Nat.le_of_ble_eq_true rfl) rfl rfl ?_
  simp [go_sem]
  refine call_val (valid49 g h) rfl rfl ?_
  simp [go_sem, hv]
theorem refWithdraw_no {g : EG} (h : g.OK) (hv : g.valid = true) {a b : Int} (hf : g.lin (min a b) (max a b) = false) : Pure Try.prog 38 [g.sv, .i a, .i b] (· = .tup [nilR, .i 6]) := by
  refine pure_of_GC T_ok Try.func38 rfl (by kernel_rfl) (Nat.le_of_ble_eq_true rfl) rfl rfl ?_
  simp [go_sem]
  refine call_val (valid49 g h) rfl rfl ?_
  simp [go_sem, hv]
  refine call_val (find86 g h (min a b) (max a b)) rfl rfl ?_
  have h0 : ¬ 0 ≤ g.fd (min a b) (max a b) := by
    have := EG.lin_fd (EG.valid_lks hv) (min a b) (max a b)
    rw [hf] at this
    simpa using this.symm
  have h1 : g.fd (min a b) (max a b) < 0 := by omega
  simp [go_sem, h1]
end Go.Gx
/-
  Vote: what it changes; clashes; the reference's open, hasVoted, decided, clash.
-/
set_option linter.unusedVariables false
set_option linter.unusedSimpArgs false
set_option maxRecDepth 20000
set_option maxHeartbeats 4000000
namespace Go.Gx
open Go.RowKit Go.Proofs Go.Proofs.Ytnajladibkpeaaa

def EG.addC (g : EG) (i : Nat) (x : CsG) : EG := { g with nc := g.nc + 1, c := fun j => if j < i then g.c j else if j = i then x else g.c (j - 1) }
def EG.addL (g : EG) (i : Nat) (x : LkG) : EG := { g with nl := g.nl + 1, l := fun j => if j < i then g.l j else if j = i then x else g.l (j - 1) }
def EG.dropC (g : EG) (i : Nat) : EG := { g with nc := g.nc - 1, c := fun j => if j < i then g.c j else g.c (j + 1) }
def CsG.addV (x : CsG) (v : VtG) : CsG := { x with nv := x.nv + 1, v := fun k => if k < x.nv then x.v k else v }
def EG.addV (g : EG) (i : Nat) (v : VtG) : EG := { g with c := fun j => if j = i then (g.c i).addV v else g.c j }
def CsG.has (x : CsG) (o : Int) : Bool := (List.range x.nv).any fun i => decide ((x.v i).o = o)
def CsG.says (x : CsG) (s : Bool) : Bool := (List.range x.nv).any fun i => decide ((x.v i).s = s)
def EG.clash (g : EG) (p q : Int) (s : Bool) : Bool := if s = true then decide (0 ≤ g.ap p q) else decide (g.q p = g.q q)
theorem clashes83 (g : EG) (h : g.OK) (hl : g.lth) (D : Nat → Nat → RV) (hD1 : D 0 1 = .rs 3 g.nl fun i j => (g.l i).c j) (hD3 : D 0 3 = .mp g.th fun a => .i (g.q a)) (p q : Int) (s : Bool) (hp : g.th p = true) (hq : g.th q = true) :
    Pure Try.prog 83 [dk D, .agg [.i p, .i q], .b s] (· = .b (g.clash p q s)) := by
  refine pure_of_GC T_ok Try.func83 rfl (by kernel_rfl) (Nat.le_of_ble_eq_true rfl) rfl rfl ?_
  have ha := apart59 g h hl D hD1 hD3 p q hp hq
  cases s
  · simp [go_sem]
    refine GDraw_of T_ok (by kernel_rfl) 15 (by kernel_rfl) rfl rfl ?_
    simp [go_sem, hD3, hp, hq, EG.clash]
  · simp [go_sem]
    by_cases hx : 0 ≤ g.ap p q
    · rw [EG.lv_pos hx] at ha
      refine call_val ha rfl rfl ?_
      simp [go_sem, EG.clash, hx]
    · rw [EG.lv_neg (by omega)] at ha
      refine call_val ha rfl rfl ?_
      simp [go_sem, EG.clash, hx]
abbrev abx (x : RV) : RV := .rp 1 1 (gbox [.r x]) 0 0
theorem cl81 (x : VtG) (C : Nat → Nat → RV) (o : Int) (hC : C 0 0 = .i o) : Pure Try.prog 81 [.agg [.i x.o, .b x.s], .r (.rp 1 1 C 0 0)] (· = .b (decide (x.o = o))) := by
  refine pure_of_GC T_ok Try.func81 rfl (by kernel_rfl) (Nat.le_of_ble_eq_true rfl) rfl rfl ?_
  simp [go_sem, hC]
theorem cl82 (x : VtG) (C : Nat → Nat → RV) (s : Bool) (hC : C 0 0 = .v (.bool s)) : Pure Try.prog 82 [.agg [.i x.o, .b x.s], .r (.rp 1 1 C 0 0)] (· = .b (decide (x.s = s))) := by
  refine pure_of_GC T_ok Try.func82 rfl (by kernel_rfl) (Nat.le_of_ble_eq_true rfl) rfl rfl ?_
  simp [go_sem, hC]
theorem has81 (x : CsG) (hn : x.nv ≤ 1000000000) (C : Nat → Nat → RV) (o : Int) (hC : C 0 0 = .i o) : Pure Try.prog 80 [.r (.rs 2 x.nv fun i j => (x.v i).c j), .fn (.func 81) [] [.r (.rp 1 1 C 0 0)]] (· = .b (x.has o)) :=
  contains80 x.nv hn (fun i j => (x.v i).c j) 81 [.r (.rp 1 1 C 0 0)] rfl (fun i => decide ((x.v i).o = o)) fun i _ => cl81 (x.v i) C o hC
theorem says82 (x : CsG) (hn : x.nv ≤ 1000000000) (C : Nat → Nat → RV) (s : Bool) (hC : C 0 0 = .v (.bool s)) : Pure Try.prog 80 [.r (.rs 2 x.nv fun i j => (x.v i).c j), .fn (.func 82) [] [.r (.rp 1 1 C 0 0)]] (· = .b (x.says s)) :=
  contains80 x.nv hn (fun i j => (x.v i).c j) 82 [.r (.rp 1 1 C 0 0)] rfl (fun i => decide ((x.v i).s = s)) fun i _ => cl82 (x.v i) C s hC
/-- The case of a pair. -/
def EG.co (g : EG) (a b : Int) : Int := ixB (fun i => decide ((g.c i).a = a) && decide ((g.c i).b = b)) g.nc
theorem open87 (g : EG) (h : g.OK) (a b : Int) : Pure Try.prog 87 [g.sv, .i a, .i b] (· = .i (g.co a b)) := by
  refine pure_of_GC T_ok Try.func87 rfl (by kernel_rfl) (Nat.le_of_ble_eq_true rfl) rfl rfl ?_
  have := h.nc
  simp [go_sem]
  refine GLoop_of T_ok (α := Nat) (fun k => [(1, .i a), (2, .i b), (3, .ptr 0 0 3 0), (7, .i k)]) (fun _ => [g.bx]) 1 (fun k => k ≤ g.nc ∧ ∀ j, j < k → ((g.c j).a = a → ¬ (g.c j).b = b)) (fun k => g.nc - k) 0 (fun _ => rfl) (by simp) (by simp [go_sem]) (by simp [go_sem]) ?_
  intro k J hi
  by_cases hlt : k < g.nc
  · have step : ((g.c k).a = a → ¬ (g.c k).b = b) → (k + 1 ≤ g.nc ∧ ∀ j, j < k + 1 → ((g.c j).a = a → ¬ (g.c j).b = b)) := fun hn => ⟨by omega, fun j hj => by
      by_cases hjk : j = k
      · subst hjk; exact hn
      · exact hi.2 j (by omega)⟩
    by_cases h1 : (g.c k).a = a
    · by_cases h2 : (g.c k).b = b
      · simp [go_sem, hlt, h1, h2]
        exact (ixB_at hlt (by simp [h1, h2]) fun j hj => by have := hi.2 j hj; simpa using this).symm
      · simp [go_sem, hlt, h1, h2]
        exact ⟨by omega, k + 1, step (fun _ => h2), by omega, by omega⟩
    · simp [go_sem, hlt, h1]
      exact ⟨by omega, k + 1, step (fun e => absurd e h1), by omega, by omega⟩
  · simp [go_sem, hlt]
    exact (ixB_no fun j hj => by have := hi.2 j (by omega); simpa using this).symm
theorem any_no {n : Nat} {p : Nat → Bool} (h : ∀ j, j < n → p j = false) : (List.range n).any p = false := by
  rw [List.any_eq_false]
  exact fun x hx => by rw [h x (List.mem_range.1 hx)]; simp
theorem any_yes {n k : Nat} {p : Nat → Bool} (h : k < n) (hp : p k = true) : (List.range n).any p = true := List.any_eq_true.2 ⟨k, List.mem_range.2 h, hp⟩
theorem hasVoted88 (x : CsG) (hn : x.nv ≤ 1000000000) (o : Int) : Pure Try.prog 88 [.r (.rs 2 x.nv fun i j => (x.v i).c j), .i o] (· = .b (x.has o)) := by
  refine pure_of_GC T_ok Try.func88 rfl (by kernel_rfl) (Nat.le_of_ble_eq_true rfl) rfl rfl ?_
  simp [go_sem]
  refine GLoop_of T_ok (α := Nat) (fun k => [(0, .r (.rs 2 x.nv fun i j => (x.v i).c j)), (1, .i o), (5, .i k)]) (fun _ => []) 0 (fun k => k ≤ x.nv ∧ ∀ j, j < k → ¬ (x.v j).o = o) (fun k => x.nv - k) 0 (fun _ => rfl) (by simp) (by simp [go_sem]) (by simp [go_sem]) ?_
  intro k J hi
  by_cases hlt : k < x.nv
  · by_cases h1 : (x.v k).o = o
    · simp [go_sem, hlt, h1]
      exact any_yes hlt (by simp [h1])
    · simp [go_sem, hlt, h1]
      refine ⟨by omega, k + 1, ⟨by omega, fun j hj => ?_⟩, by omega, by omega⟩
      by_cases hjk : j = k
      · subst hjk; exact h1
      · exact hi.2 j (by omega)
  · simp [go_sem, hlt]
    exact any_no fun j hj => by simpa using hi.2 j (by omega)
theorem decided89 (x : CsG) (hn : x.nv ≤ 1000000000) (s : Bool) : Pure Try.prog 89 [.r (.rs 2 x.nv fun i j => (x.v i).c j), .b s] (· = .b (x.says s)) := by
  refine pure_of_GC T_ok Try.func89 rfl (by kernel_rfl) (Nat.le_of_ble_eq_true rfl) rfl rfl ?_
  simp [go_sem]
  refine GLoop_of T_ok (α := Nat) (fun k => [(0, .r (.rs 2 x.nv fun i j => (x.v i).c j)), (1, .b s), (5, .i k)]) (fun _ => []) 0 (fun k => k ≤ x.nv ∧ ∀ j, j < k → ¬ (x.v j).s = s) (fun k => x.nv - k) 0 (fun _ => rfl) (by simp) (by simp [go_sem]) (by simp [go_sem]) ?_
  intro k J hi
  by_cases hlt : k < x.nv
  · by_cases h1 : (x.v k).s = s
    · simp [go_sem, hlt, h1]
      exact any_yes hlt (by simp [h1])
    · simp [go_sem, hlt, h1]
      refine ⟨by omega, k + 1, ⟨by omega, fun j hj => ?_⟩, by omega, by omega⟩
      by_cases hjk : j = k
      · subst hjk; exact h1
      · exact hi.2 j (by omega)
  · simp [go_sem, hlt]
    exact any_no fun j hj => by simpa using hi.2 j (by omega)
theorem clash90 (g : EG) (h : g.OK) (hl : g.inl) (a b : Int) (s : Bool) (h0 : 0 ≤ a) (h1 : a < g.nr) (h2 : 0 ≤ b) (h3 : b < g.nr) : Pure Try.prog 90 [g.sv, .i a, .i b, .b s] (· = .b (g.clash a b s)) := by
  refine pure_of_GC T_ok Try.func90 rfl (by kernel_rfl) (Nat.le_of_ble_eq_true rfl) rfl rfl ?_
  have hd := differ60 g h hl a b h0 h1 h2 h3
  rw [EG.df_eq hl h0 h1 h2 h3] at hd
  have ho := one106 g h hl a b h0 h1 h2 h3
  rw [EG.one_eq hl h0 h1 h2] at ho
  cases s
  · simp [go_sem]
    refine call_val ho rfl rfl ?_
    simp [go_sem, EG.clash]
  · simp [go_sem]
    refine call_val hd rfl rfl ?_
    simp [go_sem, EG.clash]
theorem EG.valid_cos {g : EG} (h : g.valid = true) : g.cos = true := by
  rw [← EG.pval_eq] at h
  simp only [EG.pval, Bool.and_eq_true] at h
  exact h.1.1.2
theorem EG.valid_nc {g : EG} (h : g.valid = true) : g.nc ≤ 40 := by
  rw [← EG.pval_eq] at h
  simp only [EG.pval, Bool.and_eq_true, decide_eq_true_eq] at h
  exact h.1.1.1.1.1.2
theorem EG.cin_iff {g : EG} (h : g.cos = true) {p q : Int} : g.cin p q = true ↔ ∃ j, j < g.nc ∧ (g.c j).a = p ∧ (g.c j).b = q :=
  fnd_iff (x := fun i => (g.c i).a) (y := fun i => (g.c i).b) (EG.cos_sorted h)
theorem EG.cat_at {g : EG} (h : g.cos = true) {j : Nat} (hj : j < g.nc) : g.cat (g.c j).a (g.c j).b = j :=
  bnd_at (x := fun i => (g.c i).a) (y := fun i => (g.c i).b) (EG.cos_sorted h) hj
theorem EG.co_yes {g : EG} (h : g.cos = true) {p q : Int} (hc : g.cin p q = true) : g.co p q = (g.cat p q : Nat) := by
  obtain ⟨j, hj, rfl, rfl⟩ := (EG.cin_iff h).1 hc
  rw [EG.cat_at h hj]
  refine ixB_at hj (by simp) fun k hk => ?_
  by_cases e : (g.c k).a = (g.c j).a
  · by_cases e2 : (g.c k).b = (g.c j).b
    · have h1 := EG.cat_at h (show k < g.nc by omega)
      rw [e, e2, EG.cat_at h hj] at h1
      omega
    · simp [e2]
  · simp [e]
theorem EG.co_no {g : EG} (h : g.cos = true) {p q : Int} (hc : g.cin p q = false) : g.co p q = -1 := by
  refine ixB_no fun k hk => ?_
  by_cases e : (g.c k).a = p
  · by_cases e2 : (g.c k).b = q
    · have := (EG.cin_iff h).2 ⟨k, hk, e, e2⟩
      rw [hc] at this
      cases this
    · simp [e2]
  · simp [e]
theorem EG.cat_le (g : EG) (p q : Int) : g.cat p q ≤ g.nc := by
  unfold EG.cat bnd
  cases h : (List.range g.nc).find? fun i => decide (0 ≤ ordI (g.c i).a (g.c i).b p q) with
  | none => exact Nat.le_refl _
  | some i => exact Nat.le_of_lt (List.mem_range.1 (List.find?_range_eq_some.1 h).2.1)
theorem EG.lat_le (g : EG) (p q : Int) : g.lat p q ≤ g.nl := by
  unfold EG.lat bnd
  cases h : (List.range g.nl).find? fun i => decide (0 ≤ ordI (g.l i).a (g.l i).b p q) with
  | none => exact Nat.le_refl _
  | some i => exact Nat.le_of_lt (List.mem_range.1 (List.find?_range_eq_some.1 h).2.1)
theorem EG.cin_lt {g : EG} {p q : Int} (hc : g.cin p q = true) : g.cat p q < g.nc := by
  simp only [EG.cin, fnd, Bool.and_eq_true, decide_eq_true_eq] at hc
  exact hc.1
/-- The error of a vote, what it leads to, and whether the case is decided. -/
def EG.voteE (g : EG) (o a b : Int) (s : Bool) : Int :=
  if g.valid = false then 8 else if ¬ (0 ≤ o ∧ o ≤ 7) then 2 else if a = b ∨ g.th a = false ∨ g.th b = false then 6 else
  if g.lin (min a b) (max a b) = true then 82 else
  if g.cin (min a b) (max a b) = false then (if g.nc = 40 then 9 else 0) else
  if (g.c (g.cat (min a b) (max a b))).has o = true then 80 else
  if (g.c (g.cat (min a b) (max a b))).says s = false then 0 else if g.clash (min a b) (max a b) s = true then 81 else 0
def EG.voteG (g : EG) (o a b : Int) (s : Bool) : EG :=
  if g.cin (min a b) (max a b) = false then g.addC (g.cat (min a b) (max a b)) ⟨min a b, max a b, 1, fun _ => ⟨o, s⟩⟩ else
  if (g.c (g.cat (min a b) (max a b))).says s = false then g.addV (g.cat (min a b) (max a b)) ⟨o, s⟩ else
  (g.dropC (g.cat (min a b) (max a b))).addL (g.lat (min a b) (max a b)) ⟨min a b, max a b, s⟩
def EG.voteD (g : EG) (a b : Int) (s : Bool) : Bool := g.cin (min a b) (max a b) && (g.c (g.cat (min a b) (max a b))).says s
def EG.voteS (g : EG) (o a b : Int) (s : Bool) : SV := if g.voteE o a b s = 0 then .tup [(g.voteG o a b s).oS, .b (g.voteD a b s), .i 0] else .tup [nilR, .b false, .i (g.voteE o a b s)]
def EG.voteR (g : EG) (o a b : Int) (s : Bool) : List Reg := if g.voteE o a b s = 0 then (g.voteG o a b s).oR else []
def EG.voteV (g : EG) (o a b : Int) (s : Bool) : SV := if g.voteE o a b s = 0 then .tup [(g.voteG o a b s).sv, .b (g.voteD a b s), .i 0] else .tup [nilR, .b false, .i (g.voteE o a b s)]
end Go.Gx
/-
  A register in memory of its own, handed back.
-/
set_option linter.unusedVariables false
set_option linter.unusedSimpArgs false
set_option maxRecDepth 20000
set_option maxHeartbeats 4000000
namespace Go.Gx
open Go.RowKit Go.Proofs Go.Proofs.Ytnajladibkpeaaa

theorem EG.out {M : Mem} (g : EG) {R L C : Nat} (p : Nat → Nat) {cs : Nat → Nat → SV} {rest : List SV} (hd : R ≠ L ∧ R ≠ C ∧ L ≠ C) (hp : ∀ i j, i < g.nc → j < g.nc → p i = p j → i = j)
    (hx : ∀ i, i < g.nc → p i ≠ R ∧ p i ≠ L ∧ p i ≠ C) (hR : Reg.sub (M R) (some g.vr)) (hL : Reg.sub (M L) (some g.vl)) (hC : M C = some (.vec 93 3 g.nc cs))
    (h0 : ∀ i, i < g.nc → cs i 0 = .i (g.c i).a ∧ cs i 1 = .i (g.c i).b ∧ cs i 2 = .sl (p i) 2 0 (g.c i).nv none) (hV : ∀ i, i < g.nc → Reg.sub (M (p i)) (some (g.ov i))) (hr : ∀ ρ, SV.renL ρ rest = rest) :
    ∃ ρl, gexp M (.tup (.agg [.sl R 2 0 g.nr none, .sl L 3 0 g.nl none, .sl C 3 0 g.nc none] :: rest)) ρl (.tup (g.oS :: rest)) g.oR := by
  refine ⟨[R, L, C] ++ (List.range g.nc).map p, nodup_fam (by simp; exact ⟨⟨hd.1, hd.2.1⟩, hd.2.2⟩) hp (fun x hx2 i hi => ?_), fun N => ⟨?_, gexpR_fam (Rs := [g.vr, g.vl, .vec 93 3 g.nc (g.oc 3)]) (f := g.ov) ⟨?_, ?_, ?_, trivial⟩ fun i hi => ?_⟩⟩
  · obtain ⟨h1, h2, h3⟩ := hx i hi
    simp at hx2
    rcases hx2 with rfl | rfl | rfl <;> assumption
  · simp only [SV.ren, SV.renL, hr]
    exact SV.sub_rfl _
  · exact hR
  · exact hL
  · rw [hC]
    refine ⟨rfl, rfl, Nat.le_refl _, fun i j hi hj => ?_⟩
    obtain ⟨q0, q1, q2⟩ := h0 i hi
    rcases (by omega : j = 0 ∨ j = 1 ∨ j = 2) with rfl | rfl | rfl
    · exact q0
    · exact q1
    · rw [q2]
      simp only [EG.oc_2, SV.ren]
      have : ([R, L, C] ++ (List.range g.nc).map p)[i + 3]? = some (p i) := by
        rw [List.getElem?_append_right (by simp)]
        simp [hi]
      rw [this]
      rfl
  · exact hV i hi
theorem EG.out' {M : Mem} (g : EG) {R L C : Nat} (p : Nat → Nat) {rest : List SV} (hd : R ≠ L ∧ R ≠ C ∧ L ≠ C) (hp : ∀ i j, i < g.nc → j < g.nc → p i = p j → i = j)
    (hx : ∀ i, i < g.nc → p i ≠ R ∧ p i ≠ L ∧ p i ≠ C) (hR : Reg.sub (M R) (some g.vr)) (hL : Reg.sub (M L) (some g.vl)) (hC : ∃ cs, M C = some (.vec 93 3 g.nc cs) ∧
    ∀ i, i < g.nc → cs i 0 = .i (g.c i).a ∧ cs i 1 = .i (g.c i).b ∧ cs i 2 = .sl (p i) 2 0 (g.c i).nv none) (hV : ∀ i, i < g.nc → Reg.sub (M (p i)) (some (g.ov i))) (hr : ∀ ρ, SV.renL ρ rest = rest) :
    ∃ ρl, gexp M (.tup (.agg [.sl R 2 0 g.nr none, .sl L 3 0 g.nl none, .sl C 3 0 g.nc none] :: rest)) ρl (.tup (g.oS :: rest)) g.oR := by
  obtain ⟨cs, h1, h2⟩ := hC
  exact EG.out g p hd hp hx hR hL h1 h2 hV hr
end Go.Gx
