/-
  The ghost executor over code, and that it is sound.
-/
import Derived.Test.YtaggojedpkddjaaGm
set_option linter.unusedVariables false
set_option linter.unusedSimpArgs false
namespace Go.Gx
open Go.RowKit

def CallPost (B W : Nat → Prop) (n0 : Nat) (σ : Sig) (M : Mem) (w : World) (K : SV → Mem → Nat → (SV → SV) → Prop) (e : Ending) (w' : World) : Prop :=
  ∃ y s M' nx' σ' up, e = .returned y ∧ K s M' nx' up ∧ MOK B W n0 σ' M' (From nx') w' ∧ Keep (Zof B σ M w) (Zof B σ' M' w') w w' ∧ s.rel σ' (Zof B σ' M' w') w' y ∧
    (∀ t z, t.rel σ (Zof B σ M w) w z → (up t).rel σ' (Zof B σ' M' w') w' z) ∧ FrS W n0 w w'

def CallK (P : Program) (f : FuncId) (args : List SV) (M : Mem) (nx : Nat) (K : SV → Mem → Nat → (SV → SV) → Prop) : Prop :=
  ∀ (B W : Nat → Prop) (n0 : Nat) (σ : Sig) (w : World) (vs : List Value), MOK B W n0 σ M (From nx) w → n0 ≤ w.heap.size → SV.relL σ (Zof B σ M w) w args vs →
    ((callFunc f vs.toArray).run P w = .ok (.enter f vs.toArray) w ∧ Calls P f vs.toArray w (CallPost B W n0 σ M w K)) ∨
    ∃ y w', (callFunc f vs.toArray).run P w = .ok (.value y) w' ∧ CallPost B W n0 σ M w K (.returned y) w'

def envPut (E : Env) (d : Option Tmp) (s : SV) : Env := match d with | some d => upd E d s | none => E
def dOK (N : Nat) (d : Option Tmp) : Prop := match d with | some d => d < N | none => True

structure St (B W : Nat → Prop) (w0 : World) (N : Nat) (σ : Sig) (E : Env) (M : Mem) (nx : Nat) (a : Act) (w : World) : Prop where
  env : EOK σ (Zof B σ M w) w E a
  mem : MOK B W w0.heap.size σ M (From nx) w
  fr : Fr W w0 w
  defers : a.defers = []
  size : a.tmps.size = N

/-- An operation that the executor does not know: what it must do. -/
def GOpW (P : Program) (N : Nat) (o : Oper) (E : Env) (M : Mem) (nx : Nat) (K : Env → Mem → Nat → Prop) : Prop :=
  ∀ (B W : Nat → Prop) (w0 : World) (σ : Sig) (a : Act) (w : World), St B W w0 N σ E M nx a w → ∀ (next : Act → World → Prop) (Q : Exit → Act → World → Prop),
    (∀ E' M' nx' σ' a' w', K E' M' nx' → St B W w0 N σ' E' M' nx' a' w' → next a' w') → o.wp P a w next Q

def grun (P : Program) (T : Tab) (N : Nat) (o : Oper) (E : Env) (M : Mem) (nx : Nat) (K : Env → Mem → Nat → Prop) : Prop :=
  dOK N o.dst ∧ match o.op with
  | .pick c x y =>
    match ev E c with
    | .r (.v (.bool t)) => if t = true then K (envPut E o.dst (ev E x)) M nx else K (envPut E o.dst (ev E y)) M nx
    | _ => False
  | op =>
    match gop T op E M nx with
    | .bad => GOpW P N { o with guard := none } E M nx K
    | .pure ob s => ob ∧ K (envPut E o.dst s) M nx
    | .new ob R s => ob ∧ K (envPut E o.dst s) (upd M nx (some R)) (nx + 1)
    | .set ob ref R s => ob ∧ K (envPut E o.dst s) (upd M ref (some R)) nx
    | .app ob ref R s => ob ∧ K (envPut (fun t => (E t).kill ref) o.dst s) (upd (killM ref M) ref (some R)) nx
    | .call f args => CallK P f args M nx fun s M' nx' up => K (envPut (fun t => up (E t)) o.dst s) M' nx'

def gops (P : Program) (T : Tab) (N : Nat) (ops : Array Oper) : List Oper → Env → Mem → Nat → (Env → Mem → Nat → Prop) → Prop
  | [], E, M, nx, K => K E M nx
  | o :: rest, E, M, nx, K =>
    match o.guard with
    | none => grun P T N o E M nx fun E' M' nx' => gops P T N ops rest E' M' nx' K
    | some (j, want) =>
      match (ops[j]?).bind (·.dst) with
      | none => False
      | some d =>
        match E d with
        | .r (.v (.bool t)) =>
          if t = want then grun P T N o (upd E d (.b want)) M nx fun E' M' nx' => gops P T N ops rest E' M' nx' K
          else dOK N o.dst ∧ gops P T N ops rest (envPut (upd E d (.b (!want))) o.dst (.r (.v undef))) M nx K
        | .r (.v x) => dOK N o.dst ∧ gops P T N ops rest (envPut E o.dst (.r (.v undef))) M nx K
        | _ => False

section
variable {P : Program} {T : Tab} {B W : Nat → Prop} {w0 : World} {N : Nat} {σ : Sig} {M : Mem} {nx : Nat} {w : World} {a : Act} {E : Env}

theorem MOK.weaken {n0 : Nat} {F F' : Nat → Prop} (h : MOK B W n0 σ M F w) (hf : ∀ r, F' r → F r) : MOK B W n0 σ M F' w := ⟨h.newB, fun r hr => h.fresh r (hf r hr), h.reg, h.inj, h.own⟩

theorem Fr.step {w' : World} (h : Fr W w0 w) (k : FrS W w0.heap.size w w') : Fr W w0 w' :=
  ⟨k.os.trans h.os, k.tape.trans h.tape, k.output.trans h.output, Nat.le_trans h.size k.size, fun b hb hw => (k.block b hb hw).trans (h.block b hb hw)⟩

theorem EOK.put {Z : Nat → Prop} (h : EOK σ Z w E a) {d : Option Tmp} {s : SV} {y : Value} (hd : dOK a.tmps.size d) (hs : s.rel σ Z w y) : EOK σ Z w (envPut E d s) (a.put d y) := by
  cases d with
  | none => exact h
  | some d =>
    intro t
    simp only [envPut, Act.put]
    by_cases ht : t = d
    · subst ht
      rw [upd_same]
      have : (a.tmps.setIfInBounds t y).getD t undef = y := by
        have hd' : t < a.tmps.size := hd
        simp [hd']
      rw [this]; exact hs
    · rw [upd_ne _ _ ht]
      have : (a.tmps.setIfInBounds d y).getD t undef = a.tmps.getD t undef := by
        simp [Array.getElem?_setIfInBounds, Ne.symm ht]
      rw [this]; exact h t

theorem put_size (a : Act) (d : Option Tmp) (y : Value) : (a.put d y).tmps.size = a.tmps.size := by cases d <;> simp [Act.put]
theorem put_defers (a : Act) (d : Option Tmp) (y : Value) : (a.put d y).defers = a.defers := by cases d <;> rfl

theorem St.put (h : St B W w0 N σ E M nx a w) {d : Option Tmp} {s : SV} {y : Value} (hd : dOK N d) (hs : s.rel σ (Zof B σ M w) w y) : St B W w0 N σ (envPut E d s) M nx (a.put d y) w :=
  ⟨h.env.put (by rw [h.size]; exact hd) hs, h.mem, h.fr, by rw [put_defers]; exact h.defers, by rw [put_size]; exact h.size⟩

theorem undef_v {Z : Nat → Prop} : (SV.r (.v undef)).rel σ Z w undef := rfl

/-- From one memory to the next. -/
theorem St.go (h : St B W w0 N σ E M nx a w) {σ' : Sig} {M' : Mem} {nx' : Nat} {w' : World} {E' : Env} (hm : MOK B W w0.heap.size σ' M' (From nx') w') (hf : FrS W w0.heap.size w w')
    (he : ∀ t z, (E t).rel σ (Zof B σ M w) w z → (E' t).rel σ' (Zof B σ' M' w') w' z) : St B W w0 N σ' E' M' nx' a w' :=
  ⟨fun t => he t _ (h.env t), hm, h.fr.step hf, h.defers, h.size⟩

theorem grun_sound (hT : TabOK P T) {o : Oper} {K : Env → Mem → Nat → Prop} {next : Act → World → Prop} {Q : Exit → Act → World → Prop} (h : St B W w0 N σ E M nx a w) (hg : grun P T N o E M nx K)
    (hK : ∀ E' M' nx' σ' a' w', K E' M' nx' → St B W w0 N σ' E' M' nx' a' w' → next a' w') : o.wp P a w next Q := by
  obtain ⟨hd, hg⟩ := hg
  by_cases hbad : (∃ c x y, o.op = .pick c x y) ∨ gop T o.op E M nx ≠ .bad
  rotate_left
  · have h1 : ¬ ∃ c x y, o.op = .pick c x y := fun h => hbad (.inl h)
    have h2 : gop T o.op E M nx = .bad := by
      rcases Classical.em (gop T o.op E M nx = .bad) with h | h
      · exact h
      · exact absurd (.inr h) hbad
    split at hg
    · rename_i c x y hop
      exact absurd ⟨c, x, y, hop⟩ h1
    · rw [h2] at hg
      exact hg B W w0 σ a w h next Q hK
  have hs := snd_op hT h.mem (nx := nx) (Nat.le_refl nx) h.fr.size h.env o
  unfold Oper.wp
  generalize hr : (execOp a.eval o).run P w = r at hs
  split at hg
  · rename_i c x y hop
    have hc := ev_rel h.env c
    split at hg
    · rename_i t heq
      rw [heq] at hc
      have e : r = .ok (.value (if t then a.eval x else a.eval y)) w := by
        rw [← hr]; simp only [execOp, hop, show a.eval c = .bool t from hc, asBool]; rfl
      rw [e]
      cases t
      · exact hK _ _ _ _ _ _ (by simpa using hg) (h.put hd (ev_rel h.env y))
      · exact hK _ _ _ _ _ _ (by simpa using hg) (h.put hd (ev_rel h.env x))
    · exact hg.elim
  · rename_i hnp
    split at hg
    · rename_i hgo
      rcases hbad with ⟨c, x, y, hop⟩ | hne
      · exact absurd hop (hnp c x y)
      · exact absurd hgo hne
    · rename_i ob s hgo
      rw [hgo] at hs
      obtain ⟨y, hy | ⟨hy, rfl⟩, hrel⟩ := hs hg.1
      · rw [hy]; exact hK _ _ _ _ _ _ hg.2 (h.put hd hrel)
      · rw [hy]; exact hK _ _ _ _ _ _ hg.2 (h.put hd hrel)
    · rename_i ob R s hgo
      rw [hgo] at hs
      obtain ⟨y, w', L, hy, h1, h2, h3, h4⟩ := hs hg.1
      rw [hy]
      refine hK _ _ _ _ _ _ hg.2 (St.put (h.go (h1.weaken fun r hr => ⟨Nat.le_of_succ_le hr, Nat.ne_of_gt hr⟩) h4 fun t z hz => SV.rel_mono (fun r L' hL => ?_) h2 _ _ hz) hd h3)
      by_cases hr : r = nx
      · subst hr; rw [h.mem.fresh r (Nat.le_refl r)] at hL; cases hL
      · rw [upd_ne _ _ hr]; exact hL
    · rename_i ob ref R s hgo
      rw [hgo] at hs
      obtain ⟨y, w', hy, h1, h2, h3, h4⟩ := hs hg.1
      have hst := h.go h1 h4 fun t z hz => SV.rel_mono (fun r L' hL => hL) h2 _ _ hz
      rcases hy with hy | ⟨hy, rfl⟩
      · rw [hy]; exact hK _ _ _ _ _ _ hg.2 (St.put hst hd h3)
      · rw [hy]; exact hK _ _ _ _ _ _ hg.2 (St.put hst hd h3)
    · rename_i ob ref R s hgo
      rw [hgo] at hs
      obtain ⟨y, w', L, hy, h1, h2, h3, h4, h5⟩ := hs hg.1
      rw [hy]
      exact hK _ _ _ _ _ _ hg.2 (St.put (h.go h1 h4 fun t z hz => SV.rel_kill h5 h2 _ _ hz) hd h3)
    · rename_i f args hgo
      rw [hgo] at hs
      obtain ⟨vs, h1, h2⟩ := hs
      rcases hg B W _ σ w vs h.mem h.fr.size h1 with ⟨c1, c2⟩ | ⟨y, w', c1, c2⟩
      · rw [h2, c1]
        refine c2.mono fun e w' hp => ?_
        obtain ⟨y, s, M', nx', σ', up, rfl, p1, p2, p3, p4, p5, p6⟩ := hp
        exact hK _ _ _ _ _ _ p1 (St.put (h.go p2 p6 fun t z hz => p5 _ _ hz) hd p4)
      · rw [h2, c1]
        obtain ⟨y', s, M', nx', σ', up, he, p1, p2, p3, p4, p5, p6⟩ := c2
        cases he
        exact hK _ _ _ _ _ _ p1 (St.put (h.go p2 p6 fun t z hz => p5 _ _ hz) hd p4)

theorem yielded_of {ops : Array Oper} {j d : Nat} {t : Bool} (hj : (ops[j]?).bind (·.dst) = some d) (he : (SV.b t).rel σ (Zof B σ M w) w (a.tmps.getD d undef)) (hd : d < a.tmps.size) : yielded ops a.tmps j = some t := by
  have h : a.tmps.getD d undef = .bool t := he
  have h2 : a.tmps[d]? = some (.bool t) := by
    rw [← h]; simp [hd]
  simp [yielded, hj, h2]

theorem yielded_non {ops : Array Oper} {j d : Nat} {x : Value} (hj : (ops[j]?).bind (·.dst) = some d) (he : (SV.r (.v x)).rel σ (Zof B σ M w) w (a.tmps.getD d undef)) (hx : ∀ t, x = .bool t → False) : yielded ops a.tmps j = none := by
  have h : a.tmps.getD d undef = x := he
  cases h3 : a.tmps[d]? with
  | none => simp [yielded, hj, h3]
  | some y =>
    have : y = x := by rw [← h]; simp [h3]
    subst this
    cases y <;> first | (simp [yielded, hj, h3]; done) | exact (hx _ rfl).elim

/-- The guard's temporary is a bool: it is one of the frame's. -/
theorem lt_of_bool {d : Nat} {t : Bool} (he : (SV.b t).rel σ (Zof B σ M w) w (a.tmps.getD d undef)) : d < a.tmps.size := by
  rcases Nat.lt_or_ge d a.tmps.size with h | h
  · exact h
  · have h1 : a.tmps.getD d undef = .bool t := he
    have h2 : a.tmps.getD d undef = undef := by simp [Array.getElem?_eq_none h]
    rw [h2] at h1; cases h1

theorem upd_env (h : St B W w0 N σ E M nx a w) {d : Nat} {s : SV} (hs : s.rel σ (Zof B σ M w) w (a.tmps.getD d undef)) : St B W w0 N σ (upd E d s) M nx a w :=
  ⟨fun t => by
    by_cases ht : t = d
    · subst ht; rw [upd_same]; exact hs
    · rw [upd_ne _ _ ht]; exact h.env t, h.mem, h.fr, h.defers, h.size⟩

theorem gops_sound (hT : TabOK P T) {ops : Array Oper} {K : Env → Mem → Nat → Prop} {Q : Exit → Act → World → Prop}
    (hK : ∀ E' M' nx' σ' a' w', K E' M' nx' → St B W w0 N σ' E' M' nx' a' w' → Q .normal a' w') :
    ∀ (l : List Oper) (E : Env) (M : Mem) (nx : Nat) (σ : Sig) (a : Act) (w : World), St B W w0 N σ E M nx a w → gops P T N ops l E M nx K → wpList P ops Q l a w
  | [], E, M, nx, σ, a, w, h, hg => hK _ _ _ _ _ _ hg h
  | o :: rest, E, M, nx, σ, a, w, h, hg => by
    unfold wpList
    simp only [gops] at hg
    split at hg
    · rename_i hgd
      rw [if_pos (by simp [Region.wanted, hgd])]
      exact .inl (grun_sound hT h hg fun E' M' nx' σ' a' w' hk hs => gops_sound hT hK rest E' M' nx' σ' a' w' hs hk)
    · rename_i j want hgd
      split at hg
      · exact hg.elim
      · rename_i d hj
        split at hg
        · rename_i t heq
          have he := h.env d
          rw [heq] at he
          have hy := yielded_of hj he (lt_of_bool he)
          by_cases ht : t = want
          · subst ht
            rw [if_pos rfl] at hg
            rw [if_pos (by simp [Region.wanted, hgd, hy])]
            exact .inl (grun_sound hT (upd_env h he) hg fun E' M' nx' σ' a' w' hk hs => gops_sound hT hK rest E' M' nx' σ' a' w' hs hk)
          · rw [if_neg ht] at hg
            have hb : t = !want := by cases t <;> cases want <;> simp_all
            rw [if_neg (by simp [Region.wanted, hgd, hy, ht])]
            rw [hb] at he
            exact gops_sound hT hK rest _ _ _ _ _ _ (St.put (upd_env h he) hg.1 undef_v) hg.2
        · rename_i x hnb heq
          have he := h.env d
          rw [heq] at he
          rw [if_neg (by simp [Region.wanted, hgd, yielded_non hj he hnb])]
          exact gops_sound hT hK rest _ _ _ _ _ _ (St.put h hg.1 undef_v) hg.2
        · exact hg.elim
end

/-! ### code -/
/-- What a piece of code does, as ghosts say. -/
def GW (P : Program) (N : Nat) (c : Code) (E : Env) (M : Mem) (nx : Nat) (Q : Exit → Env → Mem → Nat → Prop) : Prop :=
  ∀ (B W : Nat → Prop) (w0 : World) (σ : Sig) (a : Act) (w : World), St B W w0 N σ E M nx a w →
    c.wp P (fun e a' w' => ∃ E' M' nx' σ', Q e E' M' nx' ∧ St B W w0 N σ' E' M' nx' a' w') a w

def gseq (k : Env → Mem → Nat → Prop) (Q : Exit → Env → Mem → Nat → Prop) : Exit → Env → Mem → Nat → Prop
  | .normal, E, M, nx => k E M nx
  | e, E, M, nx => Q e E M nx
def gblock (id : Nat) (Q : Exit → Env → Mem → Nat → Prop) : Exit → Env → Mem → Nat → Prop
  | .exit id', E, M, nx => if id' = id then Q .normal E M nx else Q (.exit id') E M nx
  | e, E, M, nx => Q e E M nx

def gexec (P : Program) (T : Tab) (N : Nat) : Code → Env → Mem → Nat → (Exit → Env → Mem → Nat → Prop) → Prop
  | .skip, E, M, nx, Q => Q .normal E M nx
  | .region id ops false, E, M, nx, Q => gops P T N ops ops.toList E M nx (Q .normal)
  | .seq x y, E, M, nx, Q => gexec P T N x E M nx (gseq (fun E M nx => gexec P T N y E M nx Q) Q)
  | .cond c x y, E, M, nx, Q =>
    match ev E c with
    | .r (.v (.bool t)) => if t = true then gexec P T N x E M nx Q else gexec P T N y E M nx Q
    | .r (.bx φ) => (φ true → gexec P T N x E M nx Q) ∧ (φ false → gexec P T N y E M nx Q)
    | _ => False
  | .block id c, E, M, nx, Q => gexec P T N c E M nx (gblock id Q)
  | .exit id, E, M, nx, Q => Q (.exit id) E M nx
  | .ret, E, M, nx, Q => Q .ret E M nx
  | c, E, M, nx, Q => GW P N c E M nx Q

theorem GW.mono {P : Program} {N : Nat} {c : Code} {E : Env} {M : Mem} {nx : Nat} {Q Q' : Exit → Env → Mem → Nat → Prop} (h : GW P N c E M nx Q) (hq : ∀ e E M nx, Q e E M nx → Q' e E M nx) : GW P N c E M nx Q' :=
  fun B W w0 σ a w hs => Code.wp_mono (fun e a' w' ⟨E', M', nx', σ', h1, h2⟩ => ⟨E', M', nx', σ', hq _ _ _ _ h1, h2⟩) (h B W w0 σ a w hs)

theorem gexec_sound {P : Program} {T : Tab} {N : Nat} (hT : TabOK P T) : ∀ (c : Code) (E : Env) (M : Mem) (nx : Nat) (Q : Exit → Env → Mem → Nat → Prop), gexec P T N c E M nx Q → GW P N c E M nx Q := by
  intro c
  induction c with
  | skip => exact fun E M nx Q h B W w0 σ a w hs => wp_skip ⟨E, M, nx, σ, h, hs⟩
  | region id ops draw =>
    intro E M nx Q h B W w0 σ a w hs
    cases draw with
    | false => exact wp_region_list (gops_sound hT (fun E' M' nx' σ' a' w' hk hs' => ⟨E', M', nx', σ', hk, hs'⟩) _ _ _ _ _ _ _ hs h)
    | true => exact h B W w0 σ a w hs
  | seq x y ihx ihy =>
    intro E M nx Q h B W w0 σ a w hs
    refine wp_seq (Code.wp_mono (fun e a' w' h' => ?_) (ihx _ _ _ _ h B W w0 σ a w hs))
    obtain ⟨E', M', nx', σ', h1, h2⟩ := h'
    cases e with
    | normal => exact ihy _ _ _ _ h1 B W w0 σ' a' w' h2
    | _ => exact ⟨E', M', nx', σ', h1, h2⟩
  | cond c x y ihx ihy =>
    intro E M nx Q h B W w0 σ a w hs
    have hc := ev_rel hs.env c
    simp only [gexec] at h
    split at h
    · rename_i t heq
      rw [heq] at hc
      refine wp_cond (t := t) hc ?_
      cases t
      · simp at h; exact ihy _ _ _ _ h B W w0 σ a w hs
      · simp at h; exact ihx _ _ _ _ h B W w0 σ a w hs
    · rename_i φ heq
      rw [heq] at hc
      obtain ⟨t, ht, hc⟩ := hc
      refine wp_cond (t := t) hc ?_
      cases t
      · exact ihy _ _ _ _ (h.2 ht) B W w0 σ a w hs
      · exact ihx _ _ _ _ (h.1 ht) B W w0 σ a w hs
    · exact h.elim
  | block id c ih =>
    intro E M nx Q h B W w0 σ a w hs
    refine wp_block (Code.wp_mono (fun e a' w' h' => ?_) (ih _ _ _ _ h B W w0 σ a w hs))
    obtain ⟨E', M', nx', σ', h1, h2⟩ := h'
    cases e with
    | exit id' =>
      simp only [gblock] at h1
      simp only [Exit.inBlock]
      split
      · rename_i he; rw [if_pos he] at h1; exact ⟨E', M', nx', σ', h1, h2⟩
      · rename_i he; rw [if_neg he] at h1; exact ⟨E', M', nx', σ', h1, h2⟩
    | _ => exact ⟨E', M', nx', σ', h1, h2⟩
  | exit id => exact fun E M nx Q h B W w0 σ a w hs => wp_exit ⟨E, M, nx, σ, h, hs⟩
  | ret => exact fun E M nx Q h B W w0 σ a w hs => wp_ret ⟨E, M, nx, σ, h, hs⟩
  | loop c ih => exact fun E M nx Q h => h
  | rangeFunc f ps as b ih1 ih2 => exact fun E M nx Q h => h
  | scope c ih => exact fun E M nx Q h => h
  | label l => exact fun E M nx Q h => h
  | goto l => exact fun E M nx Q h => h
  | refuse s => exact fun E M nx Q h => h

end Go.Gx
