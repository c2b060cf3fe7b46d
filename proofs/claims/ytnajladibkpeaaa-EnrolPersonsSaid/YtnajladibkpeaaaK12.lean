/-
  Regions of open order by all their orders; what reads no memory goes first (checks of pointers too).
-/
import Derived.Test.YtnajladibkpeaaaK11
set_option linter.unusedVariables false
set_option linter.unusedSimpArgs false
namespace Go.Gx
open Go.RowKit

/-- What goes first: it reads no memory. -/
def takesX (o : Oper) : Bool := o.guard.isNone && match o.op with | .fieldAddr .. | .move _ | .assign _ | .nilCheck _ => true | _ => false
def gtakeX (T : Tab) (E : Env) : Op → GR
  | .fieldAddr t x f => gfield T t (ev E x) f
  | .move x | .assign x => .pure True (ev E x)
  | .nilCheck x => gnilop (ev E x)
  | _ => .bad
def TT.makeX (ops : Array Oper) : Nat → Array Bool → TT
  | 0, l => if (Region.ready .any ops l).isEmpty then .done else .bad
  | n + 1, l =>
    let r := Region.ready .any ops l
    if r.isEmpty then .done else
    match r.find? fun i => ((ops[i]?).map takesX).getD false && Region.free .any ops l i with
    | some i => .take i (TT.makeX ops n (l.setIfInBounds i true))
    | none => r.foldr (fun i t => .alt i (TT.makeX ops n (l.setIfInBounds i true)) t) .nil

section
variable (P : Program) (T : Tab) (N : Cfg)
def TQX (K : Env → Mem → Nat → Prop) : GQ := fun e E M nx => match e with | .normal => K E M nx | _ => True
def GTkX (g : GR) (d : Option Tmp) (K : Env → Mem → Nat → Prop) (E : Env) (M : Mem) (nx : Nat) : Prop :=
  match g with
  | .pure ob s => ob ∧ dOK N.n d ∧ K (envPut E d s) M nx
  | _ => False
def GUX (all : Array Oper) : TT → List It → GQ → Env → Mem → Nat → Prop
  | .done, k, Q, E, M, nx => GK P T N k Q .normal E M nx
  | .bad, _, _, _, _, _ => False
  | .nil, _, _, _, _, _ => True
  | .alt i sub more, k, Q, E, M, nx => (match all[i]? with | some o => GO P T N all [o] [] (TQX (GUX all sub k Q)) E M nx | none => False) ∧ GUX all more k Q E M nx
  | .take i sub, k, Q, E, M, nx => match all[i]? with | some o => GTkX N (gtakeX T E o.op) o.dst (GUX all sub k Q) E M nx | none => False
def GUoX (o : Option Oper) (all : Array Oper) (sub : TT) (k : List It) (Q : GQ) (E : Env) (M : Mem) (nx : Nat) : Prop :=
  match o with | some o => GO P T N all [o] [] (TQX (GUX P T N all sub k Q)) E M nx | none => False
def GUtX (o : Option Oper) (all : Array Oper) (sub : TT) (k : List It) (Q : GQ) (E : Env) (M : Mem) (nx : Nat) : Prop :=
  match o with | some o => GTkX N (gtakeX T E o.op) o.dst (GUX P T N all sub k Q) E M nx | none => False
end
section
variable {P : Program} {T : Tab} {N : Cfg} {k : List It} {Q : GQ} {E : Env} {M : Mem} {nx : Nat}
@[go_sem] theorem TQX_normal (K : Env → Mem → Nat → Prop) : TQX K .normal E M nx = K E M nx := (rfl)
@[go_sem] theorem GUX_done (all : Array Oper) : GUX P T N all .done k Q E M nx = GK P T N k Q .normal E M nx := (rfl)
@[go_sem] theorem GUX_nil (all : Array Oper) : GUX P T N all .nil k Q E M nx = True := (rfl)
@[go_sem] theorem GUX_alt (all : Array Oper) (i : Nat) (s m : TT) : GUX P T N all (.alt i s m) k Q E M nx = (GUoX P T N all[i]? all s k Q E M nx ∧ GUX P T N all m k Q E M nx) := (rfl)
@[go_sem] theorem GUX_take (all : Array Oper) (i : Nat) (s : TT) : GUX P T N all (.take i s) k Q E M nx = GUtX P T N all[i]? all s k Q E M nx := (rfl)
@[go_sem] theorem GUoX_some (all : Array Oper) (o : Oper) (s : TT) : GUoX P T N (some o) all s k Q E M nx = GO P T N all [o] [] (TQX (GUX P T N all s k Q)) E M nx := (rfl)
@[go_sem] theorem GUtX_some (all : Array Oper) (d : Option Tmp) (op : Op) (ty : TypeId) (pos : String) (af : Array Edge) (g : Option (Nat × Bool)) (s : TT) :
    GUtX P T N (some ⟨d, op, ty, pos, af, g⟩) all s k Q E M nx = GTkX N (gtakeX T E op) d (GUX P T N all s k Q) E M nx := (rfl)
@[go_sem] theorem GTkX_pure (ob : Prop) (s : SV) (d : Option Tmp) (K : Env → Mem → Nat → Prop) : GTkX N (.pure ob s) d K E M nx = (ob ∧ dOK N.n d ∧ K (envPut E d s) M nx) := (rfl)
@[go_sem] theorem gtakeX_fieldAddr (t : TypeId) (x : Operand) (f : Nat) : gtakeX T E (.fieldAddr t x f) = gfield T t (ev E x) f := (rfl)
@[go_sem] theorem gtakeX_move (x : Operand) : gtakeX T E (.move x) = .pure True (ev E x) := (rfl)
@[go_sem] theorem gtakeX_nilCheck (x : Operand) : gtakeX T E (.nilCheck x) = gnilop (ev E x) := (rfl)
@[go_sem] theorem gtakeX_assign (x : Operand) : gtakeX T E (.assign x) = .pure True (ev E x) := (rfl)

theorem guX_alts {all : Array Oper} {f : Nat → TT} : ∀ (l : List Nat), GUX P T N all (l.foldr (fun i t => .alt i (f i) t) .nil) k Q E M nx →
    ∀ i ∈ l, ∃ o, all[i]? = some o ∧ gops P T N all [o] E M nx (fun E M nx => GUX P T N all (f i) k Q E M nx)
  | [], _, i, hi => by simp at hi
  | j :: l, h, i, hi => by
    simp only [List.foldr_cons, GUX] at h
    rcases List.mem_cons.1 hi with rfl | hi
    · have h1 := h.1
      cases ho : all[i]? with
      | none => rw [ho] at h1; exact h1.elim
      | some o => rw [ho] at h1; exact ⟨o, rfl, h1⟩
    · exact guX_alts l h.2 i hi

theorem guX_any (hT : TabOK P T) {B W : Nat → Prop} {w0 : W0} {all : Array Oper} (hsel : Region.noSelect all = true) {R : Exit → Act → World → Prop}
    (hK : ∀ E M nx σ a w, GK P T N k Q .normal E M nx → St B W w0 N σ E M nx a w → R .normal a w) (hR : ∀ c a w, ¬ R (.panic c) a w) : ∀ (fuel : Nat) (listed : Array Bool) (E : Env) (M : Mem) (nx : Nat) (σ : Sig) (a : Act) (w : World),
    St B W w0 N σ E M nx a w → GUX P T N all (TT.makeX all fuel listed) k Q E M nx → wpAny P .any all R fuel listed a w := by
  intro fuel
  induction fuel with
  | zero =>
    intro listed E M nx σ a w h hg
    simp only [TT.makeX] at hg
    split at hg
    · rename_i hr
      exact ⟨List.isEmpty_iff.1 hr, hK _ _ _ _ _ _ hg h⟩
    · exact hg.elim
  | succ fuel ih =>
    intro listed E M nx σ a w h hg
    simp only [TT.makeX] at hg
    split at hg
    · rename_i hr
      have hr' := List.isEmpty_iff.1 hr
      refine ⟨fun _ => hK _ _ _ _ _ _ hg h, fun i hi => ?_⟩
      rw [hr'] at hi; simp at hi
    · rename_i hr
      split at hg
      · rename_i i hi
        have hp := List.find?_some hi
        have hmem := List.mem_of_find?_eq_some hi
        simp only [Bool.and_eq_true] at hp
        obtain ⟨hp1, hp2⟩ := hp
        simp only [GUX] at hg
        cases ho : all[i]? with
        | none => rw [ho] at hg; exact hg.elim
        | some o =>
          rw [ho] at hg hp1
          simp only [Option.map_some, Option.getD_some] at hp1
          obtain ⟨dst, op, ty, pos, af, gd⟩ := o
          simp only [takesX, Bool.and_eq_true, Option.isNone_iff_eq_none] at hp1
          obtain ⟨rfl, hp1⟩ := hp1
          have hw : Region.wanted ⟨dst, op, ty, pos, af, none⟩ (yielded all a.tmps) = true := by simp [Region.wanted]
          have fin : ∀ (s : SV) (y : Value), (∀ w, (execOp a.eval ⟨dst, op, ty, pos, af, none⟩).run P w = .ok (.value y) w) → s.rel σ (Zof B σ M w) w y → dOK N.n dst → GUX P T N all (TT.makeX all fuel (listed.setIfInBounds i true)) k Q (envPut E dst s) M nx → wpAny P .any all R (fuel + 1) listed a w := by
            intro s y h1 h2 h3 h4
            exact wpAny_take (v := y) ho hsel hp2 (by simpa using hmem) (fun c a w hh => (hR _ _ _ hh).elim) (.inl ⟨hw, h1⟩) (ih _ _ _ _ _ _ _ (h.put h3 h2) h4)
          cases op with
          | fieldAddr t x f =>
            simp only [gtakeX] at hg
            cases hq : gfield T t (ev E x) f with
            | pure ob s =>
              rw [hq] at hg
              obtain ⟨h1, h2, h3⟩ := hg
              obtain ⟨y, e1, e2⟩ := take_field hT hq h1 (ev_rel h.env x)
              exact fin s y (fun w => by simp [execOp, e1]) e2 h2 h3
            | _ => rw [hq] at hg; exact hg.elim
          | move x =>
            obtain ⟨_, h2, h3⟩ := hg
            exact fin _ (a.eval x) (fun w => rfl) (ev_rel h.env x) h2 h3
          | assign x =>
            obtain ⟨_, h2, h3⟩ := hg
            exact fin _ (a.eval x) (fun w => rfl) (ev_rel h.env x) h2 h3
          | nilCheck x =>
            simp only [gtakeX] at hg
            have hx := ev_rel h.env x
            unfold gnilop at hg
            split at hg
            · rename_i a1 a2 a3 a4 heq
              rw [heq] at hx
              obtain ⟨_, h2, h3⟩ := hg
              obtain ⟨L, b, q1, q2, q3⟩ := hx
              exact fin (.ptr a1 a2 a3 a4) (a.eval x) (fun w => by simp [execOp, q3]) ⟨L, b, q1, q2, q3⟩ h2 h3
            · rename_i a1 a2 a3 a4 a5 heq
              rw [heq] at hx
              obtain ⟨_, h2, h3⟩ := hg
              obtain ⟨b, o, q1, q2⟩ := hx
              exact fin (.r (.rp a1 a2 a3 a4 a5)) (a.eval x) (fun w => by simp [execOp, q1]) ⟨b, o, q1, q2⟩ h2 h3
            · rename_i f a1 a2 heq
              rw [heq] at hx
              split at hg
              · rename_i f'
                obtain ⟨_, h2, h3⟩ := hg
                obtain ⟨vs, ws, q1, q2⟩ := hx
                exact fin (.fn (.func f') a1 a2) (a.eval x) (fun w => by simp [execOp, q1]) ⟨vs, ws, q1, q2⟩ h2 h3
              · exact hg.elim
            · exact hg.elim
          | _ => simp at hp1
      · refine ⟨fun h' => absurd (List.isEmpty_iff.2 h') hr, fun i hi => ?_⟩
        obtain ⟨o, ho, hgo⟩ := guX_alts _ hg i hi
        have hs := gops_step (Q := R) (next := wpAny P .any all R fuel (listed.setIfInBounds i true)) hT h hgo (fun E' M' nx' σ' a' w' hk hs => ih _ E' M' nx' σ' a' w' hs hk)
        unfold wpOp; rw [ho]; simp only []
        split
        · rename_i hw; rw [if_pos hw] at hs; exact .inl hs
        · rename_i hw; rw [if_neg hw] at hs; exact hs

/-- A region of open order, by all its orders. -/
theorem GDraw_x (hT : TabOK P T) (hm : P.follows .mixedOrders = true) {id : Nat} {all : Array Oper} {t : TT} (hsel : Region.noSelect all = true) (ht : TT.makeX all all.size (Array.replicate all.size false) = t)
    (hp : ∀ c E M nx, GK P T N k Q (.panic c) E M nx → False) (h : GUX P T N all t k Q E M nx) : GDraw P T N id all k Q E M nx := by
  subst ht
  intro B W w0 σ a w hs
  refine wp_region_any hm (guX_any hT hsel (R := fun e a' w' => ∃ E' M' nx' σ', GK P T N k Q e E' M' nx' ∧ St B W w0 N σ' E' M' nx' a' w') (fun E M nx σ a w hk hst => ⟨E, M, nx, σ, hk, hst⟩) (fun c a w ⟨E, M, nx, σ, hk, _⟩ => hp _ _ _ _ hk) _ _ E M nx σ a _ hs.drawn h)
end
end Go.Gx
