/-
  Loops and calls for the walk by simp.
-/
import Derived.Test.YtaggojedpkddjaaGu
set_option linter.unusedVariables false
set_option linter.unusedSimpArgs false
namespace Go.Gx
open Go.RowKit

section
variable {P : Program} {T : Tab} {N : Nat} {k : List It} {Q : GQ} {E : Env} {M : Mem} {nx : Nat}

/-- What a round of a loop must end with. -/
def LQ (P : Program) (T : Tab) (N : Nat) {α : Type} (S : α → List (Nat × SV)) (Rs : α → List (Option Reg)) (n : Nat) (I : α → Prop) (μ : α → Nat) (x : α) (k : List It) (Q : GQ) : GQ :=
  gseq (fun E' M' nx' => ∃ x', I x' ∧ μ x' < μ x ∧ slots n E' (S x') ∧ regs 0 (trimM n M') (Rs x')) (GK P T N k Q)
section
variable {α : Type} {S : α → List (Nat × SV)} {Rs : α → List (Option Reg)} {n : Nat} {I : α → Prop} {μ : α → Nat} {x : α}
@[go_sem] theorem LQ_normal : LQ P T N S Rs n I μ x k Q .normal E M nx = ∃ x', I x' ∧ μ x' < μ x ∧ slots n E (S x') ∧ regs 0 (trimM n M) (Rs x') := rfl
@[go_sem] theorem LQ_exit (i : Nat) : LQ P T N S Rs n I μ x k Q (.exit i) E M nx = GK P T N k Q (.exit i) E M nx := rfl
@[go_sem] theorem LQ_ret : LQ P T N S Rs n I μ x k Q .ret E M nx = GK P T N k Q .ret E M nx := rfl
end
theorem GLoop_of (hT : TabOK P T) {α : Type} {c : Code} (S : α → List (Nat × SV)) (Rs : α → List (Option Reg)) (n : Nat) (I : α → Prop) (μ : α → Nat) (x0 : α)
    (hn : ∀ x, (Rs x).length = n) (h0 : I x0) (hE : slots n E (S x0)) (hM : regs 0 (trimM n M) (Rs x0))
    (round : ∀ x J, I x → GC P T N c [] (LQ P T N S Rs n I μ x k Q) (updL J (S x)) (memL (Rs x)) n) : GLoop P T N c k Q E M nx := by
  refine gloop S Rs n I μ x0 hn h0 hE hM fun x J hi => ?_
  exact gexec_sound hT c _ _ _ _ (round x J hi)

/-- A call whose result is known, no memory lent. -/
theorem call_val {f : FuncId} {args : List SV} {v : SV} {K : SV → Mem → Nat → (SV → SV) → Prop} (hp : Pure P f args (· = v)) (hc : SV.closedL args = true) (hv : v.closed = true) (hK : K v M nx id) : CallK P f args M nx K :=
  callK_pure hp hc (fun s hs => by rw [hs]; exact hv) (fun s hs => by rw [hs]; exact hK)
/-- A call whose result is known and flat; its arguments may be lent. -/
theorem call_lent {f : FuncId} {args : List SV} {v : SV} {K : SV → Mem → Nat → (SV → SV) → Prop} (hp : gviewL M args fun l => Pure P f l (· = v)) (hv : v.flat = true) (hK : K v M nx id) : CallK P f args M nx K :=
  callK_lent hp (fun s hs => by rw [hs]; exact hv) (fun s hs => by rw [hs]; exact hK)
theorem dcall_val {f : FuncId} {args : List SV} {v : SV} (hp : Pure P f args (· = v)) (hc : SV.closedL args = true) (hv : v.closed = true) : DCall P M f args v := .inr ⟨hc, hp, hv⟩
theorem dcall_lent {f : FuncId} {args : List SV} {v : SV} (hp : gviewL M args fun l => Pure P f l (· = v)) (hv : v.flat = true) : DCall P M f args v := .inl ⟨hp, hv⟩
theorem Pure.mono {f : FuncId} {args : List SV} {φ ψ : SV → Prop} (h : Pure P f args φ) (hφ : ∀ s, φ s → ψ s) : Pure P f args ψ := by
  intro Z w vs hz ha
  obtain ⟨h1, h2⟩ := h Z w vs hz ha
  exact ⟨h1, h2.mono fun e w' ⟨y, s, a, b, c, d⟩ => ⟨y, s, a, hφ s b, c, d⟩⟩
theorem closedL_append (l l' : List SV) : SV.closedL (l ++ l') = (SV.closedL l && SV.closedL l') := by
  induction l with
  | nil => simp [SV.closedL]
  | cons a l ih => simp [SV.closedL, ih, Bool.and_assoc]
end
attribute [go_sem] KC_id
@[go_sem] theorem toRV_r (x : RV) : (SV.r x).toRV = x := rfl
@[go_sem] theorem toRV_fn0 (f : Fn) : (SV.fn f [] []).toRV = .fn f 0 0 (fun _ => .any) (fun _ => .any) := rfl

/-- What is known of one is known of the other. -/
def SV.le (s s' : SV) : Prop := ∀ (Z : Nat → Prop) (w : World) (y : Value), s.rel (fun _ => none) Z w y → s'.rel (fun _ => none) Z w y
def leL : List SV → List SV → Prop
  | [], [] => True
  | s :: l, s' :: l' => s.le s' ∧ leL l l'
  | _, _ => False
theorem SV.le.rfl {s : SV} : s.le s := fun _ _ _ h => h
theorem leL_refl : ∀ l, leL l l
  | [] => trivial
  | s :: l => ⟨SV.le.rfl, leL_refl l⟩
theorem le_rs {k n : Nat} {get get' : Nat → Nat → RV} (h : ∀ i j, i < n → j < k → get i j = get' i j) : (SV.r (.rs k n get)).le (.r (.rs k n get')) := by
  intro Z w y hy
  obtain ⟨A, c, h1, h2, h3⟩ := hy
  refine ⟨A, c, h1, h2, fun h0 => ?_⟩
  obtain ⟨b, o, h4, h5, h6⟩ := h3 h0
  refine ⟨b, o, h4, h5, fun i j hi hj => ?_⟩
  obtain ⟨v, e1, e2, e3⟩ := h6 i j hi hj
  exact ⟨v, e1, e2, by rw [← h i j hi hj]; exact e3⟩
theorem leL_rel {Z : Nat → Prop} {w : World} : ∀ (l l' : List SV) (vs : List Value), leL l l' → SV.relL (fun _ => none) Z w l vs → SV.relL (fun _ => none) Z w l' vs
  | [], [], vs, _, h => h
  | s :: l, s' :: l', vs, hl, h => by
    obtain ⟨v, vs', e, h1, h2⟩ := h
    exact ⟨v, vs', e, hl.1 _ _ _ h1, leL_rel l l' vs' hl.2 h2⟩
  | [], _ :: _, _, hl, _ => hl.elim
  | _ :: _, [], _, hl, _ => hl.elim
theorem Pure.args {P : Program} {f : FuncId} {args args' : List SV} {φ : SV → Prop} (hp : Pure P f args' φ) (h : leL args args') : Pure P f args φ := fun Z w vs hz ha => hp Z w vs hz (leL_rel _ _ _ h ha)
theorem Pure.val {P : Program} {f : FuncId} {args : List SV} {v v' : SV} (hp : Pure P f args (· = v)) (h : v = v') : Pure P f args (· = v') := by rw [← h]; exact hp
theorem lt1 {j : Nat} (h : j < 1) : j = 0 := by omega
@[go_sem] theorem one_int (k : IntKind) (n : Int) : (Value.int k n).oneCell' = true := rfl
@[go_sem] theorem one_bool (b : Bool) : (Value.bool b).oneCell' = true := rfl
@[go_sem] theorem one_slice (a : Option Addr) (n c : Nat) : (Value.slice a n c).oneCell' = true := rfl
@[go_sem] theorem one_nilFunc : Value.nilFunc.oneCell' = true := rfl
@[go_sem] theorem one_nilIface : Value.nilIface.oneCell' = true := rfl
@[go_sem] theorem one_string (s : ByteArray) : (Value.string s).oneCell' = true := rfl
@[go_sem] theorem one_map (r : Option Nat) : (Value.map r).oneCell' = true := rfl
@[go_sem] theorem one_pointer (a : Option Addr) : (Value.pointer a).oneCell' = true := rfl
end Go.Gx
