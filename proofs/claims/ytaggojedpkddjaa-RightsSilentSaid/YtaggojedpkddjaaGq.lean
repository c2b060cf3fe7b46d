/-
  The executor step by step: equations for simp ('go_sem').
-/
import Derived.Test.YtaggojedpkddjaaGp
set_option linter.unusedVariables false
set_option linter.unusedSimpArgs false
namespace Go.Gx
open Go.RowKit

abbrev GQ := Exit → Env → Mem → Nat → Prop
inductive It where
  | code (c : Code)
  | blk (id : Nat)

section
variable (P : Program) (T : Tab) (N : Nat)

def GK : List It → GQ → GQ
  | [], Q => Q
  | .code c :: k, Q => gseq (fun E M nx => gexec P T N c E M nx (GK k Q)) (GK k Q)
  | .blk id :: k, Q => gblock id (GK k Q)
def GC (c : Code) (k : List It) (Q : GQ) (E : Env) (M : Mem) (nx : Nat) : Prop := gexec P T N c E M nx (GK P T N k Q)
def GO (all : Array Oper) (l : List Oper) (k : List It) (Q : GQ) (E : Env) (M : Mem) (nx : Nat) : Prop := gops P T N all l E M nx (GK P T N k Q .normal)
/-- What a call goes on with. -/
def KC (all : Array Oper) (rest : List Oper) (k : List It) (Q : GQ) (d : Option Tmp) (E : Env) : SV → Mem → Nat → (SV → SV) → Prop :=
  fun s M' nx' up => GO P T N all rest k Q (envPut (fun t => up (E t)) d s) M' nx'
def GStep (o : Oper) (g : GR) (d : Option Tmp) (all : Array Oper) (rest : List Oper) (k : List It) (Q : GQ) (E : Env) (M : Mem) (nx : Nat) : Prop :=
  match g with
  | .bad => GOpW P N o E M nx fun E' M' nx' => GO P T N all rest k Q E' M' nx'
  | .pure ob s => ob ∧ GO P T N all rest k Q (envPut E d s) M nx
  | .new ob R s => ob ∧ GO P T N all rest k Q (envPut E d s) (upd M nx (some R)) (nx + 1)
  | .set ob ref R s => ob ∧ GO P T N all rest k Q (envPut E d s) (upd M ref (some R)) nx
  | .app ob ref R s => ob ∧ GO P T N all rest k Q (envPut (fun t => (E t).kill ref) d s) (upd (killM ref M) ref (some R)) nx
  | .call f args => CallK P f args M nx (KC P T N all rest k Q d E)
def GPick (c x y : SV) (d : Option Tmp) (all : Array Oper) (rest : List Oper) (k : List It) (Q : GQ) (E : Env) (M : Mem) (nx : Nat) : Prop :=
  match c with
  | .r (.v (.bool t)) => if t = true then GO P T N all rest k Q (envPut E d x) M nx else GO P T N all rest k Q (envPut E d y) M nx
  | _ => False
def GGuard (s : SV) (dd : Nat) (want : Bool) (o : Oper) (all : Array Oper) (rest : List Oper) (k : List It) (Q : GQ) (E : Env) (M : Mem) (nx : Nat) : Prop :=
  match s with
  | .r (.v (.bool t)) =>
    if t = want then GO P T N all ({ o with guard := none } :: rest) k Q (upd E dd (.b want)) M nx
    else dOK N o.dst ∧ GO P T N all rest k Q (envPut (upd E dd (.b (!want))) o.dst (.r (.v undef))) M nx
  | .r (.v x) => dOK N o.dst ∧ GO P T N all rest k Q (envPut E o.dst (.r (.v undef))) M nx
  | _ => False
def GGuard' (j : Option Nat) (want : Bool) (o : Oper) (all : Array Oper) (rest : List Oper) (k : List It) (Q : GQ) (E : Env) (M : Mem) (nx : Nat) : Prop :=
  match j with
  | none => False
  | some d => GGuard P T N (E d) d want o all rest k Q E M nx
def GCond (s : SV) (x y : Code) (k : List It) (Q : GQ) (E : Env) (M : Mem) (nx : Nat) : Prop :=
  match s with
  | .r (.v (.bool t)) => if t = true then GC P T N x k Q E M nx else GC P T N y k Q E M nx
  | .r (.bx φ) => (φ true → GC P T N x k Q E M nx) ∧ (φ false → GC P T N y k Q E M nx)
  | _ => False
def GLoop (c : Code) (k : List It) (Q : GQ) (E : Env) (M : Mem) (nx : Nat) : Prop := GW P N (.loop c) E M nx (GK P T N k Q)
def GDraw (id : Nat) (ops : Array Oper) (k : List It) (Q : GQ) (E : Env) (M : Mem) (nx : Nat) : Prop := GW P N (.region id ops true) E M nx (GK P T N k Q)
end

section
variable {P : Program} {T : Tab} {N : Nat} {k : List It} {Q : GQ} {E : Env} {M : Mem} {nx : Nat}

@[go_sem] theorem GK_nil (e : Exit) : GK P T N [] Q e E M nx = Q e E M nx := (rfl)
@[go_sem] theorem GK_code (c : Code) : GK P T N (.code c :: k) Q .normal E M nx = GC P T N c k Q E M nx := (rfl)
@[go_sem] theorem GK_code_exit (c : Code) (i : Nat) : GK P T N (.code c :: k) Q (.exit i) E M nx = GK P T N k Q (.exit i) E M nx := (rfl)
@[go_sem] theorem GK_code_ret (c : Code) : GK P T N (.code c :: k) Q .ret E M nx = GK P T N k Q .ret E M nx := (rfl)
@[go_sem] theorem GK_blk (i : Nat) : GK P T N (.blk i :: k) Q .normal E M nx = GK P T N k Q .normal E M nx := (rfl)
@[go_sem] theorem GK_blk_exit (i j : Nat) : GK P T N (.blk i :: k) Q (.exit j) E M nx = if j = i then GK P T N k Q .normal E M nx else GK P T N k Q (.exit j) E M nx := (rfl)
@[go_sem] theorem GK_blk_ret (i : Nat) : GK P T N (.blk i :: k) Q .ret E M nx = GK P T N k Q .ret E M nx := (rfl)

@[go_sem] theorem GC_skip : GC P T N .skip k Q E M nx = GK P T N k Q .normal E M nx := (rfl)
@[go_sem] theorem GC_seq (x y : Code) : GC P T N (.seq x y) k Q E M nx = GC P T N x (.code y :: k) Q E M nx := (rfl)
@[go_sem] theorem GC_block (i : Nat) (c : Code) : GC P T N (.block i c) k Q E M nx = GC P T N c (.blk i :: k) Q E M nx := (rfl)
@[go_sem] theorem GC_exit (i : Nat) : GC P T N (.exit i) k Q E M nx = GK P T N k Q (.exit i) E M nx := (rfl)
@[go_sem] theorem GC_ret : GC P T N .ret k Q E M nx = GK P T N k Q .ret E M nx := (rfl)
@[go_sem] theorem GC_cond (c : Operand) (x y : Code) : GC P T N (.cond c x y) k Q E M nx = GCond P T N (ev E c) x y k Q E M nx := (rfl)
@[go_sem] theorem GC_region (id : Nat) (l : List Oper) : GC P T N (.region id l.toArray false) k Q E M nx = GO P T N l.toArray l k Q E M nx := by
  unfold GC GO; simp only [gexec]
@[go_sem] theorem GC_draw (id : Nat) (ops : Array Oper) : GC P T N (.region id ops true) k Q E M nx = GDraw P T N id ops k Q E M nx := (rfl)
@[go_sem] theorem GC_loop (c : Code) : GC P T N (.loop c) k Q E M nx = GLoop P T N c k Q E M nx := (rfl)
@[go_sem] theorem GCond_b (t : Bool) (x y : Code) : GCond P T N (.r (.v (.bool t))) x y k Q E M nx = if t = true then GC P T N x k Q E M nx else GC P T N y k Q E M nx := (rfl)
@[go_sem] theorem GCond_bx (φ : Bool → Prop) (x y : Code) : GCond P T N (.r (.bx φ)) x y k Q E M nx = ((φ true → GC P T N x k Q E M nx) ∧ (φ false → GC P T N y k Q E M nx)) := (rfl)

@[go_sem] theorem GO_nil (all : Array Oper) : GO P T N all [] k Q E M nx = GK P T N k Q .normal E M nx := (rfl)
def Op.isPick : Op → Bool | .pick .. => true | _ => false
theorem GO_plain (all : Array Oper) (rest : List Oper) (o : Oper) (hg : o.guard = none) (hp : Op.isPick o.op = false) :
    GO P T N all (o :: rest) k Q E M nx = (dOK N o.dst ∧ GStep P T N o (gop T o.op E M nx) o.dst all rest k Q E M nx) := by
  obtain ⟨d, op, ty, pos, af, g⟩ := o
  subst hg
  cases op <;> first | rfl | (simp [Op.isPick] at hp)
@[go_sem] theorem GO_pick (all : Array Oper) (rest : List Oper) (d : Option Tmp) (c x y : Operand) (ty : TypeId) (pos : String) (af : Array Edge) :
    GO P T N all (⟨d, .pick c x y, ty, pos, af, none⟩ :: rest) k Q E M nx = (dOK N d ∧ GPick P T N (ev E c) (ev E x) (ev E y) d all rest k Q E M nx) := by
  rfl
@[go_sem] theorem GO_guard (all : Array Oper) (rest : List Oper) (d : Option Tmp) (op : Op) (ty : TypeId) (pos : String) (af : Array Edge) (j : Nat) (want : Bool) :
    GO P T N all (⟨d, op, ty, pos, af, some (j, want)⟩ :: rest) k Q E M nx = GGuard' P T N ((all[j]?).bind (·.dst)) want ⟨d, op, ty, pos, af, some (j, want)⟩ all rest k Q E M nx := by
  rfl
@[go_sem] theorem GGuard'_some (d : Nat) (want : Bool) (o : Oper) (all : Array Oper) (rest : List Oper) : GGuard' P T N (some d) want o all rest k Q E M nx = GGuard P T N (E d) d want o all rest k Q E M nx := (rfl)
@[go_sem] theorem GGuard_b (t : Bool) (d : Nat) (want : Bool) (d' : Option Tmp) (op : Op) (ty : TypeId) (pos : String) (af : Array Edge) (g : Option (Nat × Bool)) (all : Array Oper) (rest : List Oper) :
    GGuard P T N (.r (.v (.bool t))) d want ⟨d', op, ty, pos, af, g⟩ all rest k Q E M nx =
      if t = want then GO P T N all (⟨d', op, ty, pos, af, none⟩ :: rest) k Q (upd E d (.b want)) M nx else dOK N d' ∧ GO P T N all rest k Q (envPut (upd E d (.b (!want))) d' (.r (.v undef))) M nx := (rfl)
@[go_sem] theorem GGuard_u (d : Nat) (want : Bool) (d' : Option Tmp) (op : Op) (ty : TypeId) (pos : String) (af : Array Edge) (g : Option (Nat × Bool)) (all : Array Oper) (rest : List Oper) :
    GGuard P T N (.r (.v undef)) d want ⟨d', op, ty, pos, af, g⟩ all rest k Q E M nx = (dOK N d' ∧ GO P T N all rest k Q (envPut E d' (.r (.v undef))) M nx) := (rfl)
@[go_sem] theorem GPick_b (t : Bool) (x y : SV) (d : Option Tmp) (all : Array Oper) (rest : List Oper) :
    GPick P T N (.r (.v (.bool t))) x y d all rest k Q E M nx = if t = true then GO P T N all rest k Q (envPut E d x) M nx else GO P T N all rest k Q (envPut E d y) M nx := (rfl)

@[go_sem] theorem GStep_bad (o : Oper) (d : Option Tmp) (all : Array Oper) (rest : List Oper) : GStep P T N o .bad d all rest k Q E M nx = GOpW P N o E M nx fun E' M' nx' => GO P T N all rest k Q E' M' nx' := (rfl)
theorem GStep_ite (c : Prop) [Decidable c] (g g' : GR) (o : Oper) (d : Option Tmp) (all : Array Oper) (rest : List Oper) : GStep P T N o (if c then g else g') d all rest k Q E M nx = if c then GStep P T N o g d all rest k Q E M nx else GStep P T N o g' d all rest k Q E M nx := by split <;> rfl
attribute [go_sem] GStep_ite
@[go_sem] theorem GStep_pure (o : Oper) (ob : Prop) (s : SV) (d : Option Tmp) (all : Array Oper) (rest : List Oper) : GStep P T N o (.pure ob s) d all rest k Q E M nx = (ob ∧ GO P T N all rest k Q (envPut E d s) M nx) := (rfl)
@[go_sem] theorem GStep_new (o : Oper) (ob : Prop) (R : Reg) (s : SV) (d : Option Tmp) (all : Array Oper) (rest : List Oper) : GStep P T N o (.new ob R s) d all rest k Q E M nx = (ob ∧ GO P T N all rest k Q (envPut E d s) (upd M nx (some R)) (nx + 1)) := (rfl)
@[go_sem] theorem GStep_set (o : Oper) (ob : Prop) (ref : Nat) (R : Reg) (s : SV) (d : Option Tmp) (all : Array Oper) (rest : List Oper) : GStep P T N o (.set ob ref R s) d all rest k Q E M nx = (ob ∧ GO P T N all rest k Q (envPut E d s) (upd M ref (some R)) nx) := (rfl)
@[go_sem] theorem GStep_app (o : Oper) (ob : Prop) (ref : Nat) (R : Reg) (s : SV) (d : Option Tmp) (all : Array Oper) (rest : List Oper) : GStep P T N o (.app ob ref R s) d all rest k Q E M nx = (ob ∧ GO P T N all rest k Q (envPut (fun t => (E t).kill ref) d s) (upd (killM ref M) ref (some R)) nx) := (rfl)
@[go_sem] theorem GStep_call (o : Oper) (f : FuncId) (args : List SV) (d : Option Tmp) (all : Array Oper) (rest : List Oper) : GStep P T N o (.call f args) d all rest k Q E M nx = CallK P f args M nx (KC P T N all rest k Q d E) := (rfl)
theorem KC_id (all : Array Oper) (rest : List Oper) (d : Option Tmp) (s : SV) (M' : Mem) (nx' : Nat) : KC P T N all rest k Q d E s M' nx' id = GO P T N all rest k Q (envPut E d s) M' nx' := rfl
end

@[go_sem] theorem envPut_some (E : Env) (d : Nat) (s : SV) : envPut E (some d) s = upd E d s := rfl
@[go_sem] theorem envPut_none (E : Env) (s : SV) : envPut E none s = E := rfl
@[go_sem] theorem dOK_some (N d : Nat) : dOK N (some d) = (d < N) := rfl
@[go_sem] theorem dOK_none (N : Nat) : dOK N none = True := rfl
@[go_sem] theorem upd_app {α : Type} (f : Nat → α) (k : Nat) (v : α) (x : Nat) : upd f k v x = if x = k then v else f x := rfl
@[go_sem] theorem ev_tmp (E : Env) (t : Nat) : ev E (.tmp t) = E t := rfl
@[go_sem] theorem ev_const (E : Env) (v : Value) : ev E (.const v) = .r (.v v) := rfl
@[go_sem] theorem ev_func (E : Env) (f : Nat) : ev E (.func f) = .fn (.func f) [] [] := rfl
@[go_sem] theorem env0_app (l : List SV) (t : Nat) : env0 l t = (l[t]?).getD (.r .any) := rfl
@[go_sem] theorem memL_app (l : List (Option Reg)) (r : Nat) : memL l r = (l[r]?).getD none := rfl
@[go_sem] theorem mem0_app (r : Nat) : mem0 r = none := rfl

/-- An operation without a guard, by its form. -/

def gboxop (T : Tab) (t : TypeId) (nx : Nat) (s : SV) : GR := match T.ti t with
  | some i => .new (allOne s.cells = true ∧ s.cells.length = i.size) (.box s.cells) (.ptr nx 0 i.size 0)
  | none => .bad
def gallocop (T : Tab) (t : TypeId) (nx : Nat) : GR := match T.ti t with
  | some i => .new True (.box (i.zero.map fun z => .r (.v z.val))) (.ptr nx 0 i.size 0)
  | none => .bad
def gnilop (s : SV) : GR := match s with
  | .ptr a b c d => .pure True (.ptr a b c d)
  | .r (.rp a b c d e) => .pure True (.r (.rp a b c d e))
  | .fn f a b => match f with | .func _ => .pure True (.fn f a b) | _ => .bad
  | _ => .bad
def gbinop (T : Tab) (op : BinOp) (t : TypeId) (x y : SV) : GR := match gbin op x y with
  | .bad => match op with | .eql => geq T t x y false | .neq => geq T t x y true | _ => .bad
  | g => g
def gunop (op : UnOp) (s : SV) : GR := match op, s with
  | .not, .r (.v (.bool t)) => .pure True (.b (!t))
  | .not, .r (.bx φ) => .pure True (.r (.bx fun t => φ (!t)))
  | .neg, .r (.v (.int k n)) => .pure (inr k (0 - n)) (.r (.v (.int k (0 - n))))
  | _, _ => .bad
def gconvop (T : Tab) (s d : TypeId) (x : SV) : GR := match T.ti s, T.ti d, x with
  | some ⟨_, _, _, .int _⟩, some ⟨_, _, _, .int k⟩, .r (.v (.int _ n)) => .pure True (.r (.v (.int k (k.wrap n))))
  | _, _, _ => .bad
def gextop (s : SV) (i : Nat) : GR := match s with
  | .tup l => match l[i]? with | some s => .pure True s | none => .bad
  | _ => .bad
def gcallop (f : SV) (args : List SV) : GR := match f with
  | .fn (.func g) fi ca => .call g (fi ++ args ++ ca)
  | .r (.fn (.func g) nf nc fi ca) => .call g (cellsFrom (fun i => .r (fi i)) 0 nf ++ args ++ cellsFrom (fun i => .r (ca i)) 0 nc)
  | _ => .bad
@[go_sem] theorem gcallop_fn (g : FuncId) (fi ca args : List SV) : gcallop (.fn (.func g) fi ca) args = .call g (fi ++ args ++ ca) := rfl
@[go_sem] theorem gcallop_rfn (g : FuncId) (nf nc : Nat) (fi ca : Nat → RV) (args : List SV) : gcallop (.r (.fn (.func g) nf nc fi ca)) args = .call g (cellsFrom (fun i => .r (fi i)) 0 nf ++ args ++ cellsFrom (fun i => .r (ca i)) 0 nc) := rfl
section
variable {P : Program} {T : Tab} {N : Nat} {k : List It} {Q : GQ} {E : Env} {M : Mem} {nx : Nat} (all : Array Oper) (rest : List Oper) (d : Option Tmp) (ty : TypeId) (pos : String) (af : Array Edge)
@[go_sem] theorem GO_move (x : Operand) : GO P T N all (⟨d, .move x, ty, pos, af, none⟩ :: rest) k Q E M nx = (dOK N d ∧ GStep P T N ⟨d, .move x, ty, pos, af, none⟩ (.pure True (ev E x)) d all rest k Q E M nx) := (rfl)
@[go_sem] theorem GO_assign (x : Operand) : GO P T N all (⟨d, .assign x, ty, pos, af, none⟩ :: rest) k Q E M nx = (dOK N d ∧ GStep P T N ⟨d, .assign x, ty, pos, af, none⟩ (.pure True (ev E x)) d all rest k Q E M nx) := (rfl)
@[go_sem] theorem GO_build (t : TypeId) (ps : List (Nat × Operand)) : GO P T N all (⟨d, .build t ps.toArray, ty, pos, af, none⟩ :: rest) k Q E M nx = (dOK N d ∧ GStep P T N ⟨d, .build t ps.toArray, ty, pos, af, none⟩ (gbuild T t (ps.map fun p => (p.1, ev E p.2))) d all rest k Q E M nx) := (rfl)
@[go_sem] theorem GO_buildSlice (t : TypeId) (len : Nat) (ps : List (Nat × Operand)) : GO P T N all (⟨d, .buildSlice t len ps.toArray, ty, pos, af, none⟩ :: rest) k Q E M nx = (dOK N d ∧ GStep P T N ⟨d, .buildSlice t len ps.toArray, ty, pos, af, none⟩ (gbuildSlice T t len nx (ps.map fun p => (p.1, ev E p.2))) d all rest k Q E M nx) := (rfl)
@[go_sem] theorem GO_load (t : TypeId) (x : Operand) : GO P T N all (⟨d, .load t x, ty, pos, af, none⟩ :: rest) k Q E M nx = (dOK N d ∧ GStep P T N ⟨d, .load t x, ty, pos, af, none⟩ (gload T t M (ev E x)) d all rest k Q E M nx) := (rfl)
@[go_sem] theorem GO_store (t : TypeId) (x y : Operand) : GO P T N all (⟨d, .store t x y, ty, pos, af, none⟩ :: rest) k Q E M nx = (dOK N d ∧ GStep P T N ⟨d, .store t x y, ty, pos, af, none⟩ (gstore T t M (ev E x) (ev E y)) d all rest k Q E M nx) := (rfl)
@[go_sem] theorem GO_makeFunc (f : Fn) (fi ca : List Operand) : GO P T N all (⟨d, .makeFunc f fi.toArray ca.toArray, ty, pos, af, none⟩ :: rest) k Q E M nx = (dOK N d ∧ GStep P T N ⟨d, .makeFunc f fi.toArray ca.toArray, ty, pos, af, none⟩ (.pure True (.fn f (fi.map (ev E)) (ca.map (ev E)))) d all rest k Q E M nx) := (rfl)
@[go_sem] theorem GO_slice (t : TypeId) (x : Operand) (lo hi mx : Option Operand) : GO P T N all (⟨d, .slice t x lo hi mx, ty, pos, af, none⟩ :: rest) k Q E M nx = (dOK N d ∧ GStep P T N ⟨d, .slice t x lo hi mx, ty, pos, af, none⟩ (gslice T M t (ev E x) (lo.map (ev E)) (hi.map (ev E)) (mx.map (ev E))) d all rest k Q E M nx) := (rfl)
@[go_sem] theorem GO_fieldAddr (t : TypeId) (x : Operand) (f : Nat) : GO P T N all (⟨d, .fieldAddr t x f, ty, pos, af, none⟩ :: rest) k Q E M nx = (dOK N d ∧ GStep P T N ⟨d, .fieldAddr t x f, ty, pos, af, none⟩ (gfield T t (ev E x) f) d all rest k Q E M nx) := (rfl)
@[go_sem] theorem GO_indexAddr (t : TypeId) (x i : Operand) : GO P T N all (⟨d, .indexAddr t x i, ty, pos, af, none⟩ :: rest) k Q E M nx = (dOK N d ∧ GStep P T N ⟨d, .indexAddr t x i, ty, pos, af, none⟩ (gindex T t (ev E x) (ev E i)) d all rest k Q E M nx) := (rfl)
@[go_sem] theorem GO_builtin (b : Builtin) (args : List Operand) (ts : List TypeId) : GO P T N all (⟨d, .call ⟨.builtin b, args.toArray, ts.toArray⟩, ty, pos, af, none⟩ :: rest) k Q E M nx = (dOK N d ∧ GStep P T N ⟨d, .call ⟨.builtin b, args.toArray, ts.toArray⟩, ty, pos, af, none⟩ (gbuiltin T b ts M nx (args.map (ev E))) d all rest k Q E M nx) := (rfl)
@[go_sem] theorem GO_box (t : TypeId) (x : Operand) : GO P T N all (⟨d, .box t x, ty, pos, af, none⟩ :: rest) k Q E M nx = (dOK N d ∧ GStep P T N ⟨d, .box t x, ty, pos, af, none⟩ (gboxop T t nx (ev E x)) d all rest k Q E M nx) := (rfl)
@[go_sem] theorem GO_alloc (t : TypeId) : GO P T N all (⟨d, .alloc t, ty, pos, af, none⟩ :: rest) k Q E M nx = (dOK N d ∧ GStep P T N ⟨d, .alloc t, ty, pos, af, none⟩ (gallocop T t nx) d all rest k Q E M nx) := (rfl)
@[go_sem] theorem GO_nilCheck (x : Operand) : GO P T N all (⟨d, .nilCheck x, ty, pos, af, none⟩ :: rest) k Q E M nx = (dOK N d ∧ GStep P T N ⟨d, .nilCheck x, ty, pos, af, none⟩ (gnilop (ev E x)) d all rest k Q E M nx) := (rfl)
@[go_sem] theorem GO_binOp (op : BinOp) (t : TypeId) (x y : Operand) (t2 : TypeId) : GO P T N all (⟨d, .binOp op t x y t2, ty, pos, af, none⟩ :: rest) k Q E M nx = (dOK N d ∧ GStep P T N ⟨d, .binOp op t x y t2, ty, pos, af, none⟩ (gbinop T op t (ev E x) (ev E y)) d all rest k Q E M nx) := (rfl)
@[go_sem] theorem GO_unOp (op : UnOp) (t : TypeId) (x : Operand) : GO P T N all (⟨d, .unOp op t x, ty, pos, af, none⟩ :: rest) k Q E M nx = (dOK N d ∧ GStep P T N ⟨d, .unOp op t x, ty, pos, af, none⟩ (gunop op (ev E x)) d all rest k Q E M nx) := (rfl)
@[go_sem] theorem GO_convert (t t2 : TypeId) (x : Operand) : GO P T N all (⟨d, .convert t t2 x, ty, pos, af, none⟩ :: rest) k Q E M nx = (dOK N d ∧ GStep P T N ⟨d, .convert t t2 x, ty, pos, af, none⟩ (gconvop T t t2 (ev E x)) d all rest k Q E M nx) := (rfl)
@[go_sem] theorem GO_extract (x : Operand) (i : Nat) : GO P T N all (⟨d, .extract x i, ty, pos, af, none⟩ :: rest) k Q E M nx = (dOK N d ∧ GStep P T N ⟨d, .extract x i, ty, pos, af, none⟩ (gextop (ev E x) i) d all rest k Q E M nx) := (rfl)
@[go_sem] theorem GO_callv (f : Operand) (args : List Operand) (ts : Array TypeId) : GO P T N all (⟨d, .call ⟨.value f, args.toArray, ts⟩, ty, pos, af, none⟩ :: rest) k Q E M nx = (dOK N d ∧ GStep P T N ⟨d, .call ⟨.value f, args.toArray, ts⟩, ty, pos, af, none⟩ (gcallop (ev E f) (args.map (ev E))) d all rest k Q E M nx) := (rfl)
end

theorem pure_of_GC {P : Program} {T : Tab} (hT : TabOK P T) {f : FuncId} {fn : Func} (hf : P.funcs[f]? = some fn) {c : Code} (hb : fn.body = some c) (hn : (fn.name == "runtime.NumGoroutine") = false) {args : List SV} (hlen : args.length ≤ fn.ntmps) {φ : SV → Prop}
    {N : Nat} {rs : List ResultVar} (hN : fn.ntmps = N) (hrs : fn.results.toList = rs) (h : GC P T N c [] (gret T rs fun s M => gview M s φ) (env0 args) mem0 0) : Pure P f args φ := by
  subst hN; subst hrs
  exact pure_of_gexec hT hf hb hn hlen h

attribute [go_sem] gapp gappendZ rowsN
attribute [go_sem] gboxop gallocop gnilop gbinop gunop gconvop gextop gload gstore gbin geq gslice loInt gfield gindex gbuild gbuildSlice place rep put rowsOf gappend gcopy gclear glen gminmax gbuiltin SV.cells allOne SV.one cellsFrom scal TI.agg ZK.val
  gret gvals gfin gview gviewL gbox SV.kill SV.killL Reg.kill killM SV.trim SV.trimL Reg.trim trimE trimM slots regs updL inr gseq SV.closed SV.closedL SV.flat SV.flatL RV.flat eqV eqVL
end Go.Gx
