/-
  What each operation gives, in ghost values.
-/
import Derived.Test.YtaggojedpkddjaaGb
set_option linter.unusedVariables false
set_option linter.unusedSimpArgs false
namespace Go.Gx
open Go.RowKit

/-- What an operation gives: a value; a new region (at the next ref); a region with another content; a region that may have moved; bad. -/
inductive GR where
  | bad
  | pure (ob : Prop) (s : SV)
  | new (ob : Prop) (R : Reg) (s : SV)
  | set (ob : Prop) (ref : Nat) (R : Reg) (s : SV)
  | app (ob : Prop) (ref : Nat) (R : Reg) (s : SV)
  | call (f : FuncId) (args : List SV)

def SV.toRV : SV → RV
  | .r x => x
  | .fn f [] [] => .fn f 0 0 (fun _ => .any) (fun _ => .any)
  | .fn f [] [.r a] => .fn f 0 1 (fun _ => .any) (fun _ => a)
  | .fn f [] [.r a, .r b] => .fn f 0 2 (fun _ => .any) (fun i => match i with | 0 => a | _ => b)
  | .fn f [] [.r a, .r b, .r c] => .fn f 0 3 (fun _ => .any) (fun i => match i with | 0 => a | 1 => b | _ => c)
  | .fn f [.r a] [] => .fn f 1 0 (fun _ => a) (fun _ => .any)
  | _ => .any

def gload (T : Tab) (t : TypeId) (M : Mem) (s : SV) : GR :=
  match T.ti t with
  | none => .bad
  | some i =>
    match s with
    | .ptr ref row k fld =>
      match M ref with
      | some (.box l) =>
        if i.agg then .pure (row * k + fld + i.size ≤ l.length) (.agg (cellsFrom (fun j => l.getD j (.r .any)) (row * k + fld) i.size))
        else .pure (row * k + fld < l.length) (l.getD (row * k + fld) (.r .any))
      | some (.vec e k' n get) =>
        if i.agg then .pure (k' = k ∧ row < n ∧ fld + i.size ≤ k) (.agg (cellsFrom (fun j => .r (get row j)) fld i.size))
        else .pure (k' = k ∧ row < n ∧ fld < k) (.r (get row fld))
      | none => .bad
    | .r (.rp k n get row fld) =>
      if i.agg then .pure (row < n ∧ fld + i.size ≤ k) (.agg (cellsFrom (fun j => .r (get row j)) fld i.size))
      else .pure (row < n ∧ fld < k) (.r (get row fld))
    | _ => .bad

def put (l : List SV) (o : Nat) (cs : List SV) : List SV := l.take o ++ cs ++ l.drop (o + cs.length)

def gstore (T : Tab) (t : TypeId) (M : Mem) (s x : SV) : GR :=
  match T.ti t with
  | none => .bad
  | some i =>
    match s with
    | .ptr ref row k fld =>
      match M ref with
      | some (.box l) => .set (allOne x.cells = true ∧ x.cells.length = i.size ∧ row * k + fld + i.size ≤ l.length) ref (.box (put l (row * k + fld) x.cells)) (.r .any)
      | some (.vec e k' n get) => .set (allOne x.cells = true ∧ x.cells.length = i.size ∧ k' = k ∧ row < n ∧ fld + i.size ≤ k) ref
          (.vec e k' n fun i' j' => if i' = row ∧ fld ≤ j' ∧ j' < fld + i.size then (x.cells.getD (j' - fld) (.r .any)).toRV else get i' j') (.r .any)
      | none => .bad
    | _ => .bad

def gbin (op : BinOp) (x y : SV) : GR :=
  match op, x, y with
  | .shl, .r (.v (.int k a)), .r (.v (.int _ b)) => .pure (0 ≤ b) (.r (.v (.int k (k.wrap (a * 2 ^ (min b.toNat k.bits))))))
  | .shr, .r (.v (.int k a)), .r (.v (.int _ b)) => .pure (0 ≤ b) (.r (.v (.int k (a.fdiv (2 ^ (min b.toNat k.bits))))))
  | .add, .r (.v (.int k a)), .r (.v (.int k' b)) => .pure (k = k' ∧ inr k (a + b)) (.r (.v (.int k (a + b))))
  | .sub, .r (.v (.int k a)), .r (.v (.int k' b)) => .pure (k = k' ∧ inr k (a - b)) (.r (.v (.int k (a - b))))
  | .mul, .r (.v (.int k a)), .r (.v (.int k' b)) => .pure (k = k' ∧ inr k (a * b)) (.r (.v (.int k (a * b))))
  | .quo, .r (.v (.int k a)), .r (.v (.int k' b)) => .pure (k = k' ∧ b ≠ 0 ∧ inr k (a.tdiv b)) (.r (.v (.int k (a.tdiv b))))
  | .rem, .r (.v (.int k a)), .r (.v (.int k' b)) => .pure (k = k' ∧ b ≠ 0) (.r (.v (.int k (a.tmod b))))
  | .eql, .r (.v (.int k a)), .r (.v (.int k' b)) => .pure (k = k') (.b (decide (a = b)))
  | .neq, .r (.v (.int k a)), .r (.v (.int k' b)) => .pure (k = k') (.b (!decide (a = b)))
  | .lss, .r (.v (.int k a)), .r (.v (.int k' b)) => .pure (k = k') (.b (decide (a < b)))
  | .leq, .r (.v (.int k a)), .r (.v (.int k' b)) => .pure (k = k') (.b (decide (a ≤ b)))
  | .gtr, .r (.v (.int k a)), .r (.v (.int k' b)) => .pure (k = k') (.b (decide (b < a)))
  | .geq, .r (.v (.int k a)), .r (.v (.int k' b)) => .pure (k = k') (.b (decide (b ≤ a)))
  | _, _, _ => .bad

/-- The scalars of a struct. -/
def scal : List CK → List SV → Option (List Value)
  | [], [] => some []
  | .int k :: cs, .r (.v (.int k' n)) :: l => if k = k' then (scal cs l).map (.int k n :: ·) else none
  | .bool :: cs, .r (.v (.bool b)) :: l => (scal cs l).map (.bool b :: ·)
  | _, _ => none

def geq (T : Tab) (t : TypeId) (x y : SV) (neg : Bool) : GR :=
  match x, y with
  | .r (.v (.bool a)), .r (.v (.bool b)) => .pure ((T.ti t).map (·.kind) = some .bool) (.b (if neg then !decide (a = b) else decide (a = b)))
  | .agg xs, .agg ys =>
    match T.eq t with
    | some cs => match scal cs xs, scal cs ys with
      | some us, some vs => .pure True (.b (if neg then !eqVL us vs else eqVL us vs))
      | _, _ => .bad
    | none => .bad
  | .r (.rs k n get), .r (.v (.slice none 0 0)) => .pure (((T.ti t).map (·.kind)).any (fun | .slice _ => true | _ => false) = true) (.r (.bx fun b => ((if neg then !b else b) = true → n = 0)))
  | .sl ref k lo n c, .r (.v (.slice none 0 0)) => .pure (((T.ti t).map (·.kind)).any (fun | .slice _ => true | _ => false) = true) (.r (.bx fun b => ((if neg then !b else b) = true → n = 0)))
  | .r (.v (.slice none 0 0)), .r (.v (.slice none 0 0)) => .pure (((T.ti t).map (·.kind)).any (fun | .slice _ => true | _ => false) = true) (.b (!neg))
  | _, _ => .bad

def loInt : Option SV → Option Int
  | none => some 0
  | some (.r (.v (.int _ i))) => some i
  | _ => none

/-- The rows that are known of a region. -/
def rowsN (M : Mem) (ref : Nat) : Nat := match M ref with | some (.vec _ _ N _) => N | _ => 0
def gslice (T : Tab) (M : Mem) (t : TypeId) (x : SV) (lo hi mx : Option SV) : GR :=
  match T.ti t with
  | some ⟨_, _, _, .slice e⟩ =>
    match T.ti e with
    | none => .bad
    | some ei =>
    match loInt lo with
    | none => .bad
    | some l =>
    match x with
    | .r (.rs k n get) =>
      match hi, mx with
      | none, none => .pure (ei.size = k ∧ 0 ≤ l ∧ l ≤ n) (.r (.rs k (n - l.toNat) fun i j => get (l.toNat + i) j))
      | some (.r (.v (.int _ h))), none => .pure (ei.size = k ∧ 0 ≤ l ∧ l ≤ h ∧ h ≤ n) (.r (.rs k (h.toNat - l.toNat) fun i j => get (l.toNat + i) j))
      | some (.r (.v (.int _ h))), some (.r (.v (.int _ m))) => .pure (ei.size = k ∧ 0 ≤ l ∧ l ≤ h ∧ h = m ∧ m ≤ n) (.r (.rf k (h.toNat - l.toNat) fun i j => get (l.toNat + i) j))
      | _, _ => .bad
    | .sl ref k l0 n none =>
      match hi, mx with
      | none, none => .pure (ei.size = k ∧ 0 ≤ l ∧ l ≤ n) (.sl ref k (l0 + l.toNat) (n - l.toNat) none)
      | some (.r (.v (.int _ h))), none => .pure (ei.size = k ∧ 0 ≤ l ∧ l ≤ h ∧ (h ≤ n ∨ l0 + h ≤ rowsN M ref)) (.sl ref k (l0 + l.toNat) (h.toNat - l.toNat) none)
      | some (.r (.v (.int _ h))), some (.r (.v (.int _ m))) => .pure (ei.size = k ∧ 0 ≤ l ∧ l ≤ h ∧ h ≤ m ∧ (m ≤ n ∨ l0 + m ≤ rowsN M ref)) (.sl ref k (l0 + l.toNat) (h.toNat - l.toNat) (some (m.toNat - l.toNat)))
      | _, _ => .bad
    | .sl ref k l0 n (some c) =>
      match hi, mx with
      | none, none => .pure (ei.size = k ∧ 0 ≤ l ∧ l ≤ n) (.sl ref k (l0 + l.toNat) (n - l.toNat) (some (c - l.toNat)))
      | some (.r (.v (.int _ h))), none =>
        if h ≤ n then .pure (ei.size = k ∧ 0 ≤ l ∧ l ≤ h ∧ h ≤ n) (.sl ref k (l0 + l.toNat) (h.toNat - l.toNat) (some (c - l.toNat)))
        else match M ref with
        | some (.vec e' k' N g) => .set (ei.size = k ∧ k' = k ∧ 0 ≤ l ∧ l ≤ h ∧ h ≤ c ∧ N ≤ l0 + h) ref (.vec e' k' (l0 + h.toNat) fun i j => if i < N then g i j else .any) (.sl ref k (l0 + l.toNat) (h.toNat - l.toNat) (some (c - l.toNat)))
        | _ => .bad
      | _, _ => .bad
    | .r (.v (.slice none 0 0)) =>
      match hi, mx with
      | none, none => .pure (l = 0) (.r (.v (.slice none 0 0)))
      | some (.r (.v (.int _ h))), none => .pure (l = 0 ∧ h = 0) (.r (.v (.slice none 0 0)))
      | some (.r (.v (.int _ h))), some (.r (.v (.int _ m))) => .pure (l = 0 ∧ h = 0 ∧ m = 0) (.r (.v (.slice none 0 0)))
      | _, _ => .bad
    | _ => .bad
  | _ => .bad

def gfield (T : Tab) (t : TypeId) (x : SV) (f : Nat) : GR :=
  match T.ti t with
  | some ⟨_, _, _, .struct fs⟩ =>
    match fs[f]? with
    | some (o, s, _) =>
      match x with
      | .ptr ref row k fld => .pure (s ≠ 0) (.ptr ref row k (fld + o))
      | .r (.rp k n get row fld) => .pure (s ≠ 0) (.r (.rp k n get row (fld + o)))
      | _ => .bad
    | none => .bad
  | _ => .bad

def gindex (T : Tab) (t : TypeId) (x i : SV) : GR :=
  match i with
  | .r (.v (.int _ ix)) =>
    match T.ti t with
    | some ⟨_, _, _, .slice e⟩ =>
      match T.ti e with
      | none => .bad
      | some ei =>
      match x with
      | .r (.rs k n get) => .pure (ei.size = k ∧ 0 ≤ ix ∧ ix < n) (.r (.rp k n get ix.toNat 0))
      | .sl ref k lo n c => .pure (ei.size = k ∧ 0 ≤ ix ∧ ix < n) (.ptr ref (lo + ix.toNat) k 0)
      | _ => .bad
    | some ⟨_, _, _, .array n es _⟩ =>
      match x with
      | .ptr ref row k fld => .pure (es ≠ 0 ∧ 0 ≤ ix ∧ ix < n) (.ptr ref row k (fld + ix.toNat * es))
      | .r (.rp k m get row fld) => .pure (es ≠ 0 ∧ 0 ≤ ix ∧ ix < n) (.r (.rp k m get row (fld + ix.toNat * es)))
      | _ => .bad
    | _ => .bad
  | _ => .bad

/-- Parts laid into a list of cells. -/
def place (pl : Nat → Option (Nat × Nat)) (cs : List SV) : List (Nat × SV) → Option (List SV)
  | [] => some cs
  | (i, x) :: rest =>
    match pl i with
    | none => none
    | some (o, s) => if x.cells.length = s ∧ o + s ≤ cs.length ∧ allOne x.cells = true then place pl (put cs o x.cells) rest else none

def gbuild (T : Tab) (t : TypeId) (parts : List (Nat × SV)) : GR :=
  match T.ti t with
  | some ⟨sz, _, zero, .struct fs⟩ =>
    match place (fun i => (fs[i]?).map fun (o, s, _) => (o, s)) (zero.map fun z => .r (.v z.val)) parts with
    | some cs => .pure True (.agg cs)
    | none => .bad
  | some ⟨sz, _, zero, .array n es _⟩ =>
    match place (fun i => some (i * es, es)) (zero.map fun z => .r (.v z.val)) parts with
    | some cs => .pure True (.agg cs)
    | none => .bad
  | _ => .bad

def rep (l : List SV) : Nat → List SV
  | 0 => []
  | n + 1 => l ++ rep l n

def gbuildSlice (T : Tab) (t : TypeId) (len nx : Nat) (parts : List (Nat × SV)) : GR :=
  match T.ti t with
  | some ⟨_, _, _, .slice e⟩ =>
    match T.ti e with
    | none => .bad
    | some ei =>
      match place (fun i => some (i * ei.size, ei.size)) (rep (ei.zero.map fun z => .r (.v z.val)) len) parts with
      | some cs => .new (0 < ei.size ∧ len * ei.size ≤ 16777216) (.vec e ei.size len fun i j => (cs.getD (i * ei.size + j) (.r .any)).toRV) (.sl nx ei.size 0 len none)
      | none => .bad
  | _ => .bad

/-- What a slice reads as: its length and its rows; what must hold for that. -/
def rowsOf (M : Mem) (k : Nat) (x : SV) : Option (Prop × Nat × (Nat → Nat → RV)) :=
  match x with
  | .r (.v (.slice none 0 0)) => some (True, 0, fun _ _ => .any)
  | .r (.rs k' m get) => some (k' = k, m, get)
  | .r (.rf k' m get) => some (k' = k, m, get)
  | .sl ref k' lo m c =>
    match M ref with
    | some (.vec _ k'' n get) => some (k' = k ∧ k'' = k ∧ lo + m ≤ n, m, fun i j => get (lo + i) j)
    | _ => none
  | _ => none

def joined (n m : Nat) (g : Nat → Nat → RV) (h : Nat → Nat → RV) : Nat → Nat → RV := fun i j => if i < n then g i j else if i < n + m then h (i - n) j else g i j

/-- append: m rows behind a slice. -/
def gapp (e : TypeId) (ei : TI) (M : Mem) (nx : Nat) (s : SV) (ob : Prop) (m : Nat) (get : Nat → Nat → RV) : GR :=
  match s with
  | .r (.v (.slice none 0 0)) => .new (ob ∧ 0 < ei.size ∧ m * ei.bytes ≤ 140737488355328 ∧ m ≤ 9223372036854775807) (.vec e ei.size m get) (.sl nx ei.size 0 m none)
  | .r (.rf k n g) => .new (ob ∧ 0 < ei.size ∧ k = ei.size ∧ (n = 0 ∨ 0 < m) ∧ (n + m) * ei.bytes ≤ 140737488355328 ∧ n + m ≤ 9223372036854775807) (.vec e ei.size (n + m) (joined n m g get)) (.sl nx ei.size 0 (n + m) none)
  | .sl ref k 0 n none =>
    match M ref with
    | some (.vec e' k' N g) => .app (ob ∧ 0 < ei.size ∧ e' = e ∧ k = ei.size ∧ k' = ei.size ∧ (n = N ∨ n + m ≤ N) ∧ (n + m) * ei.bytes ≤ 140737488355328 ∧ n + m ≤ 9223372036854775807) ref (.vec e ei.size (N + (n + m - N)) (joined n m g get)) (.sl ref ei.size 0 (n + m) none)
    | _ => .bad
  | .sl ref k lo n (some c) =>
    match M ref with
    | some (.vec e' k' N g) => .new (ob ∧ 0 < ei.size ∧ k = ei.size ∧ k' = ei.size ∧ lo + n ≤ N ∧ (c < n + m ∨ (n = 0 ∧ c = 0)) ∧ (n + m) * ei.bytes ≤ 140737488355328 ∧ n + m ≤ 9223372036854775807) (.vec e ei.size (n + m) (joined n m (fun i j => g (lo + i) j) get)) (.sl nx ei.size 0 (n + m) none)
    | _ => .bad
  | _ => .bad
def gappend (T : Tab) (t : TypeId) (M : Mem) (nx : Nat) (s x : SV) : GR :=
  match T.ti t with
  | some ⟨_, _, _, .slice e⟩ =>
    match T.ti e with
    | none => .bad
    | some ei =>
      match rowsOf M ei.size x with
      | none => .bad
      | some (ob, m, get) => gapp e ei M nx s ob m get
  | _ => .bad
/-- append(s, make(S, m)...). -/
def gappendZ (T : Tab) (t t' : TypeId) (M : Mem) (nx : Nat) (s x : SV) : GR :=
  match T.ti t, (T.ti t').map TI.kind, x with
  | some ⟨_, _, _, .slice e⟩, some (.int _), .r (.v (.int .i64 m)) =>
    match T.ti e with
    | none => .bad
    | some ei => match s with
      | .sl ref k lo n (some c) => gapp e ei M nx (.sl ref k lo n (some c)) (0 < m ∧ m * ei.bytes ≤ 140737488355328 ∧ m ≤ 9223372036854775807) m.toNat fun _ j => (match ei.zero[j]? with | some z => .v z.val | none => .any)
      | _ => .bad
  | _, _, _ => .bad

def gcopy (T : Tab) (t : TypeId) (M : Mem) (s x : SV) : GR :=
  match T.ti t with
  | some ⟨_, _, _, .slice e⟩ =>
    match T.ti e with
    | none => .bad
    | some ei =>
      match rowsOf M ei.size x, s with
      | some (ob, m, get), .sl ref k lo n c =>
        match M ref with
        | some (.vec e' k' N g) => .set (ob ∧ k = ei.size ∧ k' = ei.size ∧ lo + n ≤ N) ref (.vec e' k' N fun i j => if lo ≤ i ∧ i < lo + min m n then get (i - lo) j else g i j) (.i (min m n : Nat))
        | _ => .bad
      | _, _ => .bad
  | _ => .bad

def gclear (T : Tab) (t : TypeId) (M : Mem) (s : SV) : GR :=
  match T.ti t with
  | some ⟨_, _, _, .slice e⟩ =>
    match T.ti e with
    | none => .bad
    | some ei =>
      match s with
      | .sl ref k lo n c =>
        match M ref with
        | some (.vec e' k' N g) => .set (k = ei.size ∧ k' = ei.size ∧ lo + n ≤ N) ref (.vec e' k' N fun i j => if lo ≤ i ∧ i < lo + n then (match ei.zero[j]? with | some z => .v z.val | none => .any) else g i j) (.tup [])
        | _ => .bad
      | .r (.v (.slice none 0 0)) => .pure True (.tup [])
      | _ => .bad
  | _ => .bad

def glen (T : Tab) (t : TypeId) (x : SV) : GR :=
  match T.ti t with
  | some ⟨_, _, _, .slice e⟩ =>
    match x with
    | .r (.rs k n get) => .pure True (.i n)
    | .r (.rf k n get) => .pure True (.i n)
    | .sl ref k lo n c => .pure True (.i n)
    | .r (.v (.slice none 0 0)) => .pure True (.i 0)
    | _ => .bad
  | some ⟨_, _, _, .array n _ _⟩ => .pure True (.i n)
  | _ => .bad

def gminmax (mx : Bool) : List SV → GR
  | [.r (.v (.int .i64 a)), .r (.v (.int .i64 b))] => .pure True (.i (if mx then max a b else min a b))
  | [.r (.v (.int .i64 a)), .r (.v (.int .i64 b)), .r (.v (.int .i64 c))] => .pure True (.i (if mx then max (max a b) c else min (min a b) c))
  | _ => .bad

def gbuiltin (T : Tab) (b : Builtin) (ts : List TypeId) (M : Mem) (nx : Nat) (args : List SV) : GR :=
  match b, ts, args with
  | .len, [t], [x] => glen T t x
  | .append, [t, t'], [s, x] => if t = t' then gappend T t M nx s x else gappendZ T t t' M nx s x
  | .copy, [t, _], [s, x] => gcopy T t M s x
  | .clear, [t], [s] => gclear T t M s
  | .max, _, l => gminmax true l
  | .min, _, l => gminmax false l
  | _, _, _ => .bad

def gop (T : Tab) (op : Op) (E : Env) (M : Mem) (nx : Nat) : GR :=
  match op with
  | .move x | .assign x => .pure True (ev E x)
  | .box t x => match T.ti t with
    | some i => .new (allOne (ev E x).cells = true ∧ (ev E x).cells.length = i.size) (.box (ev E x).cells) (.ptr nx 0 i.size 0)
    | none => .bad
  | .alloc t => match T.ti t with
    | some i => .new True (.box (i.zero.map fun z => .r (.v z.val))) (.ptr nx 0 i.size 0)
    | none => .bad
  | .build t ps => gbuild T t (ps.toList.map fun p => (p.1, ev E p.2))
  | .buildSlice t len ps => gbuildSlice T t len nx (ps.toList.map fun p => (p.1, ev E p.2))
  | .load t x => gload T t M (ev E x)
  | .store t x y => gstore T t M (ev E x) (ev E y)
  | .nilCheck x => match ev E x with
    | .ptr a b c d => .pure True (.ptr a b c d)
    | .r (.rp a b c d e) => .pure True (.r (.rp a b c d e))
    | .fn f a b => match f with | .func _ => .pure True (.fn f a b) | _ => .bad
    | _ => .bad
  | .binOp op t x y _ => match gbin op (ev E x) (ev E y) with
    | .bad => match op with | .eql => geq T t (ev E x) (ev E y) false | .neq => geq T t (ev E x) (ev E y) true | _ => .bad
    | g => g
  | .unOp op _ x => match op, ev E x with
    | .not, .r (.v (.bool t)) => .pure True (.b (!t))
    | .not, .r (.bx φ) => .pure True (.r (.bx fun t => φ (!t)))
    | .neg, .r (.v (.int k n)) => .pure (inr k (0 - n)) (.r (.v (.int k (0 - n))))
    | _, _ => .bad
  | .convert s d x => match T.ti s, T.ti d, ev E x with
    | some ⟨_, _, _, .int _⟩, some ⟨_, _, _, .int k⟩, .r (.v (.int _ n)) => .pure True (.r (.v (.int k (k.wrap n))))
    | _, _, _ => .bad
  | .makeFunc f fi ca => .pure True (.fn f (fi.toList.map (ev E)) (ca.toList.map (ev E)))
  | .slice t x lo hi mx => gslice T M t (ev E x) (lo.map (ev E)) (hi.map (ev E)) (mx.map (ev E))
  | .fieldAddr t x f => gfield T t (ev E x) f
  | .indexAddr t x i => gindex T t (ev E x) (ev E i)
  | .extract x i => match ev E x with
    | .tup l => match l[i]? with | some s => .pure True s | none => .bad
    | _ => .bad
  | .call c => match c.callee with
    | .builtin b => gbuiltin T b c.argTypes.toList M nx (c.args.toList.map (ev E))
    | .value f => match ev E f with
      | .fn (.func g) fi ca => .call g (fi ++ c.args.toList.map (ev E) ++ ca)
      | .r (.fn (.func g) nf nc fi ca) => .call g (cellsFrom (fun i => .r (fi i)) 0 nf ++ c.args.toList.map (ev E) ++ cellsFrom (fun i => .r (ca i)) 0 nc)
      | _ => .bad
    | _ => .bad
  | _ => .bad

end Go.Gx
