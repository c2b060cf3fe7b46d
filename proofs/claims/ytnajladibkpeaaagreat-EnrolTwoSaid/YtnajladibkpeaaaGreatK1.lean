/-
  Ghost values and ghost memory: what a value and a block of memory are known to be.
  Read-only slices and pointers are values (RV); memory that the call may write is a list of regions (Reg).
-/
import Derived.WalkKit
import Derived.WalkSpells
import Derived.Deep.Draws
import Derived.Maps.AppendAt
set_option linter.unusedVariables false
set_option linter.unusedSimpArgs false
namespace Go.Gx
open Go.RowKit

/-- The kinds of keys of maps: an int, two ints, an int and a truth value. Each key has a number. -/
inductive KK where
  | i | p | v
deriving DecidableEq
def KK.val : KK → Int → Value
  | .i, a => .int .i64 a
  | .p, a => .agg #[.int .i64 (a / 4294967296), .int .i64 (a % 4294967296)]
  | .v, a => .agg #[.int .i64 (a / 2), .bool (decide (a % 2 = 1))]
def KK.dec : KK → Value → Int
  | .i, .int _ a => a
  | .p, .agg xs => match xs.toList with | [.int _ a, .int _ b] => a * 4294967296 + b | _ => 0
  | .v, .agg xs => match xs.toList with | [.int _ a, .bool b] => a * 2 + (if b = true then 1 else 0) | _ => 0
  | _, _ => 0
theorem KK.dec_val (kd : KK) (a : Int) : kd.dec (kd.val a) = a := by
  cases kd
  · rfl
  · show a / 4294967296 * 4294967296 + a % 4294967296 = a
    omega
  · show a / 2 * 2 + (if decide (a % 2 = 1) = true then 1 else 0) = a
    by_cases h : a % 2 = 1
    · simp [h]; omega
    · simp [h]; omega
theorem KK.val_inj {kd : KK} {a b : Int} (h : kd.val a = kd.val b) : a = b := by rw [← kd.dec_val a, h, kd.dec_val]

/-- A value that names no memory of the call's own. -/
inductive RV where
  | any
  | v (x : Value)
  | bx (φ : Bool → Prop)
  | rs (k n : Nat) (get : Nat → Nat → RV)
  | rf (k n : Nat) (get : Nat → Nat → RV)
  | rp (k n : Nat) (get : Nat → Nat → RV) (row fld : Nat)
  | fn (f : Fn) (nf nc : Nat) (fi ca : Nat → RV)
  | kmp (kd : KK) (has : Int → Bool) (val : Int → RV)
@[match_pattern, reducible] def RV.mp (has : Int → Bool) (val : Int → RV) : RV := .kmp .i has val

inductive SV where
  | r (x : RV)
  | ptr (ref row k fld : Nat)
  | sl (ref k lo n : Nat) (cap : Option Nat)
  | mp (ref : Nat)
  | fn (f : Fn) (fi ca : List SV)
  | agg (l : List SV)
  | tup (l : List SV)

inductive Reg where
  | box (l : List SV)
  | vec (e : TypeId) (k n : Nat) (get : Nat → Nat → SV)
  | kmap (kd : KK) (has : Int → Bool) (val : Int → SV) (st : Option ((Int → Nat) × Nat))
  | iter (m : SV) (st : Int → Nat) (ck : Nat) (all left : Int → Bool) (la : Option Int)
@[match_pattern, reducible] def Reg.map (has : Int → Bool) (val : Int → SV) (st : Option ((Int → Nat) × Nat)) : Reg := .kmap .i has val st

abbrev Mem := Nat → Option Reg
abbrev Env := Nat → SV

structure Loc where
  at_ : Option Nat
  cap : Nat
abbrev Sig := Nat → Option Loc

abbrev SV.i (n : Int) : SV := .r (.v (.int .i64 n))
abbrev SV.b (t : Bool) : SV := .r (.v (.bool t))
abbrev RV.i (n : Int) : RV := .v (.int .i64 n)
/-- A key as it is handed out, and the number of one that is handed in. -/
def KK.sv : KK → Int → SV
  | .i, a => .i a
  | .p, a => .agg [.i (a / 4294967296), .i (a % 4294967296)]
  | .v, a => .agg [.i (a / 2), .b (decide (a % 2 = 1))]
def KK.code : KK → SV → Option (Prop × Int)
  | .i, .r (.v (.int .i64 a)) => some (True, a)
  | .p, .agg [.r (.v (.int .i64 a)), .r (.v (.int .i64 b))] => some (0 ≤ b ∧ b < 4294967296, a * 4294967296 + b)
  | .v, .agg [.r (.v (.int .i64 a)), .r (.v (.bool b))] => some (True, a * 2 + (if b = true then 1 else 0))
  | _, _ => none

/-- What the entries of a map (by integers) are good for. -/
def MapOf (kd : KK) (has : Int → Bool) (R : Int → Value → Prop) (es : List MapEntry) (ck : Nat) : Prop :=
  (∀ e ∈ es, ∃ a, e.key = kd.val a ∧ has a = true ∧ e.val.oneCell' = true ∧ R a e.val) ∧ (∀ a, has a = true → ∃ e ∈ es, e.key = kd.val a) ∧
  es.Pairwise (fun x y => x.key ≠ y.key ∧ x.born ≠ y.born) ∧ ∀ e ∈ es, e.born < ck
theorem MapOf.mono {kd : KK} {has : Int → Bool} {R R' : Int → Value → Prop} {es : List MapEntry} {ck : Nat} (h : MapOf kd has R es ck) (hr : ∀ a v, has a = true → R a v → R' a v) : MapOf kd has R' es ck :=
  ⟨fun e he => let ⟨a, h1, h2, h3, h4⟩ := h.1 e he; ⟨a, h1, h2, h3, hr a _ h2 h4⟩, h.2⟩

def RV.rel (Z : Nat → Prop) (w : World) : RV → Value → Prop
  | .any, _ => True
  | .v x, y => y = x
  | .bx φ, y => ∃ b, φ b ∧ y = .bool b
  | .rs k n get, y => ∃ A c, y = .slice A n c ∧ n ≤ c ∧ (0 < n → ∃ b o, A = some ⟨b, o, none⟩ ∧ Z b ∧ ∀ i j, i < n → j < k →
      ∃ v, w.cell? ⟨b, o + (i * k + j), none⟩ = some v ∧ v.oneCell' = true ∧ (get i j).rel Z w v)
  | .rf k n get, y => ∃ A, y = .slice A n n ∧ (0 < n → ∃ b o, A = some ⟨b, o, none⟩ ∧ Z b ∧ ∀ i j, i < n → j < k →
      ∃ v, w.cell? ⟨b, o + (i * k + j), none⟩ = some v ∧ v.oneCell' = true ∧ (get i j).rel Z w v)
  | .rp k n get row fld, y => ∃ b o, y = .pointer (some ⟨b, o + (row * k + fld), none⟩) ∧ Z b ∧ ∀ i j, i < n → j < k →
      ∃ v, w.cell? ⟨b, o + (i * k + j), none⟩ = some v ∧ v.oneCell' = true ∧ (get i j).rel Z w v
  | .fn f nf nc fi ca, y => ∃ vs ws : List Value, y = .func f vs.toArray ws.toArray ∧ vs.length = nf ∧ ws.length = nc ∧
      (∀ i v, vs[i]? = some v → (fi i).rel Z w v) ∧ (∀ i v, ws[i]? = some v → (ca i).rel Z w v)
  | .kmp kd has val, y => ∃ (b : Nat) (es : Array MapEntry) (ck : Nat), y = .map (some b) ∧ Z b ∧ w.heap[b]? = some (.map es ck) ∧ MapOf kd has (fun a v => (val a).rel Z w v) es.toList ck

mutual
def SV.rel (σ : Sig) (Z : Nat → Prop) (w : World) : SV → Value → Prop
  | .r x, y => x.rel Z w y
  | .ptr ref row k fld, y => ∃ L b, σ ref = some L ∧ L.at_ = some b ∧ y = .pointer (some ⟨b, row * k + fld, none⟩)
  | .sl ref k lo n cap, y => ∃ L A, σ ref = some L ∧ y = .slice A n (cap.getD (L.cap - lo)) ∧ n ≤ cap.getD (L.cap - lo) ∧ lo + cap.getD (L.cap - lo) ≤ L.cap ∧
      (0 < cap.getD (L.cap - lo) → ∃ b, L.at_ = some b ∧ A = some ⟨b, lo * k, none⟩) ∧ (lo = 0 → L.cap = 0 ∨ A = L.at_.map fun b => ⟨b, 0, none⟩)
  | .mp ref, y => ∃ L b, σ ref = some L ∧ L.at_ = some b ∧ y = .map (some b)
  | .fn f fi ca, y => ∃ vs ws : List Value, y = .func f vs.toArray ws.toArray ∧ SV.relL σ Z w fi vs ∧ SV.relL σ Z w ca ws
  | .agg l, y => ∃ vs : List Value, y = .agg vs.toArray ∧ (∀ v ∈ vs, v.oneCell' = true) ∧ SV.relL σ Z w l vs
  | .tup l, y => ∃ vs : List Value, y = .tuple vs.toArray ∧ SV.relL σ Z w l vs
def SV.relL (σ : Sig) (Z : Nat → Prop) (w : World) : List SV → List Value → Prop
  | [], vs => vs = []
  | s :: l, vs => ∃ v vs', vs = v :: vs' ∧ s.rel σ Z w v ∧ SV.relL σ Z w l vs'
end

/-- What stays: the immutable blocks. -/
def Keep (Z Z' : Nat → Prop) (w w' : World) : Prop := ∀ b, Z b → Z' b ∧ w'.heap[b]? = w.heap[b]?

theorem cell?_of_heap {w w' : World} {b : Nat} (h : w'.heap[b]? = w.heap[b]?) (o : Nat) : w'.cell? ⟨b, o, none⟩ = w.cell? ⟨b, o, none⟩ := by
  simp only [World.cell?, h]

theorem RV.rel_mono {Z Z' : Nat → Prop} {w w' : World} (hk : Keep Z Z' w w') : ∀ (s : RV) (y : Value), s.rel Z w y → s.rel Z' w' y
  | .any, _, _ => trivial
  | .v x, _, h => h
  | .bx _, _, h => h
  | .rs k n get, y, h => by
    obtain ⟨A, c, e, hc, hn⟩ := h
    refine ⟨A, c, e, hc, fun h0 => ?_⟩
    obtain ⟨b, o, ha, hz, hg⟩ := hn h0
    refine ⟨b, o, ha, (hk b hz).1, fun i j hi hj => ?_⟩
    obtain ⟨v, h1, h2, h3⟩ := hg i j hi hj
    exact ⟨v, by rw [cell?_of_heap (hk b hz).2]; exact h1, h2, RV.rel_mono hk _ _ h3⟩
  | .rf k n get, y, h => by
    obtain ⟨A, e, hn⟩ := h
    refine ⟨A, e, fun h0 => ?_⟩
    obtain ⟨b, o, ha, hz, hg⟩ := hn h0
    refine ⟨b, o, ha, (hk b hz).1, fun i j hi hj => ?_⟩
    obtain ⟨v, h1, h2, h3⟩ := hg i j hi hj
    exact ⟨v, by rw [cell?_of_heap (hk b hz).2]; exact h1, h2, RV.rel_mono hk _ _ h3⟩
  | .rp k n get row fld, y, h => by
    obtain ⟨b, o, ha, hz, hg⟩ := h
    refine ⟨b, o, ha, (hk b hz).1, fun i j hi hj => ?_⟩
    obtain ⟨v, h1, h2, h3⟩ := hg i j hi hj
    exact ⟨v, by rw [cell?_of_heap (hk b hz).2]; exact h1, h2, RV.rel_mono hk _ _ h3⟩
  | .fn f nf nc fi ca, y, h => by
    obtain ⟨vs, ws, e, h1, h2, h3, h4⟩ := h
    exact ⟨vs, ws, e, h1, h2, fun i v hv => RV.rel_mono hk _ _ (h3 i v hv), fun i v hv => RV.rel_mono hk _ _ (h4 i v hv)⟩
  | .kmp kd has val, y, h => by
    obtain ⟨b, es, ck, e, hz, hh, hm⟩ := h
    exact ⟨b, es, ck, e, (hk b hz).1, by rw [(hk b hz).2]; exact hh, hm.mono fun a v _ hv => RV.rel_mono hk _ _ hv⟩

def SigLe (σ σ' : Sig) : Prop := ∀ r L, σ r = some L → σ' r = some L

mutual
theorem SV.rel_mono {σ σ' : Sig} {Z Z' : Nat → Prop} {w w' : World} (hs : SigLe σ σ') (hk : Keep Z Z' w w') : ∀ (s : SV) (y : Value), s.rel σ Z w y → s.rel σ' Z' w' y
  | .r x, y, h => RV.rel_mono hk x y h
  | .ptr .., y, h => by
    obtain ⟨L, b, h1, h2, h3⟩ := h
    exact ⟨L, b, hs _ _ h1, h2, h3⟩
  | .sl .., y, h => by
    obtain ⟨L, A, h1, h2⟩ := h
    exact ⟨L, A, hs _ _ h1, h2⟩
  | .mp .., y, h => by
    obtain ⟨L, b, h1, h2, h3⟩ := h
    exact ⟨L, b, hs _ _ h1, h2, h3⟩
  | .fn f fi ca, y, h => by
    obtain ⟨vs, ws, e, h1, h2⟩ := h
    exact ⟨vs, ws, e, SV.relL_mono hs hk _ _ h1, SV.relL_mono hs hk _ _ h2⟩
  | .agg l, y, h => by
    obtain ⟨vs, e, h1, h2⟩ := h
    exact ⟨vs, e, h1, SV.relL_mono hs hk _ _ h2⟩
  | .tup l, y, h => by
    obtain ⟨vs, e, h2⟩ := h
    exact ⟨vs, e, SV.relL_mono hs hk _ _ h2⟩
theorem SV.relL_mono {σ σ' : Sig} {Z Z' : Nat → Prop} {w w' : World} (hs : SigLe σ σ') (hk : Keep Z Z' w w') : ∀ (l : List SV) (ys : List Value), SV.relL σ Z w l ys → SV.relL σ' Z' w' l ys
  | [], ys, h => h
  | s :: l, ys, h => by
    obtain ⟨v, vs', e, h1, h2⟩ := h
    exact ⟨v, vs', e, SV.rel_mono hs hk s v h1, SV.relL_mono hs hk l vs' h2⟩
end

theorem SV.relL_length {σ : Sig} {Z : Nat → Prop} {w : World} : ∀ {l : List SV} {ys : List Value}, SV.relL σ Z w l ys → ys.length = l.length
  | [], ys, h => by cases h; rfl
  | s :: l, ys, h => by
    obtain ⟨v, vs', rfl, _, h2⟩ := h
    simp [SV.relL_length h2]

theorem SV.relL_get {σ : Sig} {Z : Nat → Prop} {w : World} : ∀ {l : List SV} {ys : List Value}, SV.relL σ Z w l ys → ∀ (i : Nat) (s : SV), l[i]? = some s → ∃ y, ys[i]? = some y ∧ s.rel σ Z w y
  | [], ys, h, i, s, hs => by simp at hs
  | s :: l, ys, h, i, t, ht => by
    obtain ⟨v, vs', rfl, h1, h2⟩ := h
    cases i with
    | zero => simp at ht; subst ht; exact ⟨v, by simp, h1⟩
    | succ i => simpa using SV.relL_get h2 i t (by simpa using ht)

theorem SV.relL_mk {σ : Sig} {Z : Nat → Prop} {w : World} : ∀ {l : List SV} {ys : List Value}, ys.length = l.length → (∀ (i : Nat) (s : SV) (y : Value), l[i]? = some s → ys[i]? = some y → s.rel σ Z w y) → SV.relL σ Z w l ys
  | [], ys, h, _ => by simpa [SV.relL] using h
  | s :: l, [], h, _ => by simp at h
  | s :: l, y :: ys, h, H => ⟨y, ys, rfl, H 0 s y rfl rfl, SV.relL_mk (by simpa using h) fun i s' y' h1 h2 => H (i + 1) s' y' (by simpa using h1) (by simpa using h2)⟩

/-- The blocks that no region of the call's own has. -/
def Zof (B : Nat → Prop) (σ : Sig) (M : Mem) (w : World) (b : Nat) : Prop := (b < w.heap.size ∧ B b) ∧ ∀ r R L, M r = some R → σ r = some L → L.at_ ≠ some b

def RegOK (σ : Sig) (Z : Nat → Prop) (w : World) (L : Loc) : Reg → Prop
  | .box l => ∃ (b : Nat) (cs : List Value) (ty : TypeId), L.at_ = some b ∧ w.heap[b]? = some (.cells cs.toArray ty (0, 0)) ∧ (∀ v ∈ cs, v.oneCell' = true) ∧ SV.relL σ Z w l cs
  | .vec e k n get => n ≤ L.cap ∧ L.cap ≤ maxLen ∧ ((L.at_ = none ∧ L.cap = 0) ∨ ∃ (b : Nat) (cs : List Value), L.at_ = some b ∧ w.heap[b]? = some (.cells cs.toArray e (0, 0)) ∧
      cs.length = L.cap * k ∧ (∀ v ∈ cs, v.oneCell' = true) ∧ ∀ i j, i < n → j < k → ∃ v, cs[i * k + j]? = some v ∧ v.oneCell' = true ∧ (get i j).rel σ Z w v)
  | .kmap kd has val st => ∃ (b : Nat) (es : Array MapEntry) (ck : Nat), L.at_ = some b ∧ w.heap[b]? = some (.map es ck) ∧ MapOf kd has (fun a v => (val a).rel σ Z w v) es.toList ck ∧
      ∀ f c, st = some (f, c) → ck = c ∧ ∀ e ∈ es.toList, ∀ a, e.key = kd.val a → e.born = f a
  | .iter m f c all left la => ∃ (b : Nat) (mo : Option Nat) (seen : Array Nat) (stepped : Nat), L.at_ = some b ∧ w.heap[b]? = some (.mapIter mo c seen stepped) ∧ c ≤ stepped ∧ m.rel σ Z w (.map mo) ∧
      (∀ a, all a = true → (left a = true ↔ f a ∉ seen.toList)) ∧ ∀ a, la = some a → stepped = c ∧ seen.back? = some (f a)

/-- Outside of W nothing that was there has turned. -/
structure Fr (W : Nat → Prop) (w0 w : World) : Prop where
  os : w.os = w0.os
  tape : w.tape = w0.tape
  output : w.output = w0.output
  size : w0.heap.size ≤ w.heap.size
  drawn : w0.drawn ≤ w.drawn
  block : ∀ b, b < w0.heap.size → ¬ W b → w.heap[b]? = w0.heap[b]?

/-- The refs from nx on. -/
def From (nx : Nat) : Nat → Prop := fun r => nx ≤ r

structure MOK (B W : Nat → Prop) (n0 : Nat) (σ : Sig) (M : Mem) (F : Nat → Prop) (w : World) : Prop where
  newB : ∀ b, n0 ≤ b ∨ W b → B b
  fresh : ∀ r, F r → σ r = none
  reg : ∀ r R, M r = some R → ∃ L, σ r = some L ∧ RegOK σ (Zof B σ M w) w L R
  inj : ∀ r r' R R' L L' b, M r = some R → M r' = some R' → σ r = some L → σ r' = some L' → L.at_ = some b → L'.at_ = some b → r = r'
  own : ∀ r R L b, M r = some R → σ r = some L → L.at_ = some b → W b ∨ n0 ≤ b

def EOK (σ : Sig) (Z : Nat → Prop) (w : World) (E : Env) (a : Act) : Prop := ∀ t, (E t).rel σ Z w (a.tmps.getD t undef)

theorem Fr.refl (W : Nat → Prop) (w : World) : Fr W w w := ⟨rfl, rfl, rfl, Nat.le_refl _, Nat.le_refl _, fun _ _ _ => rfl⟩
theorem Fr.trans {W : Nat → Prop} {a b c : World} (h : Fr W a b) {W' : Nat → Prop} (k : Fr W' b c) (hw : ∀ x, x < a.heap.size → W' x → W x) : Fr W a c :=
  ⟨k.os.trans h.os, k.tape.trans h.tape, k.output.trans h.output, Nat.le_trans h.size k.size, Nat.le_trans h.drawn k.drawn,
    fun i hi hw' => (k.block i (Nat.lt_of_lt_of_le hi h.size) (fun h' => hw' (hw i hi h'))).trans (h.block i hi hw')⟩

end Go.Gx
/-
  The table of types that the ghost executor reads, and what each operation gives (no memory written: Gp).
-/
set_option linter.unusedVariables false
set_option linter.unusedSimpArgs false
namespace Go.Gx
open Go.RowKit

inductive ZK where
  | i (k : IntKind) | b | s | p | sl | m | f | ifc
def ZK.val : ZK → Value
  | .i k => .int k 0 | .b => .bool false | .s => .string ByteArray.empty | .p => .pointer none | .sl => .slice none 0 0 | .m => .map none | .f => .nilFunc | .ifc => .nilIface
inductive TK where
  | int (k : IntKind) | bool | other
  | struct (fs : List (Nat × Nat × Bool))
  | array (n esz : Nat) (eagg : Bool)
  | slice (e : TypeId)
  | map (k e : TypeId)
structure TI where
  size : Nat
  bytes : Nat
  zero : List ZK
  kind : TK
def TI.agg (i : TI) : Bool := match i.kind with | .struct _ | .array .. => true | _ => false
def TI.zeroV (i : TI) : Value := if i.agg then .agg (i.zero.map ZK.val).toArray else match i.zero with | z :: _ => z.val | [] => undef

def veq1 : Value → Value → Bool
  | .int k n, .int k' n' => decide (k = k') && decide (n = n')
  | .bool a, .bool b => decide (a = b)
  | .string s, .string t => decide (s = t)
  | .pointer none, .pointer none => true
  | .slice none a b, .slice none c d => decide (a = c) && decide (b = d)
  | .map none, .map none => true
  | .nilFunc, .nilFunc => true
  | .nilIface, .nilIface => true
  | _, _ => false
theorem veq1_eq {x y : Value} (h : veq1 x y = true) : x = y := by
  unfold veq1 at h
  split at h <;> simp_all
def veqL : List Value → List Value → Bool
  | [], [] => true
  | x :: xs, y :: ys => veq1 x y && veqL xs ys
  | _, _ => false
theorem veqL_eq : ∀ {x y : List Value}, veqL x y = true → x = y
  | [], [], _ => rfl
  | [], _ :: _, h => by simp [veqL] at h
  | _ :: _, [], h => by simp [veqL] at h
  | x :: xs, y :: ys, h => by
    simp only [veqL, Bool.and_eq_true] at h
    rw [veq1_eq h.1, veqL_eq h.2]
def veq : Value → Value → Bool
  | .agg xs, .agg ys => veqL xs.toList ys.toList
  | x, y => veq1 x y
theorem veq_eq {x y : Value} (h : veq x y = true) : x = y := by
  unfold veq at h
  split at h
  · have := veqL_eq h
    congr 1
    exact Array.ext' this
  · exact veq1_eq h

def aggOf (P : Program) (t : TypeId) (g : Bool) : Bool := match P.underlying t with | some (.struct _) | some (.array ..) => g | some _ => !g | none => false
def sizeIs (P : Program) (t : TypeId) (s : Nat) : Bool := match P.info? t with | some i => i.size == s | none => false
def fchk (P : Program) : List Field → List (Nat × Nat × Bool) → Bool
  | [], [] => true
  | f :: fs, (o, s, g) :: l => decide (f.offset = o) && sizeIs P f.type s && aggOf P f.type g && fchk P fs l
  | _, _ => false
def kchk (P : Program) : Option TypeDesc → TK → Bool
  | some (.int k), .int k' => decide (k = k')
  | some .bool, .bool => true
  | some (.struct fa), .struct fs => fchk P fa.toList fs
  | some (.array n e), .array n' s g => decide (n = n') && sizeIs P e s && aggOf P e g
  | some (.slice e), .slice e' => decide (e = e')
  | some (.map k e), .map k' e' => decide (k = k') && decide (e = e')
  | some d, .other => match d with | .struct _ | .array .. => false | _ => true
  | _, _ => false
def tyChk (P : Program) (t : TypeId) (i : TI) : Bool :=
  (match P.info? t with
  | none => false
  | some ti => decide (ti.size = i.size) && decide (ti.bytes = i.bytes) && (match ti.zero with | some z => veq z i.zeroV | none => false)) && kchk P (P.underlying t) i.kind && decide (i.zero.length = i.size) && (i.agg || decide (i.size = 1))

inductive CK where
  | int (k : IntKind) | bool
def CK.has : CK → Value → Prop
  | .int k, v => ∃ n, v = .int k n
  | .bool, v => ∃ b, v = .bool b
def hasL : List CK → List Value → Prop
  | [], l => l = []
  | c :: cs, l => ∃ v l', l = v :: l' ∧ c.has v ∧ hasL cs l'
def eqV : Value → Value → Bool
  | .int _ a, .int _ b => decide (a = b)
  | .bool a, .bool b => decide (a = b)
  | _, _ => false
def eqVL : List Value → List Value → Bool
  | [], [] => true
  | x :: xs, y :: ys => eqV x y && eqVL xs ys
  | _, _ => false

structure Tab where
  ti : TypeId → Option TI
  eq : TypeId → Option (List CK)
  key : TypeId → Option KK := fun _ => none

/-- Keys of this type are looked for as the model does it. -/
structure KeyOK (P : Program) (k : TypeId) (kd : KK) : Prop where
  check : ∀ (w : World) (em : Bool) (a : Int), (Instr.checkKey em 10000 k (kd.val a)).run P w = .ok () w
  find : ∀ (w : World) (a : Int) (es : List MapEntry), (∀ e ∈ es, ∃ b, e.key = kd.val b) →
    ((Instr.findKey k (kd.val a) es).run P w = .ok none w ∧ ∀ e ∈ es, e.key ≠ kd.val a) ∨ ∃ j e, (Instr.findKey k (kd.val a) es).run P w = .ok (some (j, e.val)) w ∧ es[j]? = some e ∧ e.key = kd.val a
  stays : ∀ (w : World) (a : Int), (Instr.keyThatStays (kd.val a) (kd.val a)).run P w = .ok (kd.val a) w

structure TabOK (P : Program) (T : Tab) : Prop where
  ti : ∀ t i, T.ti t = some i → tyChk P t i = true
  eq : ∀ t cs, T.eq t = some cs → ∀ (xs ys : List Value) (w : World), hasL cs xs → hasL cs ys →
    (Op.equal t (.agg xs.toArray) (.agg ys.toArray)).run P w = .ok (eqVL xs ys) w ∧
    (∀ (op : BinOp) (x y : Operand), (eqGuard op t x y (.agg xs.toArray) (.agg ys.toArray)).run P w = .ok () w)
  key : ∀ t kd, T.key t = some kd → KeyOK P t kd := by intro t kd h; cases h

section
variable {P : Program} {T : Tab} {t : TypeId} {i : TI}
theorem ti_info (h : tyChk P t i = true) : ∃ ti, P.info? t = some ti ∧ ti.size = i.size ∧ ti.bytes = i.bytes ∧ ti.zero = some i.zeroV := by
  unfold tyChk at h
  simp only [Bool.and_eq_true] at h
  obtain ⟨⟨⟨h, _⟩, _⟩, _⟩ := h
  split at h
  · simp at h
  · rename_i ti hti
    simp only [Bool.and_eq_true, decide_eq_true_eq] at h
    obtain ⟨⟨h1, h2⟩, h3⟩ := h
    split at h3
    · rename_i z hz
      exact ⟨ti, hti, h1, h2, by rw [hz, veq_eq h3]⟩
    · simp at h3
theorem ti_kind (h : tyChk P t i = true) : kchk P (P.underlying t) i.kind = true := by
  unfold tyChk at h
  simp only [Bool.and_eq_true] at h
  exact h.1.1.2
theorem ti_one (h : tyChk P t i = true) (hg : i.agg = false) : i.size = 1 := by
  unfold tyChk at h
  simp only [Bool.and_eq_true, Bool.or_eq_true, decide_eq_true_eq, hg] at h
  simpa using h.2
theorem ti_len (h : tyChk P t i = true) : i.zero.length = i.size := by
  unfold tyChk at h
  simp only [Bool.and_eq_true, decide_eq_true_eq] at h
  exact h.1.2
theorem ZK.val_one (z : ZK) : z.val.oneCell' = true := by cases z <;> rfl
theorem ZK.val_cells (z : ZK) : z.val.cells = #[z.val] := by cases z <;> rfl
theorem zeroV_cells (h : tyChk P t i = true) : i.zeroV.cells.toList = i.zero.map ZK.val := by
  unfold TI.zeroV
  by_cases hg : i.agg = true
  · simp [hg, Value.cells]
  · have h1 := ti_one h (by simpa using hg)
    have h2 := ti_len h
    rw [h1] at h2
    match hz : i.zero, h2 with
    | [z], _ => simp [hg, ZK.val_cells]
theorem run_zero (h : tyChk P t i = true) (w : World) : (zeroValue t).run P w = .ok i.zeroV w := by
  obtain ⟨ti, h1, _, _, h4⟩ := ti_info h
  simp [zeroValue, typeInfo, h1, h4]
theorem run_size (h : tyChk P t i = true) (w : World) : (sizeOf t).run P w = .ok i.size w := by
  obtain ⟨ti, h1, h2, _⟩ := ti_info h
  simp [sizeOf, typeInfo, h1, h2]
theorem run_tinfo (h : tyChk P t i = true) (w : World) : ∃ ti, (typeInfo t).run P w = .ok ti w ∧ ti.bytes = i.bytes ∧ ti.size = i.size := by
  obtain ⟨ti, h1, h2, h3, _⟩ := ti_info h
  exact ⟨ti, by simp [typeInfo, h1], h3, h2⟩
theorem run_sizeIs {s : Nat} (h : sizeIs P t s = true) (w : World) : (sizeOf t).run P w = .ok s w := by
  unfold sizeIs at h
  split at h
  · rename_i ti hti
    simp at h
    simp [sizeOf, typeInfo, hti, h]
  · simp at h
theorem run_aggOf {g : Bool} (h : aggOf P t g = true) (w : World) : (isAgg t).run P w = .ok g w := by
  unfold aggOf at h
  split at h
  · rename_i hu; subst h; simp [isAgg, run_underlying hu]
  · rename_i hu; subst h; simp [isAgg, run_underlying hu]
  · rename_i d h1 h2 hu
    have hg : g = false := by simpa using h
    unfold isAgg
    rw [Sem.run_bind, run_underlying ‹_›, hg]
    cases d <;> first | rfl | (exact absurd rfl (h1 _)) | (exact absurd rfl (h2 _ _))
  · simp at h
theorem und_some (h : tyChk P t i = true) : ∃ d, P.underlying t = some d := by
  have := ti_kind h
  unfold kchk at this
  split at this <;> first | (exact ⟨_, by assumption⟩) | simp_all
theorem run_agg (h : tyChk P t i = true) (w : World) : (isAgg t).run P w = .ok i.agg w := by
  have hk := ti_kind h
  unfold kchk at hk
  split at hk
  · rename_i hu hk'; simp [isAgg, run_underlying hu, TI.agg, hk']
  · rename_i hu hk'; simp [isAgg, run_underlying hu, TI.agg, hk']
  · rename_i hu hk'; simp [isAgg, run_underlying hu, TI.agg, hk']
  · rename_i hu hk'; simp [isAgg, run_underlying hu, TI.agg, hk']
  · rename_i hu hk'; simp [isAgg, run_underlying hu, TI.agg, hk']
  · rename_i hu hk'; simp [isAgg, run_underlying hu, TI.agg, hk']
  · rename_i d hu hk'
    have hu' : P.underlying t = some d := by assumption
    unfold isAgg
    rw [Sem.run_bind, run_underlying hu']
    cases d <;> simp_all [TI.agg]
  · simp at hk
theorem und_slice {e : TypeId} (h : tyChk P t i = true) (hk : i.kind = .slice e) : P.underlying t = some (.slice e) := by
  have := ti_kind h
  rw [hk] at this
  unfold kchk at this
  split at this <;> simp_all
theorem und_map {k e : TypeId} (h : tyChk P t i = true) (hk : i.kind = .map k e) : P.underlying t = some (.map k e) := by
  have := ti_kind h
  rw [hk] at this
  unfold kchk at this
  split at this <;> simp_all
theorem und_int {k : IntKind} (h : tyChk P t i = true) (hk : i.kind = .int k) : P.underlying t = some (.int k) := by
  have := ti_kind h
  rw [hk] at this
  unfold kchk at this
  split at this <;> simp_all
theorem und_bool (h : tyChk P t i = true) (hk : i.kind = .bool) : P.underlying t = some .bool := by
  have := ti_kind h
  rw [hk] at this
  unfold kchk at this
  split at this <;> simp_all
theorem und_array {n s : Nat} {g : Bool} (h : tyChk P t i = true) (hk : i.kind = .array n s g) : ∃ e, P.underlying t = some (.array n e) ∧ sizeIs P e s = true ∧ aggOf P e g = true := by
  have := ti_kind h
  rw [hk] at this
  unfold kchk at this
  split at this <;> simp_all
theorem fchk_get : ∀ {fs : List Field} {l : List (Nat × Nat × Bool)}, fchk P fs l = true → fs.length = l.length ∧ ∀ (j o s : Nat) (g : Bool), l[j]? = some (o, s, g) → ∃ f : Field, fs[j]? = some f ∧ f.offset = o ∧ sizeIs P f.type s = true ∧ aggOf P f.type g = true
  | [], [], _ => ⟨rfl, by simp⟩
  | [], _ :: _, h => by simp [fchk] at h
  | _ :: _, [], h => by simp [fchk] at h
  | f :: fs, (o, s, g) :: l, h => by
    simp only [fchk, Bool.and_eq_true, decide_eq_true_eq] at h
    obtain ⟨⟨⟨h1, h2⟩, h3⟩, h4⟩ := h
    obtain ⟨hl, hg⟩ := fchk_get h4
    refine ⟨by simp [hl], fun j o' s' g' hj => ?_⟩
    cases j with
    | zero => simp at hj; obtain ⟨rfl, rfl, rfl⟩ := hj; exact ⟨f, by simp, h1, h2, h3⟩
    | succ j => simpa using hg j o' s' g' (by simpa using hj)
theorem und_struct {fs : List (Nat × Nat × Bool)} (h : tyChk P t i = true) (hk : i.kind = .struct fs) : ∃ fa : Array Field, P.underlying t = some (.struct fa) ∧ fa.size = fs.length ∧
    ∀ (j o s : Nat) (g : Bool), fs[j]? = some (o, s, g) → ∃ f : Field, fa[j]? = some f ∧ f.offset = o ∧ sizeIs P f.type s = true ∧ aggOf P f.type g = true := by
  have := ti_kind h
  rw [hk] at this
  cases hu : P.underlying t with
  | none => rw [hu] at this; simp [kchk] at this
  | some d =>
    rw [hu] at this
    cases d with
    | struct fa =>
      obtain ⟨h1, h2⟩ := fchk_get (show fchk P fa.toList fs = true from this)
      exact ⟨fa, rfl, by simpa using h1, fun j o s g hj => by simpa using h2 j o s g hj⟩
    | _ => simp [kchk] at this
end

/-! ### integers -/
def inr (k : IntKind) (n : Int) : Prop := match k with
  | .i8 => -128 ≤ n ∧ n ≤ 127 | .i16 => -32768 ≤ n ∧ n ≤ 32767 | .i32 => -2147483648 ≤ n ∧ n ≤ 2147483647 | .i64 => -9223372036854775808 ≤ n ∧ n ≤ 9223372036854775807
  | .u8 => 0 ≤ n ∧ n ≤ 255 | .u16 => 0 ≤ n ∧ n ≤ 65535 | .u32 => 0 ≤ n ∧ n ≤ 4294967295 | .u64 => 0 ≤ n ∧ n ≤ 18446744073709551615
theorem wrap_inr {k : IntKind} {n : Int} (h : inr k n) : k.wrap n = n := by
  cases k <;> simp only [inr] at h <;> simp only [IntKind.wrap, IntKind.bits, IntKind.signed] <;> simp <;> omega

/-! ### what an operand is -/
def ev (E : Env) : Operand → SV
  | .tmp t => E t
  | .const v => .r (.v v)
  | .global _ => .r .any
  | .func f => .fn (.func f) [] []
theorem ev_rel {σ : Sig} {Z : Nat → Prop} {w : World} {E : Env} {a : Act} (he : EOK σ Z w E a) (x : Operand) : (ev E x).rel σ Z w (a.eval x) := by
  cases x with
  | tmp t => exact he t
  | const v => rfl
  | global g => trivial
  | func f => exact ⟨[], [], rfl, rfl, rfl⟩

def SV.one : SV → Bool
  | .r (.v x) => x.oneCell'
  | .r .any => false
  | .r _ => true
  | .agg _ | .tup _ => false
  | _ => true
theorem SV.one_rel {σ : Sig} {Z : Nat → Prop} {w : World} {s : SV} {y : Value} (h1 : s.one = true) (h : s.rel σ Z w y) : y.oneCell' = true := by
  unfold SV.one at h1
  split at h1
  · cases h; exact h1
  · simp at h1
  · rename_i x _ _
    cases x with
    | any => simp_all
    | v x => simp_all
    | bx φ => obtain ⟨b, _, rfl⟩ := h; rfl
    | rs k n g => obtain ⟨A, c, rfl, _⟩ := h; rfl
    | rf k n g => obtain ⟨A, rfl, _⟩ := h; rfl
    | rp k n g r f => obtain ⟨b, o, rfl, _⟩ := h; rfl
    | fn f a b c d => obtain ⟨vs, ws, rfl, _⟩ := h; rfl
    | kmp kd has val => obtain ⟨b, es, ck, rfl, _⟩ := h; rfl
  · simp at h1
  · simp at h1
  · cases s with
    | r x => simp_all
    | ptr => obtain ⟨L, b, _, _, rfl⟩ := h; rfl
    | sl => obtain ⟨L, b, _, rfl, _⟩ := h; rfl
    | mp => obtain ⟨L, b, _, _, rfl⟩ := h; rfl
    | fn => obtain ⟨vs, ws, rfl, _⟩ := h; rfl
    | agg => simp_all
    | tup => simp_all
def SV.cells : SV → List SV
  | .agg l => l
  | s => [s]
def allOne : List SV → Bool
  | [] => true
  | s :: l => s.one && allOne l
theorem cells_rel {σ : Sig} {Z : Nat → Prop} {w : World} {s : SV} {y : Value} (h : s.rel σ Z w y) (h1 : allOne s.cells = true) :
    SV.relL σ Z w s.cells y.cells.toList ∧ ∀ v ∈ y.cells.toList, v.oneCell' = true := by
  cases s with
  | agg l =>
    obtain ⟨vs, rfl, ho, hl⟩ := h
    exact ⟨by simpa [SV.cells, Value.cells] using hl, by simpa [Value.cells] using ho⟩
  | tup l => simp [SV.cells, allOne, SV.one] at h1
  | _ =>
    have ho := SV.one_rel (by simpa [SV.cells, allOne] using h1) h
    have hc : y.cells = #[y] := by cases y <;> simp_all [Value.cells, Value.oneCell']
    rw [hc]
    exact ⟨⟨y, [], rfl, h, rfl⟩, by simpa using ho⟩

/-- A list of cells out of a row. -/
def cellsFrom (g : Nat → SV) (o : Nat) : Nat → List SV
  | 0 => []
  | n + 1 => g o :: cellsFrom g (o + 1) n
theorem cellsFrom_length (g : Nat → SV) : ∀ n o, (cellsFrom g o n).length = n
  | 0, _ => rfl
  | n + 1, o => by simp [cellsFrom, cellsFrom_length g n]
theorem cellsFrom_get (g : Nat → SV) : ∀ n o j, j < n → (cellsFrom g o n)[j]? = some (g (o + j))
  | 0, _, _, h => by omega
  | n + 1, o, 0, _ => by simp [cellsFrom]
  | n + 1, o, j + 1, h => by
    simp only [cellsFrom, List.getElem?_cons_succ]
    rw [cellsFrom_get g n (o + 1) j (by omega)]
    congr 2; omega

end Go.Gx
/-
  What each operation gives, in ghost values.
-/
set_option linter.unusedVariables false
set_option linter.unusedSimpArgs false
namespace Go.Gx
open Go.RowKit

mutual
def SV.kill (ref : Nat) : SV → SV
  | .r x => .r x
  | .ptr q row k fld => if q = ref then .r .any else .ptr q row k fld
  | .sl q k lo n c => if q = ref then .r .any else .sl q k lo n c
  | .mp q => if q = ref then .r .any else .mp q
  | .fn f fi ca => .fn f (SV.killL ref fi) (SV.killL ref ca)
  | .agg l => .agg (SV.killL ref l)
  | .tup l => .tup (SV.killL ref l)
def SV.killL (ref : Nat) : List SV → List SV
  | [] => []
  | s :: l => s.kill ref :: SV.killL ref l
end
def Reg.kill (ref : Nat) : Reg → Reg
  | .box l => .box (SV.killL ref l)
  | .vec e k n g => .vec e k n fun i j => (g i j).kill ref
  | .kmap kd has val st => .kmap kd has (fun a => (val a).kill ref) st
  | .iter m f c all left la => .iter (m.kill ref) f c all left la
def killM (ref : Nat) (M : Mem) : Mem := fun r => (M r).map (Reg.kill ref)

/-- What an operation gives: a value; a new region (at the next ref); a region with another content; a region that may have moved; bad. -/
inductive GR where
  | bad
  | pure (ob : Prop) (s : SV)
  | new (ob : Prop) (R : Reg) (s : SV)
  | set (ob : Prop) (ref : Nat) (R : Reg) (s : SV)
  | app (ob : Prop) (ref : Nat) (R : Reg) (s : SV)
  | call (f : FuncId) (args : List SV)

def SV.toRV : SV → RV
  | .r x => x
  | .fn f [] [] => .fn f 0 0 (fun _ => .any) (fun _ => .any)
  | .fn f [] [.r a] => .fn f 0 1 (fun _ => .any) (fun _ => a)
  | .fn f [] [.r a, .r b] => .fn f 0 2 (fun _ => .any) (fun i => match i with | 0 => a | _ => b)
  | .fn f [] [.r a, .r b, .r c] => .fn f 0 3 (fun _ => .any) (fun i => match i with | 0 => a | 1 => b | _ => c)
  | .fn f [.r a] [] => .fn f 1 0 (fun _ => a) (fun _ => .any)
  | _ => .any

def gload (T : Tab) (t : TypeId) (M : Mem) (s : SV) : GR :=
  match T.ti t with
  | none => .bad
  | some i =>
    match s with
    | .ptr ref row k fld =>
      match M ref with
      | some (.box l) =>
        if i.agg then .pure (row * k + fld + i.size ≤ l.length) (.agg (cellsFrom (fun j => l.getD j (.r .any)) (row * k + fld) i.size))
        else .pure (row * k + fld < l.length) (l.getD (row * k + fld) (.r .any))
      | some (.vec e k' n get) =>
        if i.agg then .pure (k' = k ∧ row < n ∧ fld + i.size ≤ k) (.agg (cellsFrom (fun j => get row j) fld i.size))
        else .pure (k' = k ∧ row < n ∧ fld < k) (get row fld)
      | _ => .bad
    | .r (.rp k n get row fld) =>
      if i.agg then .pure (row < n ∧ fld + i.size ≤ k) (.agg (cellsFrom (fun j => .r (get row j)) fld i.size))
      else .pure (row < n ∧ fld < k) (.r (get row fld))
    | _ => .bad

def put (l : List SV) (o : Nat) (cs : List SV) : List SV := l.take o ++ cs ++ l.drop (o + cs.length)

def gstore (T : Tab) (t : TypeId) (M : Mem) (s x : SV) : GR :=
  match T.ti t with
  | none => .bad
  | some i =>
    match s with
    | .ptr ref row k fld =>
      match M ref with
      | some (.box l) => .set (allOne x.cells = true ∧ x.cells.length = i.size ∧ row * k + fld + i.size ≤ l.length) ref (.box (put l (row * k + fld) x.cells)) (.r .any)
      | some (.vec e k' n get) => .set (allOne x.cells = true ∧ x.cells.length = i.size ∧ k' = k ∧ row < n ∧ fld + i.size ≤ k) ref
          (.vec e k' n fun i' j' => if i' = row ∧ fld ≤ j' ∧ j' < fld + i.size then x.cells.getD (j' - fld) (.r .any) else get i' j') (.r .any)
      | _ => .bad
    | _ => .bad

def gbin (op : BinOp) (x y : SV) : GR :=
  match op, x, y with
  | .shl, .r (.v (.int k a)), .r (.v (.int _ b)) => .pure (0 ≤ b) (.r (.v (.int k (k.wrap (a * 2 ^ (min b.toNat k.bits))))))
  | .shr, .r (.v (.int k a)), .r (.v (.int _ b)) => .pure (0 ≤ b) (.r (.v (.int k (a.fdiv (2 ^ (min b.toNat k.bits))))))
  | .add, .r (.v (.int k a)), .r (.v (.int k' b)) => .pure (k = k' ∧ inr k (a + b)) (.r (.v (.int k (a + b))))
  | .sub, .r (.v (.int k a)), .r (.v (.int k' b)) => .pure (k = k' ∧ inr k (a - b)) (.r (.v (.int k (a - b))))
  | .mul, .r (.v (.int k a)), .r (.v (.int k' b)) => .pure (k = k' ∧ (k = .u64 ∨ inr k (a * b))) (.r (.v (.int k (if k = .u64 then k.wrap (a * b) else a * b))))
  | .quo, .r (.v (.int k a)), .r (.v (.int k' b)) => .pure (k = k' ∧ b ≠ 0 ∧ inr k (a.tdiv b)) (.r (.v (.int k (a.tdiv b))))
  | .rem, .r (.v (.int k a)), .r (.v (.int k' b)) => .pure (k = k' ∧ b ≠ 0) (.r (.v (.int k (a.tmod b))))
  | .and, .r (.v (.int k a)), .r (.v (.int k' b)) => .pure (k = k') (.r (.v (.int k (k.wrap (BitVec.ofInt k.bits a &&& BitVec.ofInt k.bits b).toNat))))
  | .or, .r (.v (.int k a)), .r (.v (.int k' b)) => .pure (k = k') (.r (.v (.int k (k.wrap (BitVec.ofInt k.bits a ||| BitVec.ofInt k.bits b).toNat))))
  | .xor, .r (.v (.int k a)), .r (.v (.int k' b)) => .pure (k = k') (.r (.v (.int k (k.wrap (BitVec.ofInt k.bits a ^^^ BitVec.ofInt k.bits b).toNat))))
  | .andNot, .r (.v (.int k a)), .r (.v (.int k' b)) => .pure (k = k') (.r (.v (.int k (k.wrap (BitVec.ofInt k.bits a &&& ~~~ BitVec.ofInt k.bits b).toNat))))
  | .eql, .r (.v (.int k a)), .r (.v (.int k' b)) => .pure (k = k') (.b (decide (a = b)))
  | .neq, .r (.v (.int k a)), .r (.v (.int k' b)) => .pure (k = k') (.b (!decide (a = b)))
  | .lss, .r (.v (.int k a)), .r (.v (.int k' b)) => .pure (k = k') (.b (decide (a < b)))
  | .leq, .r (.v (.int k a)), .r (.v (.int k' b)) => .pure (k = k') (.b (decide (a ≤ b)))
  | .gtr, .r (.v (.int k a)), .r (.v (.int k' b)) => .pure (k = k') (.b (decide (b < a)))
  | .geq, .r (.v (.int k a)), .r (.v (.int k' b)) => .pure (k = k') (.b (decide (b ≤ a)))
  | _, _, _ => .bad

/-- The scalars of a struct. -/
def scal : List CK → List SV → Option (List Value)
  | [], [] => some []
  | .int k :: cs, .r (.v (.int k' n)) :: l => if k = k' then (scal cs l).map (.int k n :: ·) else none
  | .bool :: cs, .r (.v (.bool b)) :: l => (scal cs l).map (.bool b :: ·)
  | _, _ => none

def geq (T : Tab) (t : TypeId) (x y : SV) (neg : Bool) : GR :=
  match x, y with
  | .r (.v (.bool a)), .r (.v (.bool b)) => .pure ((T.ti t).map (·.kind) = some .bool) (.b (if neg then !decide (a = b) else decide (a = b)))
  | .agg xs, .agg ys =>
    match T.eq t with
    | some cs => match scal cs xs, scal cs ys with
      | some us, some vs => .pure True (.b (if neg then !eqVL us vs else eqVL us vs))
      | _, _ => .bad
    | none => .bad
  | .r (.rs k n get), .r (.v (.slice none 0 0)) => .pure (((T.ti t).map (·.kind)).any (fun | .slice _ => true | _ => false) = true) (.r (.bx fun b => ((if neg then !b else b) = true → n = 0)))
  | .sl ref k lo n c, .r (.v (.slice none 0 0)) => .pure (((T.ti t).map (·.kind)).any (fun | .slice _ => true | _ => false) = true) (.r (.bx fun b => ((if neg then !b else b) = true → n = 0)))
  | .r (.v (.slice none 0 0)), .r (.v (.slice none 0 0)) => .pure (((T.ti t).map (·.kind)).any (fun | .slice _ => true | _ => false) = true) (.b (!neg))
  | .mp _, .r (.v (.map none)) => .pure (((T.ti t).map (·.kind)).any (fun | .map _ _ => true | _ => false) = true) (.b neg)
  | .r (.v (.map none)), .r (.v (.map none)) => .pure (((T.ti t).map (·.kind)).any (fun | .map _ _ => true | _ => false) = true) (.b (!neg))
  | _, _ => .bad

def loInt : Option SV → Option Int
  | none => some 0
  | some (.r (.v (.int _ i))) => some i
  | _ => none

/-- The rows that are known of a region. -/
def rowsN (M : Mem) (ref : Nat) : Nat := match M ref with | some (.vec _ _ N _) => N | _ => 0
def gslice (T : Tab) (M : Mem) (t : TypeId) (x : SV) (lo hi mx : Option SV) : GR :=
  match T.ti t with
  | some ⟨_, _, _, .slice e⟩ =>
    match T.ti e with
    | none => .bad
    | some ei =>
    match loInt lo with
    | none => .bad
    | some l =>
    match x with
    | .r (.rs k n get) =>
      match hi, mx with
      | none, none => .pure (ei.size = k ∧ 0 ≤ l ∧ l ≤ n) (.r (.rs k (n - l.toNat) fun i j => get (l.toNat + i) j))
      | some (.r (.v (.int _ h))), none => .pure (ei.size = k ∧ 0 ≤ l ∧ l ≤ h ∧ h ≤ n) (.r (.rs k (h.toNat - l.toNat) fun i j => get (l.toNat + i) j))
      | some (.r (.v (.int _ h))), some (.r (.v (.int _ m))) => .pure (ei.size = k ∧ 0 ≤ l ∧ l ≤ h ∧ h = m ∧ m ≤ n) (.r (.rf k (h.toNat - l.toNat) fun i j => get (l.toNat + i) j))
      | _, _ => .bad
    | .sl ref k l0 n none =>
      match hi, mx with
      | none, none => .pure (ei.size = k ∧ 0 ≤ l ∧ l ≤ n) (.sl ref k (l0 + l.toNat) (n - l.toNat) none)
      | some (.r (.v (.int _ h))), none => .pure (ei.size = k ∧ 0 ≤ l ∧ l ≤ h ∧ (h ≤ n ∨ l0 + h ≤ rowsN M ref)) (.sl ref k (l0 + l.toNat) (h.toNat - l.toNat) none)
      | some (.r (.v (.int _ h))), some (.r (.v (.int _ m))) => .pure (ei.size = k ∧ 0 ≤ l ∧ l ≤ h ∧ h ≤ m ∧ (m ≤ n ∨ l0 + m ≤ rowsN M ref)) (.sl ref k (l0 + l.toNat) (h.toNat - l.toNat) (some (m.toNat - l.toNat)))
      | _, _ => .bad
    | .sl ref k l0 n (some c) =>
      match hi, mx with
      | none, none => .pure (ei.size = k ∧ 0 ≤ l ∧ l ≤ n) (.sl ref k (l0 + l.toNat) (n - l.toNat) (some (c - l.toNat)))
      | some (.r (.v (.int _ h))), none =>
        if h ≤ n then .pure (ei.size = k ∧ 0 ≤ l ∧ l ≤ h ∧ h ≤ n) (.sl ref k (l0 + l.toNat) (h.toNat - l.toNat) (some (c - l.toNat)))
        else match M ref with
        | some (.vec e' k' N g) => .set (ei.size = k ∧ k' = k ∧ 0 ≤ l ∧ l ≤ h ∧ h ≤ c ∧ N ≤ l0 + h) ref (.vec e' k' (l0 + h.toNat) fun i j => if i < N then g i j else .r .any) (.sl ref k (l0 + l.toNat) (h.toNat - l.toNat) (some (c - l.toNat)))
        | _ => .bad
      | _, _ => .bad
    | .r (.v (.slice none 0 0)) =>
      match hi, mx with
      | none, none => .pure (l = 0) (.r (.v (.slice none 0 0)))
      | some (.r (.v (.int _ h))), none => .pure (l = 0 ∧ h = 0) (.r (.v (.slice none 0 0)))
      | some (.r (.v (.int _ h))), some (.r (.v (.int _ m))) => .pure (l = 0 ∧ h = 0 ∧ m = 0) (.r (.v (.slice none 0 0)))
      | _, _ => .bad
    | _ => .bad
  | _ => .bad

def gfield (T : Tab) (t : TypeId) (x : SV) (f : Nat) : GR :=
  match T.ti t with
  | some ⟨_, _, _, .struct fs⟩ =>
    match fs[f]? with
    | some (o, s, _) =>
      match x with
      | .ptr ref row k fld => .pure (s ≠ 0) (.ptr ref row k (fld + o))
      | .r (.rp k n get row fld) => .pure (s ≠ 0) (.r (.rp k n get row (fld + o)))
      | _ => .bad
    | none => .bad
  | _ => .bad

def gindex (T : Tab) (t : TypeId) (x i : SV) : GR :=
  match i with
  | .r (.v (.int _ ix)) =>
    match T.ti t with
    | some ⟨_, _, _, .slice e⟩ =>
      match T.ti e with
      | none => .bad
      | some ei =>
      match x with
      | .r (.rs k n get) => .pure (ei.size = k ∧ 0 ≤ ix ∧ ix < n) (.r (.rp k n get ix.toNat 0))
      | .sl ref k lo n c => .pure (ei.size = k ∧ 0 ≤ ix ∧ ix < n) (.ptr ref (lo + ix.toNat) k 0)
      | _ => .bad
    | some ⟨_, _, _, .array n es _⟩ =>
      match x with
      | .ptr ref row k fld => .pure (es ≠ 0 ∧ 0 ≤ ix ∧ ix < n) (.ptr ref row k (fld + ix.toNat * es))
      | .r (.rp k m get row fld) => .pure (es ≠ 0 ∧ 0 ≤ ix ∧ ix < n) (.r (.rp k m get row (fld + ix.toNat * es)))
      | _ => .bad
    | _ => .bad
  | _ => .bad

/-- Parts laid into a list of cells. -/
def place (pl : Nat → Option (Nat × Nat)) (cs : List SV) : List (Nat × SV) → Option (List SV)
  | [] => some cs
  | (i, x) :: rest =>
    match pl i with
    | none => none
    | some (o, s) => if x.cells.length = s ∧ o + s ≤ cs.length ∧ allOne x.cells = true then place pl (put cs o x.cells) rest else none

def gbuild (T : Tab) (t : TypeId) (parts : List (Nat × SV)) : GR :=
  match T.ti t with
  | some ⟨sz, _, zero, .struct fs⟩ =>
    match place (fun i => (fs[i]?).map fun (o, s, _) => (o, s)) (zero.map fun z => .r (.v z.val)) parts with
    | some cs => .pure True (.agg cs)
    | none => .bad
  | some ⟨sz, _, zero, .array n es _⟩ =>
    match place (fun i => some (i * es, es)) (zero.map fun z => .r (.v z.val)) parts with
    | some cs => .pure True (.agg cs)
    | none => .bad
  | _ => .bad

def rep (l : List SV) : Nat → List SV
  | 0 => []
  | n + 1 => l ++ rep l n

def gbuildSlice (T : Tab) (t : TypeId) (len nx : Nat) (parts : List (Nat × SV)) : GR :=
  match T.ti t with
  | some ⟨_, _, _, .slice e⟩ =>
    match T.ti e with
    | none => .bad
    | some ei =>
      match place (fun i => some (i * ei.size, ei.size)) (rep (ei.zero.map fun z => .r (.v z.val)) len) parts with
      | some cs => .new (0 < ei.size ∧ len * ei.size ≤ 16777216) (.vec e ei.size len fun i j => cs.getD (i * ei.size + j) (.r .any)) (.sl nx ei.size 0 len none)
      | none => .bad
  | _ => .bad

/-- What a slice reads as: its length and its rows; what must hold for that. -/
def rowsOf (M : Mem) (k : Nat) (x : SV) : Option (Prop × Nat × (Nat → Nat → SV)) :=
  match x with
  | .r (.v (.slice none 0 0)) => some (True, 0, fun _ _ => .r .any)
  | .r (.rs k' m get) => some (k' = k, m, fun i j => .r (get i j))
  | .r (.rf k' m get) => some (k' = k, m, fun i j => .r (get i j))
  | .sl ref k' lo m c =>
    match M ref with
    | some (.vec _ k'' n get) => some (k' = k ∧ k'' = k ∧ lo + m ≤ n, m, fun i j => get (lo + i) j)
    | _ => none
  | _ => none

def joined (n m : Nat) (g : Nat → Nat → SV) (h : Nat → Nat → SV) : Nat → Nat → SV := fun i j => if i < n then g i j else if i < n + m then h (i - n) j else g i j

/-- append: m rows behind a slice. -/
def gapp (e : TypeId) (ei : TI) (M : Mem) (nx : Nat) (s : SV) (ob : Prop) (m : Nat) (get : Nat → Nat → SV) : GR :=
  match s with
  | .r (.v (.slice none 0 0)) => .new (ob ∧ 0 < ei.size ∧ m * ei.bytes ≤ 140737488355328 ∧ m ≤ 9223372036854775807) (.vec e ei.size m get) (.sl nx ei.size 0 m none)
  | .r (.rf k n g) => .new (ob ∧ 0 < ei.size ∧ k = ei.size ∧ (n = 0 ∨ 0 < m) ∧ (n + m) * ei.bytes ≤ 140737488355328 ∧ n + m ≤ 9223372036854775807) (.vec e ei.size (n + m) (joined n m (fun i j => .r (g i j)) get)) (.sl nx ei.size 0 (n + m) none)
  | .sl ref k 0 n none =>
    match M ref with
    | some (.vec e' k' N g) => .app (ob ∧ 0 < ei.size ∧ e' = e ∧ k = ei.size ∧ k' = ei.size ∧ (n = N ∨ n + m ≤ N) ∧ (n + m) * ei.bytes ≤ 140737488355328 ∧ n + m ≤ 9223372036854775807) ref (.vec e ei.size (N + (n + m - N)) fun i j => (joined n m g get i j).kill ref) (.sl ref ei.size 0 (n + m) none)
    | _ => .bad
  | .sl ref k lo n (some c) =>
    match M ref with
    | some (.vec e' k' N g) => .new (ob ∧ 0 < ei.size ∧ k = ei.size ∧ k' = ei.size ∧ lo + n ≤ N ∧ (c < n + m ∨ (n = 0 ∧ c = 0)) ∧ (n + m) * ei.bytes ≤ 140737488355328 ∧ n + m ≤ 9223372036854775807) (.vec e ei.size (n + m) (joined n m (fun i j => g (lo + i) j) get)) (.sl nx ei.size 0 (n + m) none)
    | _ => .bad
  | _ => .bad
def gappend (T : Tab) (t : TypeId) (M : Mem) (nx : Nat) (s x : SV) : GR :=
  match T.ti t with
  | some ⟨_, _, _, .slice e⟩ =>
    match T.ti e with
    | none => .bad
    | some ei =>
      match rowsOf M ei.size x with
      | none => .bad
      | some (ob, m, get) => gapp e ei M nx s ob m get
  | _ => .bad
/-- append(s, make(S, m)...). -/
def gappendZ (T : Tab) (t t' : TypeId) (M : Mem) (nx : Nat) (s x : SV) : GR :=
  match T.ti t, (T.ti t').map TI.kind, x with
  | some ⟨_, _, _, .slice e⟩, some (.int _), .r (.v (.int .i64 m)) =>
    match T.ti e with
    | none => .bad
    | some ei => match s with
      | .sl ref k lo n (some c) => gapp e ei M nx (.sl ref k lo n (some c)) (0 < m ∧ m * ei.bytes ≤ 140737488355328 ∧ m ≤ 9223372036854775807) m.toNat fun _ j => (match ei.zero[j]? with | some z => .r (.v z.val) | none => .r .any)
      | _ => .bad
  | _, _, _ => .bad

def gcopy (T : Tab) (t : TypeId) (M : Mem) (s x : SV) : GR :=
  match T.ti t with
  | some ⟨_, _, _, .slice e⟩ =>
    match T.ti e with
    | none => .bad
    | some ei =>
      match rowsOf M ei.size x, s with
      | some (ob, m, get), .sl ref k lo n c =>
        match M ref with
        | some (.vec e' k' N g) => .set (ob ∧ k = ei.size ∧ k' = ei.size ∧ lo + n ≤ N) ref (.vec e' k' N fun i j => if lo ≤ i ∧ i < lo + min m n then get (i - lo) j else g i j) (.i (min m n : Nat))
        | _ => .bad
      | _, _ => .bad
  | _ => .bad

def gclear (T : Tab) (t : TypeId) (M : Mem) (s : SV) : GR :=
  match T.ti t with
  | some ⟨_, _, _, .slice e⟩ =>
    match T.ti e with
    | none => .bad
    | some ei =>
      match s with
      | .sl ref k lo n c =>
        match M ref with
        | some (.vec e' k' N g) => .set (k = ei.size ∧ k' = ei.size ∧ lo + n ≤ N) ref (.vec e' k' N fun i j => if lo ≤ i ∧ i < lo + n then (match ei.zero[j]? with | some z => .r (.v z.val) | none => .r .any) else g i j) (.tup [])
        | _ => .bad
      | .r (.v (.slice none 0 0)) => .pure True (.tup [])
      | _ => .bad
  | _ => .bad

def glen (T : Tab) (t : TypeId) (x : SV) : GR :=
  match T.ti t with
  | some ⟨_, _, _, .slice e⟩ =>
    match x with
    | .r (.rs k n get) => .pure True (.i n)
    | .r (.rf k n get) => .pure True (.i n)
    | .sl ref k lo n c => .pure True (.i n)
    | .r (.v (.slice none 0 0)) => .pure True (.i 0)
    | _ => .bad
  | some ⟨_, _, _, .array n _ _⟩ => .pure True (.i n)
  | _ => .bad

def gminmax (mx : Bool) : List SV → GR
  | [.r (.v (.int .i64 a)), .r (.v (.int .i64 b))] => .pure True (.i (if mx then max a b else min a b))
  | [.r (.v (.int .i64 a)), .r (.v (.int .i64 b)), .r (.v (.int .i64 c))] => .pure True (.i (if mx then max (max a b) c else min (min a b) c))
  | _ => .bad

/-- A map by integers: the type of its elements. -/
def mapE (T : Tab) (t : TypeId) : Option TypeId :=
  match T.ti t with
  | some ⟨_, _, _, .map k e⟩ => match T.ti k with | some ⟨_, _, _, .int .i64⟩ => some e | _ => none
  | _ => none
/-- A map: the kind of its keys and the type of its elements. -/
def mapK (T : Tab) (t : TypeId) : Option (KK × TypeId) :=
  match mapE T t with
  | some e => some (.i, e)
  | none =>
    match T.ti t with
    | some ⟨_, _, _, .map k e⟩ => match T.key k with | some kd => some (kd, e) | none => none
    | _ => none
def okPair (ok : Bool) (s : SV) (b : Bool) : SV := if ok then .tup [s, .b b] else s
def gget (g : Prop) (ok h : Bool) (s z : SV) : GR := if h = true then .pure g (okPair ok s true) else .pure g (okPair ok z false)
def glookup (T : Tab) (M : Mem) (t : TypeId) (m x : SV) (ok : Bool) : GR :=
  match mapK T t with
  | none => .bad
  | some (kd, e) =>
    match T.ti e with
    | none => .bad
    | some ei =>
      if ei.agg then .bad else
      match kd.code x with
      | some (g, a) =>
        match m with
        | .mp ref => match M ref with
          | some (.kmap kd' has val _) => if kd' = kd then gget g ok (has a) (val a) (.r (.v ei.zeroV)) else .bad
          | _ => .bad
        | .r (.kmp kd' has val) => if kd' = kd then gget g ok (has a) (.r (val a)) (.r (.v ei.zeroV)) else .bad
        | .r (.v (.map none)) => .pure g (okPair ok (.r (.v ei.zeroV)) false)
        | _ => .bad
      | none => .bad
def gmapUpdate (T : Tab) (M : Mem) (t : TypeId) (m x y : SV) : GR :=
  match mapK T t with
  | none => .bad
  | some (kd, e) =>
    match kd.code x with
    | some (g, a) =>
      match m with
      | .mp ref => match M ref with
        | some (.kmap kd' has val st) => if kd' = kd then .set (g ∧ y.one = true) ref (.kmap kd (fun k => if k = a then true else has k) (fun k => if k = a then y else val k) (if has a = true then st else none)) (.r .any) else .bad
        | _ => .bad
      | _ => .bad
    | none => .bad
def gdelete (T : Tab) (M : Mem) (t : TypeId) (m x : SV) : GR :=
  match mapK T t with
  | none => .bad
  | some (kd, e) =>
    match kd.code x with
    | some (g, a) =>
      match m with
      | .mp ref => match M ref with
        | some (.kmap kd' has val st) => if kd' = kd then .set g ref (.kmap kd (fun k => if k = a then false else has k) val none) (.tup []) else .bad
        | _ => .bad
      | _ => .bad
    | none => .bad
def gmakeMap (T : Tab) (t : TypeId) (r : Option SV) (nx : Nat) : GR :=
  match mapK T t with
  | none => .bad
  | some (kd, e) => match r with
    | none => .new True (.kmap kd (fun _ => false) (fun _ => .r .any) none) (.mp nx)
    | some (.r (.v (.int _ _))) => .new True (.kmap kd (fun _ => false) (fun _ => .r .any) none) (.mp nx)
    | _ => .bad
def gbuiltin (T : Tab) (b : Builtin) (ts : List TypeId) (M : Mem) (nx : Nat) (args : List SV) : GR :=
  match b, ts, args with
  | .len, [t], [x] => glen T t x
  | .append, [t, t'], [s, x] => if t = t' then gappend T t M nx s x else gappendZ T t t' M nx s x
  | .copy, [t, _], [s, x] => gcopy T t M s x
  | .clear, [t], [s] => gclear T t M s
  | .delete, [t, _], [m, x] => gdelete T M t m x
  | .max, _, l => gminmax true l
  | .min, _, l => gminmax false l
  | _, _, _ => .bad
def gmakeSlice (T : Tab) (t : TypeId) (l c : SV) (nx : Nat) : GR :=
  match T.ti t with
  | some ⟨_, _, _, .slice e⟩ =>
    match T.ti e with
    | none => .bad
    | some ei => match l, c with
      | .r (.v (.int .i64 n)), .r (.v (.int .i64 m)) =>
        .new (n = m ∧ 0 ≤ n ∧ 0 < ei.size ∧ n * ei.bytes ≤ 140737488355328 ∧ n ≤ 140737488355328) (.vec e ei.size n.toNat fun _ j => (match ei.zero[j]? with | some z => .r (.v z.val) | none => .r .any)) (.sl nx ei.size 0 n.toNat none)
      | _, _ => .bad
  | _ => .bad
def gfieldV (T : Tab) (t : TypeId) (x : SV) (f : Nat) : GR :=
  match T.ti t with
  | some ⟨_, _, _, .struct fs⟩ =>
    match fs[f]? with
    | some (o, s, g) =>
      match x with
      | .agg l => if g then .pure (o + s ≤ l.length) (.agg (cellsFrom (fun j => l.getD j (.r .any)) o s)) else .pure (o < l.length) (l.getD o (.r .any))
      | _ => .bad
    | none => .bad
  | _ => .bad
def gindexV (T : Tab) (t : TypeId) (x i : SV) : GR :=
  match i with
  | .r (.v (.int _ ix)) =>
    match T.ti t with
    | some ⟨_, _, _, .array n es g⟩ =>
      match x with
      | .agg l => if g then .pure (0 ≤ ix ∧ ix < n ∧ ix.toNat * es + es ≤ l.length) (.agg (cellsFrom (fun j => l.getD j (.r .any)) (ix.toNat * es) es)) else .pure (0 ≤ ix ∧ ix < n ∧ ix.toNat * es < l.length) (l.getD (ix.toNat * es) (.r .any))
      | _ => .bad
    | _ => .bad
  | _ => .bad

def gop (T : Tab) (op : Op) (E : Env) (M : Mem) (nx : Nat) : GR :=
  match op with
  | .lookup t m x ok => glookup T M t (ev E m) (ev E x) ok
  | .mapUpdate t m x y | .insert t m x y => gmapUpdate T M t (ev E m) (ev E x) (ev E y)
  | .makeMap t r => gmakeMap T t (r.map (ev E)) nx
  | .makeSlice t l c => gmakeSlice T t (ev E l) (ev E c) nx
  | .field t x f => gfieldV T t (ev E x) f
  | .index t x i => gindexV T t (ev E x) (ev E i)
  | .move x | .assign x => .pure True (ev E x)
  | .box t x => match T.ti t with
    | some i => .new (allOne (ev E x).cells = true ∧ (ev E x).cells.length = i.size) (.box (ev E x).cells) (.ptr nx 0 i.size 0)
    | none => .bad
  | .alloc t => match T.ti t with
    | some i => .new True (.box (i.zero.map fun z => .r (.v z.val))) (.ptr nx 0 i.size 0)
    | none => .bad
  | .build t ps => gbuild T t (ps.toList.map fun p => (p.1, ev E p.2))
  | .buildSlice t len ps => gbuildSlice T t len nx (ps.toList.map fun p => (p.1, ev E p.2))
  | .load t x => gload T t M (ev E x)
  | .store t x y => gstore T t M (ev E x) (ev E y)
  | .nilCheck x => match ev E x with
    | .ptr a b c d => .pure True (.ptr a b c d)
    | .r (.rp a b c d e) => .pure True (.r (.rp a b c d e))
    | .fn f a b => match f with | .func _ => .pure True (.fn f a b) | _ => .bad
    | _ => .bad
  | .binOp op t x y _ => match gbin op (ev E x) (ev E y) with
    | .bad => match op with | .eql => geq T t (ev E x) (ev E y) false | .neq => geq T t (ev E x) (ev E y) true | _ => .bad
    | g => g
  | .unOp op _ x => match op, ev E x with
    | .not, .r (.v (.bool t)) => .pure True (.b (!t))
    | .not, .r (.bx φ) => .pure True (.r (.bx fun t => φ (!t)))
    | .neg, .r (.v (.int k n)) => .pure (inr k (0 - n)) (.r (.v (.int k (0 - n))))
    | _, _ => .bad
  | .convert s d x => match T.ti s, T.ti d, ev E x with
    | some ⟨_, _, _, .int _⟩, some ⟨_, _, _, .int k⟩, .r (.v (.int _ n)) => .pure True (.r (.v (.int k (k.wrap n))))
    | _, _, _ => .bad
  | .makeFunc f fi ca => .pure True (.fn f (fi.toList.map (ev E)) (ca.toList.map (ev E)))
  | .slice t x lo hi mx => gslice T M t (ev E x) (lo.map (ev E)) (hi.map (ev E)) (mx.map (ev E))
  | .fieldAddr t x f => gfield T t (ev E x) f
  | .indexAddr t x i => gindex T t (ev E x) (ev E i)
  | .extract x i => match ev E x with
    | .tup l => match l[i]? with | some s => .pure True s | none => .bad
    | _ => .bad
  | .call c => match c.callee with
    | .builtin b => gbuiltin T b c.argTypes.toList M nx (c.args.toList.map (ev E))
    | .value f => match ev E f with
      | .fn (.func g) fi ca => .call g (fi ++ c.args.toList.map (ev E) ++ ca)
      | .r (.fn (.func g) nf nc fi ca) => .call g (cellsFrom (fun i => .r (fi i)) 0 nf ++ c.args.toList.map (ev E) ++ cellsFrom (fun i => .r (ca i)) 0 nc)
      | _ => .bad
    | _ => .bad
  | _ => .bad

end Go.Gx
/-
  Memory under the operations: a new region, a region with another content, a region that has moved.
-/
set_option linter.unusedVariables false
set_option linter.unusedSimpArgs false
namespace Go.Gx
open Go.RowKit

def upd {α : Type} (f : Nat → α) (k : Nat) (v : α) : Nat → α := fun x => if x = k then v else f x
theorem upd_same {α : Type} (f : Nat → α) (k : Nat) (v : α) : upd f k v k = v := by simp [upd]
theorem upd_ne {α : Type} (f : Nat → α) {k x : Nat} (v : α) (h : x ≠ k) : upd f k v x = f x := by simp [upd, h]

structure FrS (W : Nat → Prop) (n0 : Nat) (w w' : World) : Prop where
  os : w'.os = w.os
  tape : w'.tape = w.tape
  output : w'.output = w.output
  size : w.heap.size ≤ w'.heap.size
  drawn : w.drawn ≤ w'.drawn
  block : ∀ b, b < n0 → ¬ W b → w'.heap[b]? = w.heap[b]?
theorem FrS.refl (W : Nat → Prop) (n0 : Nat) (w : World) : FrS W n0 w w := ⟨rfl, rfl, rfl, Nat.le_refl _, Nat.le_refl _, fun _ _ _ => rfl⟩
theorem FrS.trans {W : Nat → Prop} {n0 : Nat} {a b c : World} (h : FrS W n0 a b) (k : FrS W n0 b c) : FrS W n0 a c :=
  ⟨k.os.trans h.os, k.tape.trans h.tape, k.output.trans h.output, Nat.le_trans h.size k.size, Nat.le_trans h.drawn k.drawn, fun x hx hw => (k.block x hx hw).trans (h.block x hx hw)⟩

section
variable {B W F : Nat → Prop} {n0 : Nat} {σ σ' : Sig} {M : Mem} {nx : Nat} {w w' : World}

theorem heap_lt {b : Nat} {o : Obj} (h : w.heap[b]? = some o) : b < w.heap.size := by
  rcases Nat.lt_or_ge b w.heap.size with h1 | h1
  · exact h1
  · rw [Array.getElem?_eq_none h1] at h; cases h

theorem RegOK.block {Z : Nat → Prop} {L : Loc} {R : Reg} (h : RegOK σ Z w L R) {b : Nat} (hb : L.at_ = some b) : b < w.heap.size := by
  cases R with
  | box l =>
    obtain ⟨b', cs, ty, h1, h2, _⟩ := h
    rw [hb] at h1; cases h1
    exact heap_lt h2
  | vec e k n g =>
    obtain ⟨_, _, h | ⟨b', cs, h1, h2, _⟩⟩ := h
    · rw [hb] at h; cases h.1
    · rw [hb] at h1; cases h1
      exact heap_lt h2
  | kmap kd has val st =>
    obtain ⟨b', es, ck, h1, h2, _⟩ := h
    rw [hb] at h1; cases h1
    exact heap_lt h2
  | iter m f c all left la =>
    obtain ⟨b', mo, seen, sp, h1, h2, _⟩ := h
    rw [hb] at h1; cases h1
    exact heap_lt h2

theorem RegOK.mono {Z Z' : Nat → Prop} {L : Loc} {R : Reg} (hs : SigLe σ σ') (hk : Keep Z Z' w w') (hb : ∀ b, L.at_ = some b → w'.heap[b]? = w.heap[b]?) (h : RegOK σ Z w L R) : RegOK σ' Z' w' L R := by
  cases R with
  | box l =>
    obtain ⟨b', cs, ty, h1, h2, h3, h4⟩ := h
    exact ⟨b', cs, ty, h1, (hb _ h1).trans h2, h3, SV.relL_mono hs hk _ _ h4⟩
  | vec e k n g =>
    obtain ⟨h0, hm, h | ⟨b', cs, h1, h2, h3, ho, h5⟩⟩ := h
    · exact ⟨h0, hm, .inl h⟩
    · refine ⟨h0, hm, .inr ⟨b', cs, h1, (hb _ h1).trans h2, h3, ho, fun i j hi hj => ?_⟩⟩
      obtain ⟨v, hv, ho, hr⟩ := h5 i j hi hj
      exact ⟨v, hv, ho, SV.rel_mono hs hk _ _ hr⟩
  | kmap kd has val st =>
    obtain ⟨b', es, ck, h1, h2, h3, h4⟩ := h
    exact ⟨b', es, ck, h1, (hb _ h1).trans h2, h3.mono fun a v _ hv => SV.rel_mono hs hk _ _ hv, h4⟩
  | iter m f c all left la =>
    obtain ⟨b', mo, seen, sp, h1, h2, h3, h4, h5⟩ := h
    exact ⟨b', mo, seen, sp, h1, (hb _ h1).trans h2, h3, SV.rel_mono hs hk _ _ h4, h5⟩

theorem MOK.notZ (hm : MOK B W n0 σ M F w) {r : Nat} {R : Reg} {L : Loc} {b : Nat} (h1 : M r = some R) (h2 : σ r = some L) (h3 : L.at_ = some b) : ¬ Zof B σ M w b := fun h => h.2 r R L h1 h2 h3

theorem mem_new (hm : MOK B W n0 σ M F w) (hq : F nx) (hn0 : n0 ≤ w.heap.size) (hsz : w.heap.size ≤ w'.heap.size) (hsame : ∀ b, b < w.heap.size → w'.heap[b]? = w.heap[b]?) {L : Loc} {R : Reg}
    (hL : ∀ b, L.at_ = some b → w.heap.size ≤ b)
    (hR : ∀ σ' Z', SigLe σ σ' → Keep (Zof B σ M w) Z' w w' → RegOK σ' Z' w' L R) :
    MOK B W n0 (upd σ nx (some L)) (upd M nx (some R)) (fun r => F r ∧ r ≠ nx) w' ∧ Keep (Zof B σ M w) (Zof B (upd σ nx (some L)) (upd M nx (some R)) w') w w' ∧ SigLe σ (upd σ nx (some L)) := by
  have hs : SigLe σ (upd σ nx (some L)) := by
    intro r L' h
    by_cases hr : r = nx
    · subst hr; rw [hm.fresh r hq] at h; cases h
    · rw [upd_ne _ _ hr]; exact h
  have hk : Keep (Zof B σ M w) (Zof B (upd σ nx (some L)) (upd M nx (some R)) w') w w' := by
    intro b hb
    refine ⟨⟨⟨Nat.lt_of_lt_of_le hb.1.1 hsz, hb.1.2⟩, fun r R' L' h1 h2 h3 => ?_⟩, hsame b hb.1.1⟩
    by_cases hr : r = nx
    · subst hr
      rw [upd_same] at h1 h2
      cases h2
      have := hL b h3
      have := hb.1.1
      omega
    · rw [upd_ne _ _ hr] at h1 h2
      exact hb.2 r R' L' h1 h2 h3
  refine ⟨⟨hm.newB, fun r hr => ?_, fun r R' h => ?_, fun r r' R1 R2 L1 L2 b h1 h2 h3 h4 h5 h6 => ?_, fun r R' L' b h1 h2 h3 => ?_⟩, hk, hs⟩
  · rw [upd_ne _ _ hr.2]; exact hm.fresh r hr.1
  · by_cases hr : r = nx
    · subst hr
      rw [upd_same] at h; cases h
      exact ⟨L, upd_same .., hR _ _ hs hk⟩
    · rw [upd_ne _ _ hr] at h
      obtain ⟨L', h1, h2⟩ := hm.reg r R' h
      exact ⟨L', hs _ _ h1, h2.mono hs hk fun b hb => hsame b (h2.block hb)⟩
  · by_cases hr : r = nx
    · by_cases hr' : r' = nx
      · omega
      · subst hr
        rw [upd_same] at h3; cases h3
        rw [upd_ne _ _ hr'] at h2 h4
        obtain ⟨L', e1, e2⟩ := hm.reg r' R2 h2
        rw [h4] at e1; cases e1
        have h7 := e2.block h6
        have := hL b h5
        omega
    · by_cases hr' : r' = nx
      · subst hr'
        rw [upd_same] at h4; cases h4
        rw [upd_ne _ _ hr] at h1 h3
        obtain ⟨L', e1, e2⟩ := hm.reg r R1 h1
        rw [h3] at e1; cases e1
        have h7 := e2.block h5
        have := hL b h6
        omega
      · rw [upd_ne _ _ hr] at h1 h3
        rw [upd_ne _ _ hr'] at h2 h4
        exact hm.inj r r' R1 R2 L1 L2 b h1 h2 h3 h4 h5 h6
  · by_cases hr : r = nx
    · subst hr
      rw [upd_same] at h2; cases h2
      have := hL b h3
      omega
    · rw [upd_ne _ _ hr] at h1 h2
      exact hm.own r R' L' b h1 h2 h3

theorem mem_set (hm : MOK B W n0 σ M F w) {ref : Nat} {R0 R : Reg} {L : Loc} {b : Nat} (hM : M ref = some R0) (hσ : σ ref = some L) (hb : L.at_ = some b)
    (hsz : w'.heap.size = w.heap.size) (hsame : ∀ x, x ≠ b → w'.heap[x]? = w.heap[x]?)
    (hR : ∀ Z', Keep (Zof B σ M w) Z' w w' → RegOK σ Z' w' L R) :
    MOK B W n0 σ (upd M ref (some R)) F w' ∧ Keep (Zof B σ M w) (Zof B σ (upd M ref (some R)) w') w w' := by
  have hs : SigLe σ σ := fun _ _ h => h
  have hk : Keep (Zof B σ M w) (Zof B σ (upd M ref (some R)) w') w w' := by
    intro x hx
    refine ⟨⟨⟨by rw [hsz]; exact hx.1.1, hx.1.2⟩, fun r R' L' h1 h2 h3 => ?_⟩, hsame x fun e => ?_⟩
    · by_cases hr : r = ref
      · subst hr; exact hx.2 r R0 L' hM h2 h3
      · rw [upd_ne _ _ hr] at h1; exact hx.2 r R' L' h1 h2 h3
    · subst e; exact hm.notZ hM hσ hb hx
  refine ⟨⟨hm.newB, hm.fresh, fun r R' h => ?_, fun r r' R1 R2 L1 L2 x h1 h2 h3 h4 h5 h6 => ?_, fun r R' L' x h1 h2 h3 => ?_⟩, hk⟩
  · by_cases hr : r = ref
    · subst hr
      rw [upd_same] at h; cases h
      exact ⟨L, hσ, hR _ hk⟩
    · rw [upd_ne _ _ hr] at h
      obtain ⟨L', h1, h2⟩ := hm.reg r R' h
      refine ⟨L', h1, h2.mono hs hk fun x hx => hsame x fun e => ?_⟩
      subst e
      exact hr (hm.inj r ref R' R0 L' L x h hM h1 hσ hx hb)
  · have a1 : ∃ R', M r = some R' := by
      by_cases hr : r = ref
      · exact ⟨R0, by rw [hr]; exact hM⟩
      · rw [upd_ne _ _ hr] at h1; exact ⟨_, h1⟩
    have a2 : ∃ R', M r' = some R' := by
      by_cases hr : r' = ref
      · exact ⟨R0, by rw [hr]; exact hM⟩
      · rw [upd_ne _ _ hr] at h2; exact ⟨_, h2⟩
    obtain ⟨R1', a1⟩ := a1
    obtain ⟨R2', a2⟩ := a2
    exact hm.inj r r' R1' R2' L1 L2 x a1 a2 h3 h4 h5 h6
  · by_cases hr : r = ref
    · subst hr; exact hm.own r R0 L' x hM h2 h3
    · rw [upd_ne _ _ hr] at h1; exact hm.own r R' L' x h1 h2 h3

/-! ### a region that has moved -/
mutual
theorem SV.rel_kill {ref : Nat} {Z Z' : Nat → Prop} (hs : ∀ r L, r ≠ ref → σ r = some L → σ' r = some L) (hk : Keep Z Z' w w') : ∀ (s : SV) (y : Value), s.rel σ Z w y → (s.kill ref).rel σ' Z' w' y
  | .r x, y, h => by
    unfold SV.kill
    exact RV.rel_mono hk x y h
  | .ptr q row k fld, y, h => by
    unfold SV.kill
    split
    · trivial
    · rename_i hr
      obtain ⟨L, b, h1, h2, h3⟩ := h
      exact ⟨L, b, hs _ _ hr h1, h2, h3⟩
  | .sl q k lo n c, y, h => by
    unfold SV.kill
    split
    · trivial
    · rename_i hr
      obtain ⟨L, A, h1, h2⟩ := h
      exact ⟨L, A, hs _ _ hr h1, h2⟩
  | .mp q, y, h => by
    unfold SV.kill
    split
    · trivial
    · rename_i hr
      obtain ⟨L, b, h1, h2, h3⟩ := h
      exact ⟨L, b, hs _ _ hr h1, h2, h3⟩
  | .fn f fi ca, y, h => by
    obtain ⟨vs, ws, e, h1, h2⟩ := h
    exact ⟨vs, ws, e, SV.relL_kill hs hk _ _ h1, SV.relL_kill hs hk _ _ h2⟩
  | .agg l, y, h => by
    obtain ⟨vs, e, h1, h2⟩ := h
    exact ⟨vs, e, h1, SV.relL_kill hs hk _ _ h2⟩
  | .tup l, y, h => by
    obtain ⟨vs, e, h2⟩ := h
    exact ⟨vs, e, SV.relL_kill hs hk _ _ h2⟩
theorem SV.relL_kill {ref : Nat} {Z Z' : Nat → Prop} (hs : ∀ r L, r ≠ ref → σ r = some L → σ' r = some L) (hk : Keep Z Z' w w') : ∀ (l : List SV) (ys : List Value), SV.relL σ Z w l ys → SV.relL σ' Z' w' (SV.killL ref l) ys
  | [], ys, h => h
  | s :: l, ys, h => by
    obtain ⟨v, vs', e, h1, h2⟩ := h
    exact ⟨v, vs', e, SV.rel_kill hs hk s v h1, SV.relL_kill hs hk l vs' h2⟩
end

theorem RegOK.kill {ref : Nat} {Z Z' : Nat → Prop} {L : Loc} {R : Reg} (hs : ∀ r L, r ≠ ref → σ r = some L → σ' r = some L) (hk : Keep Z Z' w w') (hb : ∀ b, L.at_ = some b → w'.heap[b]? = w.heap[b]?) (h : RegOK σ Z w L R) : RegOK σ' Z' w' L (R.kill ref) := by
  cases R with
  | box l =>
    obtain ⟨b', cs, ty, h1, h2, h3, h4⟩ := h
    exact ⟨b', cs, ty, h1, (hb _ h1).trans h2, h3, SV.relL_kill hs hk _ _ h4⟩
  | vec e k n g =>
    obtain ⟨h0, hm, h | ⟨b', cs, h1, h2, h3, ho, h5⟩⟩ := h
    · exact ⟨h0, hm, .inl h⟩
    · refine ⟨h0, hm, .inr ⟨b', cs, h1, (hb _ h1).trans h2, h3, ho, fun i j hi hj => ?_⟩⟩
      obtain ⟨v, hv, ho, hr⟩ := h5 i j hi hj
      exact ⟨v, hv, ho, SV.rel_kill hs hk _ _ hr⟩
  | kmap kd has val st =>
    obtain ⟨b', es, ck, h1, h2, h3, h4⟩ := h
    exact ⟨b', es, ck, h1, (hb _ h1).trans h2, h3.mono fun a v _ hv => SV.rel_kill hs hk _ _ hv, h4⟩
  | iter m f c all left la =>
    obtain ⟨b', mo, seen, sp, h1, h2, h3, h4, h5⟩ := h
    exact ⟨b', mo, seen, sp, h1, (hb _ h1).trans h2, h3, SV.rel_kill hs hk _ _ h4, h5⟩

/-- Of region 'ref' the block may be another one now (its own old one, or a new one). -/
theorem mem_app (hm : MOK B W n0 σ M F w) (hn0 : n0 ≤ w.heap.size) {ref : Nat} {R0 R : Reg} {L0 L : Loc} (hM : M ref = some R0) (hσ : σ ref = some L0)
    (hsz : w.heap.size ≤ w'.heap.size) (hsame : ∀ x, x < w.heap.size → L0.at_ ≠ some x → w'.heap[x]? = w.heap[x]?)
    (hL : ∀ b, L.at_ = some b → L0.at_ = some b ∨ w.heap.size ≤ b)
    (hR : ∀ σ' Z', (∀ r L', r ≠ ref → σ r = some L' → σ' r = some L') → Keep (Zof B σ M w) Z' w w' → RegOK σ' Z' w' L R) :
    MOK B W n0 (upd σ ref (some L)) (upd (killM ref M) ref (some R)) F w' ∧ Keep (Zof B σ M w) (Zof B (upd σ ref (some L)) (upd (killM ref M) ref (some R)) w') w w' ∧
    (∀ r L', r ≠ ref → σ r = some L' → upd σ ref (some L) r = some L') := by
  have hs : ∀ r L', r ≠ ref → σ r = some L' → upd σ ref (some L) r = some L' := fun r L' hr h => by rw [upd_ne _ _ hr]; exact h
  have hkm : ∀ r R', killM ref M r = some R' → ∃ R1, M r = some R1 ∧ R' = R1.kill ref := by
    intro r R' h
    unfold killM at h
    cases hq : M r with
    | none => rw [hq] at h; cases h
    | some R1 => rw [hq] at h; cases h; exact ⟨R1, rfl, rfl⟩
  have hk : Keep (Zof B σ M w) (Zof B (upd σ ref (some L)) (upd (killM ref M) ref (some R)) w') w w' := by
    intro x hx
    refine ⟨⟨⟨Nat.lt_of_lt_of_le hx.1.1 hsz, hx.1.2⟩, fun r R' L' h1 h2 h3 => ?_⟩, hsame x hx.1.1 fun e => hm.notZ hM hσ e hx⟩
    by_cases hr : r = ref
    · subst hr
      rw [upd_same] at h2; cases h2
      rcases hL x h3 with h | h
      · exact hm.notZ hM hσ h hx
      · have := hx.1.1; omega
    · rw [upd_ne _ _ hr] at h1 h2
      obtain ⟨R1, e1, _⟩ := hkm r R' h1
      exact hx.2 r R1 L' e1 h2 h3
  refine ⟨⟨hm.newB, fun r hr => by rw [upd_ne _ _ (fun e => by subst e; rw [hm.fresh _ hr] at hσ; cases hσ)]; exact hm.fresh r hr, fun r R' h => ?_, fun r r' R1 R2 L1 L2 x h1 h2 h3 h4 h5 h6 => ?_, fun r R' L' x h1 h2 h3 => ?_⟩, hk, hs⟩
  · by_cases hr : r = ref
    · subst hr
      rw [upd_same] at h; cases h
      exact ⟨L, upd_same .., hR _ _ hs hk⟩
    · rw [upd_ne _ _ hr] at h
      obtain ⟨R1, e1, rfl⟩ := hkm r R' h
      obtain ⟨L', h1, h2⟩ := hm.reg r R1 e1
      refine ⟨L', hs _ _ hr h1, h2.kill hs hk fun x hx => hsame x (h2.block hx) fun e => ?_⟩
      exact hr (hm.inj r ref R1 R0 L' L0 x e1 hM h1 hσ hx e)
  · by_cases hr : r = ref
    · by_cases hr' : r' = ref
      · omega
      · subst hr
        rw [upd_same] at h3; cases h3
        rw [upd_ne _ _ hr'] at h2 h4
        obtain ⟨R3, e1, _⟩ := hkm r' R2 h2
        rcases hL x h5 with h | h
        · exact hm.inj r r' R0 R3 L0 L2 x hM e1 hσ h4 h h6
        · obtain ⟨L', e2, e3⟩ := hm.reg r' R3 e1
          rw [h4] at e2; cases e2
          have := e3.block h6
          omega
    · by_cases hr' : r' = ref
      · subst hr'
        rw [upd_same] at h4; cases h4
        rw [upd_ne _ _ hr] at h1 h3
        obtain ⟨R3, e1, _⟩ := hkm r R1 h1
        rcases hL x h6 with h | h
        · exact hm.inj r r' R3 R0 L1 L0 x e1 hM h3 hσ h5 h
        · obtain ⟨L', e2, e3⟩ := hm.reg r R3 e1
          rw [h3] at e2; cases e2
          have := e3.block h5
          omega
      · rw [upd_ne _ _ hr] at h1 h3
        rw [upd_ne _ _ hr'] at h2 h4
        obtain ⟨R3, e1, _⟩ := hkm r R1 h1
        obtain ⟨R4, e2, _⟩ := hkm r' R2 h2
        exact hm.inj r r' R3 R4 L1 L2 x e1 e2 h3 h4 h5 h6
  · by_cases hr : r = ref
    · subst hr
      rw [upd_same] at h2; cases h2
      rcases hL x h3 with h | h
      · exact hm.own r R0 L0 x hM hσ h
      · right; omega
    · rw [upd_ne _ _ hr] at h1 h2
      obtain ⟨R3, e1, _⟩ := hkm r R' h1
      exact hm.own r R3 L' x e1 h2 h3
end
end Go.Gx
/-
  Each operation does what 'gop' says.
-/
set_option linter.unusedVariables false
set_option linter.unusedSimpArgs false
namespace Go.Gx
open Go.RowKit

def POut (B : Nat → Prop) (σ : Sig) (M : Mem) (w : World) (run : Result Next) (s : SV) : Prop := ∃ y, (run = .ok (.value y) w ∨ (run = .ok .skip w ∧ y = undef)) ∧ s.rel σ (Zof B σ M w) w y

def Snd (P : Program) (B W : Nat → Prop) (n0 : Nat) (σ : Sig) (M : Mem) (F : Nat → Prop) (nx : Nat) (w : World) (run : Result Next) : GR → Prop
  | .bad => True
  | .pure ob s => ob → POut B σ M w run s
  | .new ob R s => ob → ∃ y w' L, run = .ok (.value y) w' ∧ MOK B W n0 (upd σ nx (some L)) (upd M nx (some R)) (fun r => F r ∧ r ≠ nx) w' ∧
      Keep (Zof B σ M w) (Zof B (upd σ nx (some L)) (upd M nx (some R)) w') w w' ∧ s.rel (upd σ nx (some L)) (Zof B (upd σ nx (some L)) (upd M nx (some R)) w') w' y ∧ FrS W n0 w w'
  | .set ob ref R s => ob → ∃ y w', (run = .ok (.value y) w' ∨ (run = .ok .skip w' ∧ y = undef)) ∧ MOK B W n0 σ (upd M ref (some R)) F w' ∧
      Keep (Zof B σ M w) (Zof B σ (upd M ref (some R)) w') w w' ∧ s.rel σ (Zof B σ (upd M ref (some R)) w') w' y ∧ FrS W n0 w w'
  | .app ob ref R s => ob → ∃ y w' L, run = .ok (.value y) w' ∧ MOK B W n0 (upd σ ref (some L)) (upd (killM ref M) ref (some R)) F w' ∧
      Keep (Zof B σ M w) (Zof B (upd σ ref (some L)) (upd (killM ref M) ref (some R)) w') w w' ∧ s.rel (upd σ ref (some L)) (Zof B (upd σ ref (some L)) (upd (killM ref M) ref (some R)) w') w' y ∧ FrS W n0 w w' ∧
      (∀ r L', r ≠ ref → σ r = some L' → upd σ ref (some L) r = some L')
  | .call f args => ∃ vs, SV.relL σ (Zof B σ M w) w args vs ∧ run = (callFunc f vs.toArray).run P w

section
variable {P : Program} {T : Tab} {B W F : Nat → Prop} {n0 : Nat} {σ : Sig} {M : Mem} {nx : Nat} {w : World} {a : Act} {E : Env}

theorem add_none (b o j : Nat) : (⟨b, o, none⟩ : Addr).add j = ⟨b, o + j, none⟩ := by unfold Addr.add; split <;> simp_all

theorem run_loadAt_agg {t : TypeId} {i : TI} (h : tyChk P t i = true) (hg : i.agg = true) {b o : Nat} {cs : List Value} (hl : cs.length = i.size) (hc : ∀ j v, cs[j]? = some v → w.cell? ⟨b, o + j, none⟩ = some v) :
    (Instr.loadAt t (.pointer (some ⟨b, o, none⟩))).run P w = .ok (.agg cs.toArray) w := by
  have h1 := run_loadCells_list (P := P) w ⟨b, o, none⟩ cs (fun j v hv => by rw [add_none]; exact hc j v hv)
  rw [hl] at h1
  simp [Instr.loadAt, Instr.sureAddr, loadVar, run_agg h w, hg, run_size h w, h1]
theorem run_loadAt_one {t : TypeId} {i : TI} (h : tyChk P t i = true) (hg : i.agg = false) {b o : Nat} {v : Value} (hc : w.cell? ⟨b, o, none⟩ = some v) :
    (Instr.loadAt t (.pointer (some ⟨b, o, none⟩))).run P w = .ok v w := by
  simp [Instr.loadAt, Instr.sureAddr, loadVar, run_agg h w, hg, hc]

/-- Cells, one by one, as a list. -/
theorem collect {Z : Nat → Prop} {b : Nat} (g : Nat → SV) : ∀ m o' o, (∀ j, j < m → ∃ v, w.cell? ⟨b, o + j, none⟩ = some v ∧ v.oneCell' = true ∧ (g (o' + j)).rel σ Z w v) →
    ∃ cs : List Value, cs.length = m ∧ (∀ j v, cs[j]? = some v → w.cell? ⟨b, o + j, none⟩ = some v) ∧ (∀ v ∈ cs, v.oneCell' = true) ∧ SV.relL σ Z w (cellsFrom g o' m) cs
  | 0, o', o, _ => ⟨[], rfl, by simp, by simp, rfl⟩
  | m + 1, o', o, h => by
    obtain ⟨v, h1, h2, h3⟩ := h 0 (by omega)
    obtain ⟨cs, e1, e2, e3, e4⟩ := collect g m (o' + 1) (o + 1) (fun j hj => by
      have := h (j + 1) (by omega)
      rwa [show o + (j + 1) = o + 1 + j from by omega, show o' + (j + 1) = o' + 1 + j from by omega] at this)
    refine ⟨v :: cs, by simp [e1], fun j u hu => ?_, fun u hu => ?_, ⟨v, cs, rfl, by simpa using h3, e4⟩⟩
    · cases j with
      | zero => simp at hu; subst hu; simpa using h1
      | succ j => have := e2 j u (by simpa using hu); rwa [show o + 1 + j = o + (j + 1) from by omega] at this
    · simp at hu
      rcases hu with rfl | hu
      · exact h2
      · exact e3 u hu

theorem snd_load (hT : TabOK P T) (hm : MOK B W n0 σ M F w) (t : TypeId) {s : SV} {x : Value} (hx : s.rel σ (Zof B σ M w) w x) :
    Snd P B W n0 σ M F nx w (((Instr.loadAt t x).run P w).andThen fun v w' => .ok (.value v) w') (gload T t M s) := by
  unfold gload
  split
  · trivial
  rename_i i hti
  have hc := hT.ti t i hti
  -- from cells to the load
  have fin : ∀ (b o o' : Nat) (g : Nat → SV), x = .pointer (some ⟨b, o, none⟩) → (∀ j, j < i.size → ∃ v, w.cell? ⟨b, o + j, none⟩ = some v ∧ v.oneCell' = true ∧ (g (o' + j)).rel σ (Zof B σ M w) w v) →
      i.agg = true → POut B σ M w (((Instr.loadAt t x).run P w).andThen fun v w' => .ok (.value v) w') (SV.agg (cellsFrom g o' i.size)) := by
    intro b o o' g e h hg
    obtain ⟨cs, h1, h2, h3, h4⟩ := collect g i.size o' o h
    refine ⟨.agg cs.toArray, .inl ?_, cs, rfl, h3, h4⟩
    rw [e, run_loadAt_agg hc hg h1 h2]; rfl
  have fin1 : ∀ (b o : Nat) (s' : SV) , x = .pointer (some ⟨b, o, none⟩) → (∃ v, w.cell? ⟨b, o, none⟩ = some v ∧ v.oneCell' = true ∧ s'.rel σ (Zof B σ M w) w v) →
      i.agg = false → POut B σ M w (((Instr.loadAt t x).run P w).andThen fun v w' => .ok (.value v) w') s' := by
    intro b o s' e h hg
    obtain ⟨v, h1, h2, h3⟩ := h
    refine ⟨v, .inl ?_, h3⟩
    rw [e, run_loadAt_one hc hg h1]; rfl
  split
  · rename_i ref row k fld
    obtain ⟨L, b, h1, h2, hxx⟩ := hx
    split
    · rename_i l hM
      obtain ⟨L', e1, e2⟩ := hm.reg ref _ hM
      rw [h1] at e1; cases e1
      obtain ⟨b', cs, ty, f1, f2, f3, f4⟩ := e2
      rw [h2] at f1; cases f1
      have hlen := SV.relL_length f4
      have cell : ∀ j, j < l.length → ∃ v, w.cell? ⟨b, j, none⟩ = some v ∧ v.oneCell' = true ∧ (l.getD j (.r .any)).rel σ (Zof B σ M w) w v := by
        intro j hj
        obtain ⟨v, g1, g2⟩ := SV.relL_get f4 j l[j] (List.getElem?_eq_getElem hj)
        refine ⟨v, ?_, f3 v (List.mem_of_getElem? g1), ?_⟩
        · simp [World.cell?, f2, g1]
        · simpa [List.getD, List.getElem?_eq_getElem hj] using g2
      split
      · rename_i hg
        intro ob
        exact fin b (row * k + fld) (row * k + fld) _ hxx (fun j hj => cell _ (by omega)) hg
      · rename_i hg
        intro ob
        exact fin1 b (row * k + fld) _ hxx (cell _ ob) (by simpa using hg)
    · rename_i e k' n get hM
      obtain ⟨L', e1, e2⟩ := hm.reg ref _ hM
      rw [h1] at e1; cases e1
      obtain ⟨f0, fm, f | ⟨b', cs, f1, f2, f3, fo, f5⟩⟩ := e2
      · rw [h2] at f; cases f.1
      rw [h2] at f1; cases f1
      have cell : ∀ i' j, i' < n → j < k' → ∃ v, w.cell? ⟨b, i' * k' + j, none⟩ = some v ∧ v.oneCell' = true ∧ (get i' j).rel σ (Zof B σ M w) w v := by
        intro i' j hi hj
        obtain ⟨v, g1, g0, g2⟩ := f5 i' j hi hj
        exact ⟨v, by simp [World.cell?, f2, g1], g0, g2⟩
      split
      · rename_i hg
        rintro ⟨rfl, ob1, ob2⟩
        refine fin b (row * k' + fld) fld _ hxx (fun j hj => ?_) hg
        have := cell row (fld + j) ob1 (by omega)
        rwa [← Nat.add_assoc] at this
      · rename_i hg
        rintro ⟨rfl, ob1, ob2⟩
        exact fin1 b (row * k' + fld) _ hxx (cell row fld ob1 ob2) (by simpa using hg)
    · trivial
  · rename_i k n get row fld
    obtain ⟨b, o, hxx, hz, hcell⟩ := hx
    split
    · rename_i hg
      rintro ⟨ob1, ob2⟩
      refine fin b (o + (row * k + fld)) fld _ hxx (fun j hj => ?_) hg
      have := hcell row (fld + j) ob1 (by omega)
      rwa [show o + (row * k + (fld + j)) = o + (row * k + fld) + j from by omega] at this
    · rename_i hg
      rintro ⟨ob1, ob2⟩
      exact fin1 b (o + (row * k + fld)) _ hxx (hcell row fld ob1 ob2) (by simpa using hg)
  · trivial

end
end Go.Gx
/-
  Each operation does what 'gop' says: arithmetic, slices, fields, indices, new variables, stores.
-/
set_option linter.unusedVariables false
set_option linter.unusedSimpArgs false
namespace Go.Gx
open Go.RowKit

section
variable {P : Program} {T : Tab} {B W F : Nat → Prop} {n0 : Nat} {σ : Sig} {M : Mem} {nx : Nat} {w : World} {a : Act} {E : Env}

/-- A value's run as an operation's. -/
def vrun (r : Result Value) : Result Next := r.andThen fun v w' => .ok (.value v) w'
theorem vrun_ok (v : Value) (w : World) : vrun (.ok v w) = .ok (.value v) w := rfl

theorem POut.val {s : SV} {y : Value} (h : s.rel σ (Zof B σ M w) w y) : POut B σ M w (.ok (.value y) w) s := ⟨y, .inl rfl, h⟩
theorem POut.of {s : SV} {y : Value} {r : Result Value} (hr : r = .ok y w) (h : s.rel σ (Zof B σ M w) w y) : POut B σ M w (vrun r) s := ⟨y, .inl (by rw [hr]; rfl), h⟩

theorem eqGuard_scalar (op : BinOp) (t : TypeId) (x y : Operand) (u v : Value) (hu : ∀ c, u ≠ .agg c) (hn : u ≠ .nilIface) : (eqGuard op t x y u v).run P w = .ok () w := by
  unfold eqGuard
  by_cases h : (op matches .eql | .neq) = true
  · cases op <;> simp at h <;> (cases u <;> cases v <;> simp_all)
  · cases op <;> simp_all

theorem snd_bin (op : BinOp) (t : TypeId) (ox oy : Operand) {s s' : SV} {x y : Value} (hx : s.rel σ (Zof B σ M w) w x) (hy : s'.rel σ (Zof B σ M w) w y) :
    Snd P B W n0 σ M F nx w (vrun ((do eqGuard op t ox oy x y; binOp op t x y : Sem Value).run P w)) (gbin op s s') := by
  unfold gbin
  split
  all_goals first | trivial | skip
  all_goals (cases hx; cases hy)
  all_goals (intro ob; rw [Sem.run_bind, eqGuard_scalar _ t ox oy _ _ (by simp) (by simp), Result.andThen_ok])
  · exact POut.of (by simp [binOp, Op.shift, ob, Int.not_lt.2 ob]) rfl
  · exact POut.of (by simp [binOp, Op.shift, ob, Int.not_lt.2 ob]) rfl
  · obtain ⟨rfl, h⟩ := ob; exact POut.of (by simp [binOp, Op.intArith, wrap_inr h]) rfl
  · obtain ⟨rfl, h⟩ := ob; exact POut.of (by simp [binOp, Op.intArith, wrap_inr h]) rfl
  · obtain ⟨rfl, h⟩ := ob
    refine POut.of (y := .int _ (if _ = IntKind.u64 then _ else _)) ?_ rfl
    split
    · simp [binOp, Op.intArith]
    · rename_i hk
      simp [binOp, Op.intArith, wrap_inr (h.resolve_left hk)]
  · obtain ⟨rfl, h0, h⟩ := ob; exact POut.of (by simp [binOp, Op.intDiv, h0, wrap_inr h]) rfl
  · obtain ⟨rfl, h0⟩ := ob; exact POut.of (by simp [binOp, Op.intDiv, h0]) rfl
  · subst ob; exact POut.of (by simp [binOp, Op.intBits]) rfl
  · subst ob; exact POut.of (by simp [binOp, Op.intBits]) rfl
  · subst ob; exact POut.of (by simp [binOp, Op.intBits]) rfl
  · subst ob; exact POut.of (by simp [binOp, Op.intBits]) rfl
  · subst ob; exact POut.of (by simp [binOp, Op.intCmp]; rfl) rfl
  · subst ob; exact POut.of (by simp [binOp, Op.intCmp]; rfl) rfl
  · subst ob; exact POut.of (by simp [binOp, Op.intCmp]) rfl
  · subst ob; exact POut.of (by simp [binOp, Op.intCmp]) rfl
  · subst ob; exact POut.of (by simp [binOp, Op.intCmp]) rfl
  · subst ob; exact POut.of (by simp [binOp, Op.intCmp]) rfl

theorem scal_rel {Z : Nat → Prop} : ∀ {cs : List CK} {xs : List SV} {us vs : List Value}, scal cs xs = some us → SV.relL σ Z w xs vs → us = vs ∧ hasL cs vs
  | [], [], us, vs, h, hr => by
    simp [scal] at h; subst h
    cases hr; exact ⟨rfl, rfl⟩
  | [], _ :: _, us, vs, h, hr => by simp [scal] at h
  | c :: cs, [], us, vs, h, hr => by cases c <;> simp [scal] at h
  | .int k :: cs, x :: xs, us, vs, h, hr => by
    obtain ⟨v, vs', rfl, h1, h2⟩ := hr
    cases x with
    | r x => cases x with
      | v x => cases x with
        | int k' n =>
          simp only [scal] at h
          split at h
          · rename_i hk; subst hk
            cases hq : scal cs xs with
            | none => rw [hq] at h; simp at h
            | some l =>
              rw [hq] at h; simp at h; subst h
              obtain ⟨e1, e2⟩ := scal_rel hq h2
              cases h1
              exact ⟨by rw [e1], _, _, rfl, ⟨n, rfl⟩, e2⟩
          · simp at h
        | _ => simp [scal] at h
      | _ => simp [scal] at h
    | _ => simp [scal] at h
  | .bool :: cs, x :: xs, us, vs, h, hr => by
    obtain ⟨v, vs', rfl, h1, h2⟩ := hr
    cases x with
    | r x => cases x with
      | v x => cases x with
        | bool b =>
          simp only [scal] at h
          cases hq : scal cs xs with
          | none => rw [hq] at h; simp at h
          | some l =>
            rw [hq] at h; simp at h; subst h
            obtain ⟨e1, e2⟩ := scal_rel hq h2
            cases h1
            exact ⟨by rw [e1], _, _, rfl, ⟨b, rfl⟩, e2⟩
        | _ => simp [scal] at h
      | _ => simp [scal] at h
    | _ => simp [scal] at h

theorem und_sliceK (hT : TabOK P T) {t : TypeId} (ob : ((T.ti t).map (·.kind)).any (fun | .slice _ => true | _ => false) = true) : ∃ e, P.underlying t = some (.slice e) := by
  cases ht : T.ti t with
  | none => rw [ht] at ob; simp at ob
  | some i =>
    rw [ht] at ob
    simp only [Option.map_some, Option.any_some] at ob
    cases hk : i.kind with
    | slice e => exact ⟨e, und_slice (hT.ti t i ht) hk⟩
    | _ => rw [hk] at ob; simp at ob

theorem run_eq_nil {t e : TypeId} (h : P.underlying t = some (.slice e)) (A : Option Addr) (n c : Nat) : (Op.equal t (.slice A n c) (.slice none 0 0)).run P w = .ok A.isNone w := by
  have key : ∀ d, (Op.equalIn (d + 1) t (.slice A n c) (.slice none 0 0)).run P w = .ok A.isNone w := by
    intro d
    cases A <;> simp [Op.equalIn, run_underlying h]
  exact key 9999

theorem und_mapK (hT : TabOK P T) {t : TypeId} (ob : ((T.ti t).map (·.kind)).any (fun | .map _ _ => true | _ => false) = true) : ∃ k e, P.underlying t = some (.map k e) := by
  cases ht : T.ti t with
  | none => rw [ht] at ob; simp at ob
  | some i =>
    rw [ht] at ob
    simp only [Option.map_some, Option.any_some] at ob
    cases hk : i.kind with
    | map k e => exact ⟨k, e, und_map (hT.ti t i ht) hk⟩
    | _ => rw [hk] at ob; simp at ob
theorem run_eq_nilM {t k e : TypeId} (h : P.underlying t = some (.map k e)) (A : Option Nat) : (Op.equal t (.map A) (.map none)).run P w = .ok A.isNone w := by
  have key : ∀ d, (Op.equalIn (d + 1) t (.map A) (.map none)).run P w = .ok A.isNone w := by
    intro d
    cases A <;> simp [Op.equalIn, run_underlying h]
  exact key 9999
theorem eqGuard_map (op : BinOp) (t : TypeId) (x y : Operand) (A : Option Nat) (v : Value) : (eqGuard op t x y (.map A) v).run P w = .ok () w :=
  eqGuard_scalar op t x y _ _ (by simp) (by simp)

theorem eqGuard_slice (op : BinOp) (t : TypeId) (x y : Operand) (A : Option Addr) (n c : Nat) (v : Value) : (eqGuard op t x y (.slice A n c) v).run P w = .ok () w :=
  eqGuard_scalar op t x y _ _ (by simp) (by simp)

theorem snd_eq (hT : TabOK P T) (neg : Bool) (op : BinOp) (hop : op = if neg then .neq else .eql) (t : TypeId) (ox oy : Operand) {s s' : SV} {x y : Value} (hx : s.rel σ (Zof B σ M w) w x) (hy : s'.rel σ (Zof B σ M w) w y) :
    Snd P B W n0 σ M F nx w (vrun ((do eqGuard op t ox oy x y; binOp op t x y : Sem Value).run P w)) (geq T t s s' neg) := by
  have hb : ∀ (b : Bool), (∀ k n, x ≠ .int k n) → (∀ k n, x ≠ .float k n) → (∀ k n m, x ≠ .complex k n m) → (∀ s, x ≠ .string s) → (Op.equal t x y).run P w = .ok b w → (eqGuard op t ox oy x y).run P w = .ok () w →
      (do eqGuard op t ox oy x y; binOp op t x y : Sem Value).run P w = .ok (.bool (if neg then !b else b)) w := by
    intro b h1 h2 h3 h4 h5 h6
    rw [Sem.run_bind, h6, Result.andThen_ok]
    subst hop
    cases neg <;> cases x <;> simp_all [binOp]
  unfold geq
  split
  · rename_i a b
    cases hx; cases hy
    intro ob
    have hu : P.underlying t = some .bool := by
      cases ht : T.ti t with
      | none => rw [ht] at ob; simp at ob
      | some i => rw [ht] at ob; simp at ob; exact und_bool (hT.ti t i ht) ob
    refine POut.of (hb (a == b) (by simp) (by simp) (by simp) (by simp) (run_equal_bool w t a b hu) (eqGuard_scalar _ _ _ _ _ _ (by simp) (by simp))) ?_
    cases neg <;> simp [SV.rel, RV.rel] <;> rfl
  · rename_i xs ys
    obtain ⟨us, rfl, _, hl⟩ := hx
    obtain ⟨vs, rfl, _, hl'⟩ := hy
    split
    · rename_i cs hcs
      split
      · rename_i us' vs' h1 h2
        obtain ⟨rfl, e1⟩ := scal_rel h1 hl
        obtain ⟨rfl, e2⟩ := scal_rel h2 hl'
        intro _
        have h3 := hT.eq t cs hcs us' vs' w e1 e2
        refine POut.of (hb (eqVL us' vs') (by simp) (by simp) (by simp) (by simp) h3.1 (h3.2 _ _ _)) ?_
        cases neg <;> rfl
      · trivial
    · trivial
  · rename_i k n get
    cases hy
    obtain ⟨A, c, rfl, hc, hA⟩ := hx
    intro ob
    obtain ⟨e, hu⟩ := und_sliceK hT ob
    refine POut.of (hb A.isNone (by simp) (by simp) (by simp) (by simp) (run_eq_nil hu A n c) (eqGuard_slice ..)) ?_
    refine ⟨_, fun h => ?_, rfl⟩
    have h' : A.isNone = true := by cases neg <;> simpa using h
    rcases Nat.eq_zero_or_pos n with h0 | h0
    · exact h0
    · obtain ⟨b, o, e1, _⟩ := hA h0
      rw [e1] at h'; simp at h'
  · rename_i ref k lo n c
    cases hy
    obtain ⟨L, A, h1, rfl, hc, _, hA, _⟩ := hx
    intro ob
    obtain ⟨e, hu⟩ := und_sliceK hT ob
    refine POut.of (hb A.isNone (by simp) (by simp) (by simp) (by simp) (run_eq_nil hu A n _) (eqGuard_slice ..)) ?_
    refine ⟨_, fun h => ?_, rfl⟩
    have h' : A.isNone = true := by cases neg <;> simpa using h
    rcases Nat.eq_zero_or_pos n with h0 | h0
    · exact h0
    · obtain ⟨b, e0, e1⟩ := hA (by omega)
      rw [e1] at h'; simp at h'
  · cases hx; cases hy
    intro ob
    obtain ⟨e, hu⟩ := und_sliceK hT ob
    refine POut.of (hb true (by simp) (by simp) (by simp) (by simp) (run_eq_nil hu none 0 0) (eqGuard_slice ..)) ?_
    cases neg <;> rfl
  · cases hy
    obtain ⟨L, b, g1, g2, rfl⟩ := hx
    intro ob
    obtain ⟨k, e, hu⟩ := und_mapK hT ob
    refine POut.of (hb false (by simp) (by simp) (by simp) (by simp) (run_eq_nilM hu (some b)) (eqGuard_map ..)) ?_
    cases neg <;> rfl
  · cases hx; cases hy
    intro ob
    obtain ⟨k, e, hu⟩ := und_mapK hT ob
    refine POut.of (hb true (by simp) (by simp) (by simp) (by simp) (run_eq_nilM hu none) (eqGuard_map ..)) ?_
    cases neg <;> rfl
  · trivial
end
end Go.Gx
