/-
  Ghost values and ghost memory: what a value and a block of memory are known to be.
  Read-only slices and pointers are values (RV); memory that the call may write is a list of regions (Reg).
-/
import Derived.WalkKit
import Derived.WalkSpells
import Derived.Deep.Draws
set_option linter.unusedVariables false
set_option linter.unusedSimpArgs false
namespace Go.Gx
open Go.RowKit

/-- A value that names no memory of the call's own. -/
inductive RV where
  | any
  | v (x : Value)
  | bx (φ : Bool → Prop)
  | rs (k n : Nat) (get : Nat → Nat → RV)
  | rf (k n : Nat) (get : Nat → Nat → RV)
  | rp (k n : Nat) (get : Nat → Nat → RV) (row fld : Nat)
  | fn (f : Fn) (nf nc : Nat) (fi ca : Nat → RV)

inductive SV where
  | r (x : RV)
  | ptr (ref row k fld : Nat)
  | sl (ref k lo n : Nat) (cap : Option Nat)
  | fn (f : Fn) (fi ca : List SV)
  | agg (l : List SV)
  | tup (l : List SV)

inductive Reg where
  | box (l : List SV)
  | vec (e : TypeId) (k n : Nat) (get : Nat → Nat → RV)

abbrev Mem := Nat → Option Reg
abbrev Env := Nat → SV

structure Loc where
  at_ : Option Nat
  cap : Nat
abbrev Sig := Nat → Option Loc

abbrev SV.i (n : Int) : SV := .r (.v (.int .i64 n))
abbrev SV.b (t : Bool) : SV := .r (.v (.bool t))
abbrev RV.i (n : Int) : RV := .v (.int .i64 n)

def RV.rel (Z : Nat → Prop) (w : World) : RV → Value → Prop
  | .any, _ => True
  | .v x, y => y = x
  | .bx φ, y => ∃ b, φ b ∧ y = .bool b
  | .rs k n get, y => ∃ A c, y = .slice A n c ∧ n ≤ c ∧ (0 < n → ∃ b o, A = some ⟨b, o, none⟩ ∧ Z b ∧ ∀ i j, i < n → j < k →
      ∃ v, w.cell? ⟨b, o + (i * k + j), none⟩ = some v ∧ v.oneCell' = true ∧ (get i j).rel Z w v)
  | .rf k n get, y => ∃ A, y = .slice A n n ∧ (0 < n → ∃ b o, A = some ⟨b, o, none⟩ ∧ Z b ∧ ∀ i j, i < n → j < k →
      ∃ v, w.cell? ⟨b, o + (i * k + j), none⟩ = some v ∧ v.oneCell' = true ∧ (get i j).rel Z w v)
  | .rp k n get row fld, y => ∃ b o, y = .pointer (some ⟨b, o + (row * k + fld), none⟩) ∧ Z b ∧ ∀ i j, i < n → j < k →
      ∃ v, w.cell? ⟨b, o + (i * k + j), none⟩ = some v ∧ v.oneCell' = true ∧ (get i j).rel Z w v
  | .fn f nf nc fi ca, y => ∃ vs ws : List Value, y = .func f vs.toArray ws.toArray ∧ vs.length = nf ∧ ws.length = nc ∧
      (∀ i v, vs[i]? = some v → (fi i).rel Z w v) ∧ (∀ i v, ws[i]? = some v → (ca i).rel Z w v)

mutual
def SV.rel (σ : Sig) (Z : Nat → Prop) (w : World) : SV → Value → Prop
  | .r x, y => x.rel Z w y
  | .ptr ref row k fld, y => ∃ L b, σ ref = some L ∧ L.at_ = some b ∧ y = .pointer (some ⟨b, row * k + fld, none⟩)
  | .sl ref k lo n cap, y => ∃ L A, σ ref = some L ∧ y = .slice A n (cap.getD (L.cap - lo)) ∧ n ≤ cap.getD (L.cap - lo) ∧ lo + cap.getD (L.cap - lo) ≤ L.cap ∧
      (0 < cap.getD (L.cap - lo) → ∃ b, L.at_ = some b ∧ A = some ⟨b, lo * k, none⟩) ∧ (lo = 0 → L.cap = 0 ∨ A = L.at_.map fun b => ⟨b, 0, none⟩)
  | .fn f fi ca, y => ∃ vs ws : List Value, y = .func f vs.toArray ws.toArray ∧ SV.relL σ Z w fi vs ∧ SV.relL σ Z w ca ws
  | .agg l, y => ∃ vs : List Value, y = .agg vs.toArray ∧ (∀ v ∈ vs, v.oneCell' = true) ∧ SV.relL σ Z w l vs
  | .tup l, y => ∃ vs : List Value, y = .tuple vs.toArray ∧ SV.relL σ Z w l vs
def SV.relL (σ : Sig) (Z : Nat → Prop) (w : World) : List SV → List Value → Prop
  | [], vs => vs = []
  | s :: l, vs => ∃ v vs', vs = v :: vs' ∧ s.rel σ Z w v ∧ SV.relL σ Z w l vs'
end

/-- What stays: the immutable blocks. -/
def Keep (Z Z' : Nat → Prop) (w w' : World) : Prop := ∀ b, Z b → Z' b ∧ w'.heap[b]? = w.heap[b]?

theorem cell?_of_heap {w w' : World} {b : Nat} (h : w'.heap[b]? = w.heap[b]?) (o : Nat) : w'.cell? ⟨b, o, none⟩ = w.cell? ⟨b, o, none⟩ := by
  simp only [World.cell?, h]

theorem RV.rel_mono {Z Z' : Nat → Prop} {w w' : World} (hk : Keep Z Z' w w') : ∀ (s : RV) (y : Value), s.rel Z w y → s.rel Z' w' y
  | .any, _, _ => trivial
  | .v x, _, h => h
  | .bx _, _, h => h
  | .rs k n get, y, h => by
    obtain ⟨A, c, e, hc, hn⟩ := h
    refine ⟨A, c, e, hc, fun h0 => ?_⟩
    obtain ⟨b, o, ha, hz, hg⟩ := hn h0
    refine ⟨b, o, ha, (hk b hz).1, fun i j hi hj => ?_⟩
    obtain ⟨v, h1, h2, h3⟩ := hg i j hi hj
    exact ⟨v, by rw [cell?_of_heap (hk b hz).2]; exact h1, h2, RV.rel_mono hk _ _ h3⟩
  | .rf k n get, y, h => by
    obtain ⟨A, e, hn⟩ := h
    refine ⟨A, e, fun h0 => ?_⟩
    obtain ⟨b, o, ha, hz, hg⟩ := hn h0
    refine ⟨b, o, ha, (hk b hz).1, fun i j hi hj => ?_⟩
    obtain ⟨v, h1, h2, h3⟩ := hg i j hi hj
    exact ⟨v, by rw [cell?_of_heap (hk b hz).2]; exact h1, h2, RV.rel_mono hk _ _ h3⟩
  | .rp k n get row fld, y, h => by
    obtain ⟨b, o, ha, hz, hg⟩ := h
    refine ⟨b, o, ha, (hk b hz).1, fun i j hi hj => ?_⟩
    obtain ⟨v, h1, h2, h3⟩ := hg i j hi hj
    exact ⟨v, by rw [cell?_of_heap (hk b hz).2]; exact h1, h2, RV.rel_mono hk _ _ h3⟩
  | .fn f nf nc fi ca, y, h => by
    obtain ⟨vs, ws, e, h1, h2, h3, h4⟩ := h
    exact ⟨vs, ws, e, h1, h2, fun i v hv => RV.rel_mono hk _ _ (h3 i v hv), fun i v hv => RV.rel_mono hk _ _ (h4 i v hv)⟩

def SigLe (σ σ' : Sig) : Prop := ∀ r L, σ r = some L → σ' r = some L

mutual
theorem SV.rel_mono {σ σ' : Sig} {Z Z' : Nat → Prop} {w w' : World} (hs : SigLe σ σ') (hk : Keep Z Z' w w') : ∀ (s : SV) (y : Value), s.rel σ Z w y → s.rel σ' Z' w' y
  | .r x, y, h => RV.rel_mono hk x y h
  | .ptr .., y, h => by
    obtain ⟨L, b, h1, h2, h3⟩ := h
    exact ⟨L, b, hs _ _ h1, h2, h3⟩
  | .sl .., y, h => by
    obtain ⟨L, A, h1, h2⟩ := h
    exact ⟨L, A, hs _ _ h1, h2⟩
  | .fn f fi ca, y, h => by
    obtain ⟨vs, ws, e, h1, h2⟩ := h
    exact ⟨vs, ws, e, SV.relL_mono hs hk _ _ h1, SV.relL_mono hs hk _ _ h2⟩
  | .agg l, y, h => by
    obtain ⟨vs, e, h1, h2⟩ := h
    exact ⟨vs, e, h1, SV.relL_mono hs hk _ _ h2⟩
  | .tup l, y, h => by
    obtain ⟨vs, e, h2⟩ := h
    exact ⟨vs, e, SV.relL_mono hs hk _ _ h2⟩
theorem SV.relL_mono {σ σ' : Sig} {Z Z' : Nat → Prop} {w w' : World} (hs : SigLe σ σ') (hk : Keep Z Z' w w') : ∀ (l : List SV) (ys : List Value), SV.relL σ Z w l ys → SV.relL σ' Z' w' l ys
  | [], ys, h => h
  | s :: l, ys, h => by
    obtain ⟨v, vs', e, h1, h2⟩ := h
    exact ⟨v, vs', e, SV.rel_mono hs hk s v h1, SV.relL_mono hs hk l vs' h2⟩
end

theorem SV.relL_length {σ : Sig} {Z : Nat → Prop} {w : World} : ∀ {l : List SV} {ys : List Value}, SV.relL σ Z w l ys → ys.length = l.length
  | [], ys, h => by cases h; rfl
  | s :: l, ys, h => by
    obtain ⟨v, vs', rfl, _, h2⟩ := h
    simp [SV.relL_length h2]

theorem SV.relL_get {σ : Sig} {Z : Nat → Prop} {w : World} : ∀ {l : List SV} {ys : List Value}, SV.relL σ Z w l ys → ∀ (i : Nat) (s : SV), l[i]? = some s → ∃ y, ys[i]? = some y ∧ s.rel σ Z w y
  | [], ys, h, i, s, hs => by simp at hs
  | s :: l, ys, h, i, t, ht => by
    obtain ⟨v, vs', rfl, h1, h2⟩ := h
    cases i with
    | zero => simp at ht; subst ht; exact ⟨v, by simp, h1⟩
    | succ i => simpa using SV.relL_get h2 i t (by simpa using ht)

theorem SV.relL_mk {σ : Sig} {Z : Nat → Prop} {w : World} : ∀ {l : List SV} {ys : List Value}, ys.length = l.length → (∀ (i : Nat) (s : SV) (y : Value), l[i]? = some s → ys[i]? = some y → s.rel σ Z w y) → SV.relL σ Z w l ys
  | [], ys, h, _ => by simpa [SV.relL] using h
  | s :: l, [], h, _ => by simp at h
  | s :: l, y :: ys, h, H => ⟨y, ys, rfl, H 0 s y rfl rfl, SV.relL_mk (by simpa using h) fun i s' y' h1 h2 => H (i + 1) s' y' (by simpa using h1) (by simpa using h2)⟩

/-- The blocks that no region of the call's own has. -/
def Zof (B : Nat → Prop) (σ : Sig) (M : Mem) (w : World) (b : Nat) : Prop := (b < w.heap.size ∧ B b) ∧ ∀ r R L, M r = some R → σ r = some L → L.at_ ≠ some b

def RegOK (σ : Sig) (Z : Nat → Prop) (w : World) (L : Loc) : Reg → Prop
  | .box l => ∃ (b : Nat) (cs : List Value) (ty : TypeId), L.at_ = some b ∧ w.heap[b]? = some (.cells cs.toArray ty (0, 0)) ∧ (∀ v ∈ cs, v.oneCell' = true) ∧ SV.relL σ Z w l cs
  | .vec e k n get => n ≤ L.cap ∧ L.cap ≤ maxLen ∧ ((L.at_ = none ∧ L.cap = 0) ∨ ∃ (b : Nat) (cs : List Value), L.at_ = some b ∧ w.heap[b]? = some (.cells cs.toArray e (0, 0)) ∧
      cs.length = L.cap * k ∧ (∀ v ∈ cs, v.oneCell' = true) ∧ ∀ i j, i < n → j < k → ∃ v, cs[i * k + j]? = some v ∧ v.oneCell' = true ∧ (get i j).rel Z w v)

/-- Outside of W nothing that was there has turned. -/
structure Fr (W : Nat → Prop) (w0 w : World) : Prop where
  os : w.os = w0.os
  tape : w.tape = w0.tape
  output : w.output = w0.output
  size : w0.heap.size ≤ w.heap.size
  block : ∀ b, b < w0.heap.size → ¬ W b → w.heap[b]? = w0.heap[b]?

/-- The refs from nx on. -/
def From (nx : Nat) : Nat → Prop := fun r => nx ≤ r

structure MOK (B W : Nat → Prop) (n0 : Nat) (σ : Sig) (M : Mem) (F : Nat → Prop) (w : World) : Prop where
  newB : ∀ b, n0 ≤ b ∨ W b → B b
  fresh : ∀ r, F r → σ r = none
  reg : ∀ r R, M r = some R → ∃ L, σ r = some L ∧ RegOK σ (Zof B σ M w) w L R
  inj : ∀ r r' R R' L L' b, M r = some R → M r' = some R' → σ r = some L → σ r' = some L' → L.at_ = some b → L'.at_ = some b → r = r'
  own : ∀ r R L b, M r = some R → σ r = some L → L.at_ = some b → W b ∨ n0 ≤ b

def EOK (σ : Sig) (Z : Nat → Prop) (w : World) (E : Env) (a : Act) : Prop := ∀ t, (E t).rel σ Z w (a.tmps.getD t undef)

theorem Fr.refl (W : Nat → Prop) (w : World) : Fr W w w := ⟨rfl, rfl, rfl, Nat.le_refl _, fun _ _ _ => rfl⟩
theorem Fr.trans {W : Nat → Prop} {a b c : World} (h : Fr W a b) {W' : Nat → Prop} (k : Fr W' b c) (hw : ∀ x, x < a.heap.size → W' x → W x) : Fr W a c :=
  ⟨k.os.trans h.os, k.tape.trans h.tape, k.output.trans h.output, Nat.le_trans h.size k.size,
    fun i hi hw' => (k.block i (Nat.lt_of_lt_of_le hi h.size) (fun h' => hw' (hw i hi h'))).trans (h.block i hi hw')⟩

end Go.Gx
