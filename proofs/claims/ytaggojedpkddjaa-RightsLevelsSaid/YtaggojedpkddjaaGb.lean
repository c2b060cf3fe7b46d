/-
  The table of types that the ghost executor reads, and what each operation gives (no memory written: Gp).
-/
import Derived.Test.YtaggojedpkddjaaGa
set_option linter.unusedVariables false
set_option linter.unusedSimpArgs false
namespace Go.Gx
open Go.RowKit

inductive ZK where
  | i (k : IntKind) | b | s | p | sl | m | f | ifc
def ZK.val : ZK → Value
  | .i k => .int k 0 | .b => .bool false | .s => .string ByteArray.empty | .p => .pointer none | .sl => .slice none 0 0 | .m => .map none | .f => .nilFunc | .ifc => .nilIface
inductive TK where
  | int (k : IntKind) | bool | other
  | struct (fs : List (Nat × Nat × Bool))
  | array (n esz : Nat) (eagg : Bool)
  | slice (e : TypeId)
structure TI where
  size : Nat
  bytes : Nat
  zero : List ZK
  kind : TK
def TI.agg (i : TI) : Bool := match i.kind with | .struct _ | .array .. => true | _ => false
def TI.zeroV (i : TI) : Value := if i.agg then .agg (i.zero.map ZK.val).toArray else match i.zero with | z :: _ => z.val | [] => undef

def veq1 : Value → Value → Bool
  | .int k n, .int k' n' => decide (k = k') && decide (n = n')
  | .bool a, .bool b => decide (a = b)
  | .string s, .string t => decide (s = t)
  | .pointer none, .pointer none => true
  | .slice none a b, .slice none c d => decide (a = c) && decide (b = d)
  | .map none, .map none => true
  | .nilFunc, .nilFunc => true
  | .nilIface, .nilIface => true
  | _, _ => false
theorem veq1_eq {x y : Value} (h : veq1 x y = true) : x = y := by
  unfold veq1 at h
  split at h <;> simp_all
def veqL : List Value → List Value → Bool
  | [], [] => true
  | x :: xs, y :: ys => veq1 x y && veqL xs ys
  | _, _ => false
theorem veqL_eq : ∀ {x y : List Value}, veqL x y = true → x = y
  | [], [], _ => rfl
  | [], _ :: _, h => by simp [veqL] at h
  | _ :: _, [], h => by simp [veqL] at h
  | x :: xs, y :: ys, h => by
    simp only [veqL, Bool.and_eq_true] at h
    rw [veq1_eq h.1, veqL_eq h.2]
def veq : Value → Value → Bool
  | .agg xs, .agg ys => veqL xs.toList ys.toList
  | x, y => veq1 x y
theorem veq_eq {x y : Value} (h : veq x y = true) : x = y := by
  unfold veq at h
  split at h
  · have := veqL_eq h
    congr 1
    exact Array.ext' this
  · exact veq1_eq h

def aggOf (P : Program) (t : TypeId) (g : Bool) : Bool := match P.underlying t with | some (.struct _) | some (.array ..) => g | some _ => !g | none => false
def sizeIs (P : Program) (t : TypeId) (s : Nat) : Bool := match P.info? t with | some i => i.size == s | none => false
def fchk (P : Program) : List Field → List (Nat × Nat × Bool) → Bool
  | [], [] => true
  | f :: fs, (o, s, g) :: l => decide (f.offset = o) && sizeIs P f.type s && aggOf P f.type g && fchk P fs l
  | _, _ => false
def kchk (P : Program) : Option TypeDesc → TK → Bool
  | some (.int k), .int k' => decide (k = k')
  | some .bool, .bool => true
  | some (.struct fa), .struct fs => fchk P fa.toList fs
  | some (.array n e), .array n' s g => decide (n = n') && sizeIs P e s && aggOf P e g
  | some (.slice e), .slice e' => decide (e = e')
  | some d, .other => match d with | .struct _ | .array .. => false | _ => true
  | _, _ => false
def tyChk (P : Program) (t : TypeId) (i : TI) : Bool :=
  (match P.info? t with
  | none => false
  | some ti => decide (ti.size = i.size) && decide (ti.bytes = i.bytes) && (match ti.zero with | some z => veq z i.zeroV | none => false)) && kchk P (P.underlying t) i.kind && decide (i.zero.length = i.size) && (i.agg || decide (i.size = 1))

inductive CK where
  | int (k : IntKind) | bool
def CK.has : CK → Value → Prop
  | .int k, v => ∃ n, v = .int k n
  | .bool, v => ∃ b, v = .bool b
def hasL : List CK → List Value → Prop
  | [], l => l = []
  | c :: cs, l => ∃ v l', l = v :: l' ∧ c.has v ∧ hasL cs l'
def eqV : Value → Value → Bool
  | .int _ a, .int _ b => decide (a = b)
  | .bool a, .bool b => decide (a = b)
  | _, _ => false
def eqVL : List Value → List Value → Bool
  | [], [] => true
  | x :: xs, y :: ys => eqV x y && eqVL xs ys
  | _, _ => false

structure Tab where
  ti : TypeId → Option TI
  eq : TypeId → Option (List CK)

structure TabOK (P : Program) (T : Tab) : Prop where
  ti : ∀ t i, T.ti t = some i → tyChk P t i = true
  eq : ∀ t cs, T.eq t = some cs → ∀ (xs ys : List Value) (w : World), hasL cs xs → hasL cs ys →
    (Op.equal t (.agg xs.toArray) (.agg ys.toArray)).run P w = .ok (eqVL xs ys) w ∧
    (∀ (op : BinOp) (x y : Operand), (eqGuard op t x y (.agg xs.toArray) (.agg ys.toArray)).run P w = .ok () w)

section
variable {P : Program} {T : Tab} {t : TypeId} {i : TI}
theorem ti_info (h : tyChk P t i = true) : ∃ ti, P.info? t = some ti ∧ ti.size = i.size ∧ ti.bytes = i.bytes ∧ ti.zero = some i.zeroV := by
  unfold tyChk at h
  simp only [Bool.and_eq_true] at h
  obtain ⟨⟨⟨h, _⟩, _⟩, _⟩ := h
  split at h
  · simp at h
  · rename_i ti hti
    simp only [Bool.and_eq_true, decide_eq_true_eq] at h
    obtain ⟨⟨h1, h2⟩, h3⟩ := h
    split at h3
    · rename_i z hz
      exact ⟨ti, hti, h1, h2, by rw [hz, veq_eq h3]⟩
    · simp at h3
theorem ti_kind (h : tyChk P t i = true) : kchk P (P.underlying t) i.kind = true := by
  unfold tyChk at h
  simp only [Bool.and_eq_true] at h
  exact h.1.1.2
theorem ti_one (h : tyChk P t i = true) (hg : i.agg = false) : i.size = 1 := by
  unfold tyChk at h
  simp only [Bool.and_eq_true, Bool.or_eq_true, decide_eq_true_eq, hg] at h
  simpa using h.2
theorem ti_len (h : tyChk P t i = true) : i.zero.length = i.size := by
  unfold tyChk at h
  simp only [Bool.and_eq_true, decide_eq_true_eq] at h
  exact h.1.2
theorem ZK.val_one (z : ZK) : z.val.oneCell' = true := by cases z <;> rfl
theorem ZK.val_cells (z : ZK) : z.val.cells = #[z.val] := by cases z <;> rfl
theorem zeroV_cells (h : tyChk P t i = true) : i.zeroV.cells.toList = i.zero.map ZK.val := by
  unfold TI.zeroV
  by_cases hg : i.agg = true
  · simp [hg, Value.cells]
  · have h1 := ti_one h (by simpa using hg)
    have h2 := ti_len h
    rw [h1] at h2
    match hz : i.zero, h2 with
    | [z], _ => simp [hg, ZK.val_cells]
theorem run_zero (h : tyChk P t i = true) (w : World) : (zeroValue t).run P w = .ok i.zeroV w := by
  obtain ⟨ti, h1, _, _, h4⟩ := ti_info h
  simp [zeroValue, typeInfo, h1, h4]
theorem run_size (h : tyChk P t i = true) (w : World) : (sizeOf t).run P w = .ok i.size w := by
  obtain ⟨ti, h1, h2, _⟩ := ti_info h
  simp [sizeOf, typeInfo, h1, h2]
theorem run_tinfo (h : tyChk P t i = true) (w : World) : ∃ ti, (typeInfo t).run P w = .ok ti w ∧ ti.bytes = i.bytes ∧ ti.size = i.size := by
  obtain ⟨ti, h1, h2, h3, _⟩ := ti_info h
  exact ⟨ti, by simp [typeInfo, h1], h3, h2⟩
theorem run_sizeIs {s : Nat} (h : sizeIs P t s = true) (w : World) : (sizeOf t).run P w = .ok s w := by
  unfold sizeIs at h
  split at h
  · rename_i ti hti
    simp at h
    simp [sizeOf, typeInfo, hti, h]
  · simp at h
theorem run_aggOf {g : Bool} (h : aggOf P t g = true) (w : World) : (isAgg t).run P w = .ok g w := by
  unfold aggOf at h
  split at h
  · rename_i hu; subst h; simp [isAgg, run_underlying hu]
  · rename_i hu; subst h; simp [isAgg, run_underlying hu]
  · rename_i d h1 h2 hu
    have hg : g = false := by simpa using h
    unfold isAgg
    rw [Sem.run_bind, run_underlying ‹_›, hg]
    cases d <;> first | rfl | (exact absurd rfl (h1 _)) | (exact absurd rfl (h2 _ _))
  · simp at h
theorem und_some (h : tyChk P t i = true) : ∃ d, P.underlying t = some d := by
  have := ti_kind h
  unfold kchk at this
  split at this <;> first | (exact ⟨_, by assumption⟩) | simp_all
theorem run_agg (h : tyChk P t i = true) (w : World) : (isAgg t).run P w = .ok i.agg w := by
  have hk := ti_kind h
  unfold kchk at hk
  split at hk
  · rename_i hu hk'; simp [isAgg, run_underlying hu, TI.agg, hk']
  · rename_i hu hk'; simp [isAgg, run_underlying hu, TI.agg, hk']
  · rename_i hu hk'; simp [isAgg, run_underlying hu, TI.agg, hk']
  · rename_i hu hk'; simp [isAgg, run_underlying hu, TI.agg, hk']
  · rename_i hu hk'; simp [isAgg, run_underlying hu, TI.agg, hk']
  · rename_i d hu hk'
    have hu' : P.underlying t = some d := by assumption
    unfold isAgg
    rw [Sem.run_bind, run_underlying hu']
    cases d <;> simp_all [TI.agg]
  · simp at hk
theorem und_slice {e : TypeId} (h : tyChk P t i = true) (hk : i.kind = .slice e) : P.underlying t = some (.slice e) := by
  have := ti_kind h
  rw [hk] at this
  unfold kchk at this
  split at this <;> simp_all
theorem und_int {k : IntKind} (h : tyChk P t i = true) (hk : i.kind = .int k) : P.underlying t = some (.int k) := by
  have := ti_kind h
  rw [hk] at this
  unfold kchk at this
  split at this <;> simp_all
theorem und_bool (h : tyChk P t i = true) (hk : i.kind = .bool) : P.underlying t = some .bool := by
  have := ti_kind h
  rw [hk] at this
  unfold kchk at this
  split at this <;> simp_all
theorem und_array {n s : Nat} {g : Bool} (h : tyChk P t i = true) (hk : i.kind = .array n s g) : ∃ e, P.underlying t = some (.array n e) ∧ sizeIs P e s = true ∧ aggOf P e g = true := by
  have := ti_kind h
  rw [hk] at this
  unfold kchk at this
  split at this <;> simp_all
theorem fchk_get : ∀ {fs : List Field} {l : List (Nat × Nat × Bool)}, fchk P fs l = true → fs.length = l.length ∧ ∀ (j o s : Nat) (g : Bool), l[j]? = some (o, s, g) → ∃ f : Field, fs[j]? = some f ∧ f.offset = o ∧ sizeIs P f.type s = true ∧ aggOf P f.type g = true
  | [], [], _ => ⟨rfl, by simp⟩
  | [], _ :: _, h => by simp [fchk] at h
  | _ :: _, [], h => by simp [fchk] at h
  | f :: fs, (o, s, g) :: l, h => by
    simp only [fchk, Bool.and_eq_true, decide_eq_true_eq] at h
    obtain ⟨⟨⟨h1, h2⟩, h3⟩, h4⟩ := h
    obtain ⟨hl, hg⟩ := fchk_get h4
    refine ⟨by simp [hl], fun j o' s' g' hj => ?_⟩
    cases j with
    | zero => simp at hj; obtain ⟨rfl, rfl, rfl⟩ := hj; exact ⟨f, by simp, h1, h2, h3⟩
    | succ j => simpa using hg j o' s' g' (by simpa using hj)
theorem und_struct {fs : List (Nat × Nat × Bool)} (h : tyChk P t i = true) (hk : i.kind = .struct fs) : ∃ fa : Array Field, P.underlying t = some (.struct fa) ∧ fa.size = fs.length ∧
    ∀ (j o s : Nat) (g : Bool), fs[j]? = some (o, s, g) → ∃ f : Field, fa[j]? = some f ∧ f.offset = o ∧ sizeIs P f.type s = true ∧ aggOf P f.type g = true := by
  have := ti_kind h
  rw [hk] at this
  cases hu : P.underlying t with
  | none => rw [hu] at this; simp [kchk] at this
  | some d =>
    rw [hu] at this
    cases d with
    | struct fa =>
      obtain ⟨h1, h2⟩ := fchk_get (show fchk P fa.toList fs = true from this)
      exact ⟨fa, rfl, by simpa using h1, fun j o s g hj => by simpa using h2 j o s g hj⟩
    | _ => simp [kchk] at this
end

/-! ### integers -/
def inr (k : IntKind) (n : Int) : Prop := match k with
  | .i8 => -128 ≤ n ∧ n ≤ 127 | .i16 => -32768 ≤ n ∧ n ≤ 32767 | .i32 => -2147483648 ≤ n ∧ n ≤ 2147483647 | .i64 => -9223372036854775808 ≤ n ∧ n ≤ 9223372036854775807
  | .u8 => 0 ≤ n ∧ n ≤ 255 | .u16 => 0 ≤ n ∧ n ≤ 65535 | .u32 => 0 ≤ n ∧ n ≤ 4294967295 | .u64 => 0 ≤ n ∧ n ≤ 18446744073709551615
theorem wrap_inr {k : IntKind} {n : Int} (h : inr k n) : k.wrap n = n := by
  cases k <;> simp only [inr] at h <;> simp only [IntKind.wrap, IntKind.bits, IntKind.signed] <;> simp <;> omega

/-! ### what an operand is -/
def ev (E : Env) : Operand → SV
  | .tmp t => E t
  | .const v => .r (.v v)
  | .global _ => .r .any
  | .func f => .fn (.func f) [] []
theorem ev_rel {σ : Sig} {Z : Nat → Prop} {w : World} {E : Env} {a : Act} (he : EOK σ Z w E a) (x : Operand) : (ev E x).rel σ Z w (a.eval x) := by
  cases x with
  | tmp t => exact he t
  | const v => rfl
  | global g => trivial
  | func f => exact ⟨[], [], rfl, rfl, rfl⟩

def SV.one : SV → Bool
  | .r (.v x) => x.oneCell'
  | .r .any => false
  | .r _ => true
  | .agg _ | .tup _ => false
  | _ => true
theorem SV.one_rel {σ : Sig} {Z : Nat → Prop} {w : World} {s : SV} {y : Value} (h1 : s.one = true) (h : s.rel σ Z w y) : y.oneCell' = true := by
  unfold SV.one at h1
  split at h1
  · cases h; exact h1
  · simp at h1
  · rename_i x _ _
    cases x with
    | any => simp_all
    | v x => simp_all
    | bx φ => obtain ⟨b, _, rfl⟩ := h; rfl
    | rs k n g => obtain ⟨A, c, rfl, _⟩ := h; rfl
    | rf k n g => obtain ⟨A, rfl, _⟩ := h; rfl
    | rp k n g r f => obtain ⟨b, o, rfl, _⟩ := h; rfl
    | fn f a b c d => obtain ⟨vs, ws, rfl, _⟩ := h; rfl
  · simp at h1
  · simp at h1
  · cases s with
    | r x => simp_all
    | ptr => obtain ⟨L, b, _, _, rfl⟩ := h; rfl
    | sl => obtain ⟨L, b, _, rfl, _⟩ := h; rfl
    | fn => obtain ⟨vs, ws, rfl, _⟩ := h; rfl
    | agg => simp_all
    | tup => simp_all
def SV.cells : SV → List SV
  | .agg l => l
  | s => [s]
def allOne : List SV → Bool
  | [] => true
  | s :: l => s.one && allOne l
theorem cells_rel {σ : Sig} {Z : Nat → Prop} {w : World} {s : SV} {y : Value} (h : s.rel σ Z w y) (h1 : allOne s.cells = true) :
    SV.relL σ Z w s.cells y.cells.toList ∧ ∀ v ∈ y.cells.toList, v.oneCell' = true := by
  cases s with
  | agg l =>
    obtain ⟨vs, rfl, ho, hl⟩ := h
    exact ⟨by simpa [SV.cells, Value.cells] using hl, by simpa [Value.cells] using ho⟩
  | tup l => simp [SV.cells, allOne, SV.one] at h1
  | _ =>
    have ho := SV.one_rel (by simpa [SV.cells, allOne] using h1) h
    have hc : y.cells = #[y] := by cases y <;> simp_all [Value.cells, Value.oneCell']
    rw [hc]
    exact ⟨⟨y, [], rfl, h, rfl⟩, by simpa using ho⟩

/-- A list of cells out of a row. -/
def cellsFrom (g : Nat → SV) (o : Nat) : Nat → List SV
  | 0 => []
  | n + 1 => g o :: cellsFrom g (o + 1) n
theorem cellsFrom_length (g : Nat → SV) : ∀ n o, (cellsFrom g o n).length = n
  | 0, _ => rfl
  | n + 1, o => by simp [cellsFrom, cellsFrom_length g n]
theorem cellsFrom_get (g : Nat → SV) : ∀ n o j, j < n → (cellsFrom g o n)[j]? = some (g (o + j))
  | 0, _, _, h => by omega
  | n + 1, o, 0, _ => by simp [cellsFrom]
  | n + 1, o, j + 1, h => by
    simp only [cellsFrom, List.getElem?_cons_succ]
    rw [cellsFrom_get g n (o + 1) j (by omega)]
    congr 2; omega

end Go.Gx
