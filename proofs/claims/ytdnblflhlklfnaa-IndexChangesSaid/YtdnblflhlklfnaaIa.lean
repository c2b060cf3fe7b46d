/-
  Words: how machine integers read as bit vectors; library functions on bits.
-/
import Derived.Test.YtdnblflhlklfnaaTt
import Derived.Test.YtdnblflhlklfnaaKr
import Derived.Lib.BitFns
set_option linter.unusedVariables false
set_option linter.unusedSimpArgs false
set_option maxRecDepth 20000
set_option maxHeartbeats 2000000
namespace Go.Gx.Ix
open Go.RowKit Go.Proofs Go.Proofs.Ytdnblflhlklfnaa

abbrev _root_.Go.Gx.RV.w (x : BitVec 64) : RV := .v (.int .u64 x.toNat)
abbrev _root_.Go.Gx.SV.w (x : BitVec 64) : SV := .r (.w x)
abbrev _root_.Go.Gx.SV.h (x : BitVec 16) : SV := .r (.v (.int .u16 x.toNat))
abbrev _root_.Go.Gx.RV.y (x : BitVec 8) : RV := .v (.int .u8 x.toNat)
abbrev _root_.Go.Gx.SV.y (x : BitVec 8) : SV := .r (.y x)

@[go_sem] theorem wrap_u64 (z : BitVec 64) : IntKind.u64.wrap (z.toNat : Int) = z.toNat := by
  have := z.isLt
  simp only [IntKind.wrap, IntKind.bits, IntKind.signed]; simp; omega
@[go_sem] theorem wrap_u16 (z : BitVec 16) : IntKind.u16.wrap (z.toNat : Int) = z.toNat := by
  have := z.isLt
  simp only [IntKind.wrap, IntKind.bits, IntKind.signed]; simp; omega
@[go_sem] theorem wrap_u8 (z : BitVec 8) : IntKind.u8.wrap (z.toNat : Int) = z.toNat := by
  have := z.isLt
  simp only [IntKind.wrap, IntKind.bits, IntKind.signed]; simp; omega
theorem toNat_inj {n : Nat} (x y : BitVec n) : ((x.toNat : Int) = y.toNat) ↔ x = y := by
  constructor
  · intro h; exact BitVec.eq_of_toNat_eq (by omega)
  · rintro rfl; rfl
theorem toNat_zero {n : Nat} (x : BitVec n) : x.toNat = 0 ↔ x = 0#n := by
  constructor
  · intro h; exact BitVec.eq_of_toNat_eq (by simpa using h)
  · rintro rfl; rfl

/-- Shifts and changes of width, kept closed. -/
def shr64 (x : BitVec 64) (n : Nat) : BitVec 64 := x >>> n
def shl64 (x : BitVec 64) (n : Nat) : BitVec 64 := x <<< n
def shr16 (x : BitVec 16) (n : Nat) : BitVec 16 := x >>> n
def shl16 (x : BitVec 16) (n : Nat) : BitVec 16 := x <<< n
def to16 (x : BitVec 64) : BitVec 16 := x.setWidth 16
def to8 (x : BitVec 64) : BitVec 8 := x.setWidth 8
def up64 (x : BitVec 16) : BitVec 64 := x.setWidth 64
def and64 (x y : BitVec 64) : BitVec 64 := x &&& y
def or64 (x y : BitVec 64) : BitVec 64 := x ||| y
def xor64 (x y : BitVec 64) : BitVec 64 := x ^^^ y
def andn64 (x y : BitVec 64) : BitVec 64 := x &&& ~~~y
def add64 (x y : BitVec 64) : BitVec 64 := x + y
def fits64 (x y : BitVec 64) : Prop := x.toNat + y.toNat < 18446744073709551616
def or16 (x y : BitVec 16) : BitVec 16 := x ||| y
def and8 (x y : BitVec 8) : BitVec 8 := x &&& y
def xor8 (x y : BitVec 8) : BitVec 8 := x ^^^ y
theorem gand_u64 (a b : Int) : gbin .and (.r (.v (.int .u64 a))) (.r (.v (.int .u64 b))) = .pure True (.w (and64 (BitVec.ofInt 64 a) (BitVec.ofInt 64 b))) := by
  show GR.pure _ (.r (.v (.int .u64 (IntKind.u64.wrap ((BitVec.ofInt 64 a &&& BitVec.ofInt 64 b).toNat : Int))))) = _
  rw [wrap_u64]; simp; rfl
theorem gor_u64 (a b : Int) : gbin .or (.r (.v (.int .u64 a))) (.r (.v (.int .u64 b))) = .pure True (.w (or64 (BitVec.ofInt 64 a) (BitVec.ofInt 64 b))) := by
  show GR.pure _ (.r (.v (.int .u64 (IntKind.u64.wrap ((BitVec.ofInt 64 a ||| BitVec.ofInt 64 b).toNat : Int))))) = _
  rw [wrap_u64]; simp; rfl
theorem gxor_u64 (a b : Int) : gbin .xor (.r (.v (.int .u64 a))) (.r (.v (.int .u64 b))) = .pure True (.w (xor64 (BitVec.ofInt 64 a) (BitVec.ofInt 64 b))) := by
  show GR.pure _ (.r (.v (.int .u64 (IntKind.u64.wrap ((BitVec.ofInt 64 a ^^^ BitVec.ofInt 64 b).toNat : Int))))) = _
  rw [wrap_u64]; simp; rfl
theorem gandNot_u64 (a b : Int) : gbin .andNot (.r (.v (.int .u64 a))) (.r (.v (.int .u64 b))) = .pure True (.w (andn64 (BitVec.ofInt 64 a) (BitVec.ofInt 64 b))) := by
  show GR.pure _ (.r (.v (.int .u64 (IntKind.u64.wrap ((andn64 (BitVec.ofInt 64 a) (BitVec.ofInt 64 b)).toNat : Int))))) = _
  rw [wrap_u64]; simp
theorem gor_u16 (a b : Int) : gbin .or (.r (.v (.int .u16 a))) (.r (.v (.int .u16 b))) = .pure True (.h (or16 (BitVec.ofInt 16 a) (BitVec.ofInt 16 b))) := by
  show GR.pure _ (.r (.v (.int .u16 (IntKind.u16.wrap ((BitVec.ofInt 16 a ||| BitVec.ofInt 16 b).toNat : Int))))) = _
  rw [wrap_u16]; simp; rfl
theorem gand_u8 (a b : Int) : gbin .and (.r (.v (.int .u8 a))) (.r (.v (.int .u8 b))) = .pure True (.y (and8 (BitVec.ofInt 8 a) (BitVec.ofInt 8 b))) := by
  show GR.pure _ (.r (.v (.int .u8 (IntKind.u8.wrap ((BitVec.ofInt 8 a &&& BitVec.ofInt 8 b).toNat : Int))))) = _
  rw [wrap_u8]; simp; rfl
theorem gxor_u8 (a b : Int) : gbin .xor (.r (.v (.int .u8 a))) (.r (.v (.int .u8 b))) = .pure True (.y (xor8 (BitVec.ofInt 8 a) (BitVec.ofInt 8 b))) := by
  show GR.pure _ (.r (.v (.int .u8 (IntKind.u8.wrap ((BitVec.ofInt 8 a ^^^ BitVec.ofInt 8 b).toNat : Int))))) = _
  rw [wrap_u8]; simp; rfl
def andI (a b : Int) : Int := IntKind.i64.wrap ((BitVec.ofInt 64 a &&& BitVec.ofInt 64 b).toNat : Nat)
theorem gand_i64 (a b : Int) : gbin .and (.r (.v (.int .i64 a))) (.r (.v (.int .i64 b))) = .pure True (.r (.v (.int .i64 (andI a b)))) := by
  show GR.pure _ (.r (.v (.int .i64 (andI a b)))) = _
  simp
theorem gadd_u64 (x y : BitVec 64) : gbin .add (.r (.v (.int .u64 x.toNat))) (.r (.v (.int .u64 y.toNat))) = .pure (IntKind.u64 = IntKind.u64 ∧ inr .u64 ((x.toNat : Int) + y.toNat)) (.r (.v (.int .u64 ((x.toNat : Int) + y.toNat)))) := rfl
theorem wrap_nat64 (a : Nat) : IntKind.u64.wrap (a : Int) = (BitVec.ofNat 64 a).toNat := by
  simp [IntKind.wrap, IntKind.bits, IntKind.signed]
theorem wrap_nat16 (a : Nat) : IntKind.u16.wrap (a : Int) = (BitVec.ofNat 16 a).toNat := by
  simp [IntKind.wrap, IntKind.bits, IntKind.signed]
theorem shl_min {w : Nat} (x n : Nat) : x * 2 ^ min n w % 2 ^ w = x <<< n % 2 ^ w := by
  rw [Nat.shiftLeft_eq]
  rcases Nat.le_total n w with h | h
  · rw [Nat.min_eq_left h]
  · rw [Nat.min_eq_right h]
    have h2 : 2 ^ n = 2 ^ (n - w) * 2 ^ w := by rw [← Nat.pow_add]; congr 1; omega
    rw [h2, ← Nat.mul_assoc]; simp
theorem gshl_u64 (x : BitVec 64) (k : IntKind) (b : Int) : gbin .shl (.r (.v (.int .u64 x.toNat))) (.r (.v (.int k b))) = .pure (0 ≤ b) (.w (shl64 x b.toNat)) := by
  show GR.pure _ (.r (.v (.int .u64 (IntKind.u64.wrap (((x.toNat : Int) * 2 ^ min b.toNat 64)))))) = _
  have h : IntKind.u64.wrap ((x.toNat : Int) * 2 ^ min b.toNat 64) = ((shl64 x b.toNat).toNat : Int) := by
    rw [show ((x.toNat : Int) * 2 ^ min b.toNat 64) = ((x.toNat * 2 ^ min b.toNat 64 : Nat) : Int) from by simp, wrap_nat64]
    simp only [BitVec.toNat_ofNat, shl64, BitVec.toNat_shiftLeft]
    exact congrArg _ (shl_min (w := 64) _ _)
  rw [h]
theorem gshl_u16 (x : BitVec 16) (k : IntKind) (b : Int) : gbin .shl (.r (.v (.int .u16 x.toNat))) (.r (.v (.int k b))) = .pure (0 ≤ b) (.h (shl16 x b.toNat)) := by
  show GR.pure _ (.r (.v (.int .u16 (IntKind.u16.wrap (((x.toNat : Int) * 2 ^ min b.toNat 16)))))) = _
  have h : IntKind.u16.wrap ((x.toNat : Int) * 2 ^ min b.toNat 16) = ((shl16 x b.toNat).toNat : Int) := by
    rw [show ((x.toNat : Int) * 2 ^ min b.toNat 16) = ((x.toNat * 2 ^ min b.toNat 16 : Nat) : Int) from by simp, wrap_nat16]
    simp only [BitVec.toNat_ofNat, shl16, BitVec.toNat_shiftLeft]
    exact congrArg _ (shl_min (w := 16) _ _)
  rw [h]
theorem fdiv_nat (a n : Nat) : ((a : Int)).fdiv (2 ^ n) = ((a / 2 ^ n : Nat) : Int) := by
  rw [Int.fdiv_eq_ediv_of_nonneg _ (Int.le_of_lt (Int.pow_pos (by decide)))]
  simp
theorem shr_min {w x n : Nat} (hx : x < 2 ^ w) : x / 2 ^ min n w = x >>> n := by
  rw [Nat.shiftRight_eq_div_pow]
  rcases Nat.le_total n w with h | h
  · rw [Nat.min_eq_left h]
  · rw [Nat.min_eq_right h, Nat.div_eq_of_lt hx, Nat.div_eq_of_lt (Nat.lt_of_lt_of_le hx (Nat.pow_le_pow_right (by decide) h))]
theorem fdiv_w (x : BitVec 64) (n : Nat) : ((x.toNat : Int)).fdiv (2 ^ min n 64) = (shr64 x n).toNat := by rw [fdiv_nat, shr_min (w := 64) x.isLt]; rfl
theorem gshr_u64 (x : BitVec 64) (k : IntKind) (b : Int) : gbin .shr (.r (.v (.int .u64 x.toNat))) (.r (.v (.int k b))) = .pure (0 ≤ b) (.w (shr64 x b.toNat)) := by
  show GR.pure _ (.r (.v (.int .u64 (((x.toNat : Int)).fdiv (2 ^ min b.toNat 64))))) = _
  rw [fdiv_nat, shr_min (w := 64) x.isLt]; rfl
theorem gshr_u16 (x : BitVec 16) (k : IntKind) (b : Int) : gbin .shr (.r (.v (.int .u16 x.toNat))) (.r (.v (.int k b))) = .pure (0 ≤ b) (.h (shr16 x b.toNat)) := by
  show GR.pure _ (.r (.v (.int .u16 (((x.toNat : Int)).fdiv (2 ^ min b.toNat 16))))) = _
  rw [fdiv_nat, shr_min (w := 16) x.isLt]; rfl
/-- A binary operation: words first. -/
def GBn (P : Program) (T : Tab) (N : Cfg) (op : BinOp) (t t2 : TypeId) (ox oy : Operand) (x y : SV) (d : Option Tmp) (ty : TypeId) (pos : String) (af : Array Edge) (all : Array Oper) (rest : List Oper) (k : List It) (Q : GQ) (E : Env) (M : Mem) (nx : Nat) : Prop :=
  GStep P T N ⟨d, .binOp op t ox oy t2, ty, pos, af, none⟩ (gbinop T op t x y) d all rest k Q E M nx
section
variable {P : Program} {T : Tab} {N : Cfg} {t t2 : TypeId} {ox oy : Operand} {d : Option Tmp} {ty : TypeId} {pos : String} {af : Array Edge} {all : Array Oper} {rest : List Oper} {k : List It} {Q : GQ} {E : Env} {M : Mem} {nx : Nat}
@[go_sem high] theorem GO_binOpW (op : BinOp) (t : TypeId) (x y : Operand) (t2 : TypeId) : GO P T N all (⟨d, .binOp op t x y t2, ty, pos, af, none⟩ :: rest) k Q E M nx = (dOK N.n d ∧ GBn P T N op t t2 x y (ev E x) (ev E y) d ty pos af all rest k Q E M nx) := (rfl)
@[go_sem low] theorem GBn_def (op : BinOp) (x y : SV) : GBn P T N op t t2 ox oy x y d ty pos af all rest k Q E M nx = GStep P T N ⟨d, .binOp op t ox oy t2, ty, pos, af, none⟩ (gbinop T op t x y) d all rest k Q E M nx := (rfl)
theorem GBn_of {op : BinOp} {x y s : SV} {ob : Prop} (h : gbin op x y = .pure ob s) : GBn P T N op t t2 ox oy x y d ty pos af all rest k Q E M nx = (ob ∧ GO P T N all rest k Q (envPut E d s) M nx) := by
  unfold GBn gbinop; rw [h]; rfl
@[go_sem] theorem GBn_and64 (a b : Int) : GBn P T N .and t t2 ox oy (.r (.v (.int .u64 a))) (.r (.v (.int .u64 b))) d ty pos af all rest k Q E M nx = GO P T N all rest k Q (envPut E d (.w (and64 (BitVec.ofInt 64 a) (BitVec.ofInt 64 b)))) M nx := by rw [GBn_of (gand_u64 a b)]; simp
@[go_sem] theorem GBn_add64 (x y : BitVec 64) : GBn P T N .add t t2 ox oy (.r (.v (.int .u64 x.toNat))) (.r (.v (.int .u64 y.toNat))) d ty pos af all rest k Q E M nx = (fits64 x y ∧ GO P T N all rest k Q (envPut E d (.w (add64 x y))) M nx) := by
  rw [GBn_of (gadd_u64 x y)]
  have e : (IntKind.u64 = IntKind.u64 ∧ inr .u64 ((x.toNat : Int) + y.toNat)) = fits64 x y := by
    simp only [inr, fits64, true_and, eq_iff_iff]; omega
  rw [e]
  have h : fits64 x y → ((x.toNat : Int) + y.toNat) = (add64 x y).toNat := fun h => by
    unfold fits64 at h; unfold add64; rw [BitVec.toNat_add]; omega
  apply propext
  constructor
  · rintro ⟨h1, h2⟩; exact ⟨h1, by rw [h h1] at h2; exact h2⟩
  · rintro ⟨h1, h2⟩; exact ⟨h1, by rw [h h1]; exact h2⟩
@[go_sem] theorem GBn_andI (a b : Int) : GBn P T N .and t t2 ox oy (.r (.v (.int .i64 a))) (.r (.v (.int .i64 b))) d ty pos af all rest k Q E M nx = GO P T N all rest k Q (envPut E d (.r (.v (.int .i64 (andI a b))))) M nx := by
  rw [GBn_of (gand_i64 a b)]; simp
@[go_sem] theorem GBn_or64 (a b : Int) : GBn P T N .or t t2 ox oy (.r (.v (.int .u64 a))) (.r (.v (.int .u64 b))) d ty pos af all rest k Q E M nx = GO P T N all rest k Q (envPut E d (.w (or64 (BitVec.ofInt 64 a) (BitVec.ofInt 64 b)))) M nx := by rw [GBn_of (gor_u64 a b)]; simp
@[go_sem] theorem GBn_xor64 (a b : Int) : GBn P T N .xor t t2 ox oy (.r (.v (.int .u64 a))) (.r (.v (.int .u64 b))) d ty pos af all rest k Q E M nx = GO P T N all rest k Q (envPut E d (.w (xor64 (BitVec.ofInt 64 a) (BitVec.ofInt 64 b)))) M nx := by rw [GBn_of (gxor_u64 a b)]; simp
@[go_sem] theorem GBn_andNot64 (a b : Int) : GBn P T N .andNot t t2 ox oy (.r (.v (.int .u64 a))) (.r (.v (.int .u64 b))) d ty pos af all rest k Q E M nx = GO P T N all rest k Q (envPut E d (.w (andn64 (BitVec.ofInt 64 a) (BitVec.ofInt 64 b)))) M nx := by rw [GBn_of (gandNot_u64 a b)]; simp
@[go_sem] theorem GBn_or16 (a b : Int) : GBn P T N .or t t2 ox oy (.r (.v (.int .u16 a))) (.r (.v (.int .u16 b))) d ty pos af all rest k Q E M nx = GO P T N all rest k Q (envPut E d (.h (or16 (BitVec.ofInt 16 a) (BitVec.ofInt 16 b)))) M nx := by rw [GBn_of (gor_u16 a b)]; simp
@[go_sem] theorem GBn_and8 (a b : Int) : GBn P T N .and t t2 ox oy (.r (.v (.int .u8 a))) (.r (.v (.int .u8 b))) d ty pos af all rest k Q E M nx = GO P T N all rest k Q (envPut E d (.y (and8 (BitVec.ofInt 8 a) (BitVec.ofInt 8 b)))) M nx := by rw [GBn_of (gand_u8 a b)]; simp
@[go_sem] theorem GBn_xor8 (a b : Int) : GBn P T N .xor t t2 ox oy (.r (.v (.int .u8 a))) (.r (.v (.int .u8 b))) d ty pos af all rest k Q E M nx = GO P T N all rest k Q (envPut E d (.y (xor8 (BitVec.ofInt 8 a) (BitVec.ofInt 8 b)))) M nx := by rw [GBn_of (gxor_u8 a b)]; simp
@[go_sem] theorem GBn_shl64 (x : BitVec 64) (kk : IntKind) (b : Int) : GBn P T N .shl t t2 ox oy (.r (.v (.int .u64 x.toNat))) (.r (.v (.int kk b))) d ty pos af all rest k Q E M nx = (0 ≤ b ∧ GO P T N all rest k Q (envPut E d (.w (shl64 x b.toNat))) M nx) := GBn_of (gshl_u64 x kk b)
@[go_sem] theorem GBn_shl16 (x : BitVec 16) (kk : IntKind) (b : Int) : GBn P T N .shl t t2 ox oy (.r (.v (.int .u16 x.toNat))) (.r (.v (.int kk b))) d ty pos af all rest k Q E M nx = (0 ≤ b ∧ GO P T N all rest k Q (envPut E d (.h (shl16 x b.toNat))) M nx) := GBn_of (gshl_u16 x kk b)
@[go_sem] theorem GBn_shr64 (x : BitVec 64) (kk : IntKind) (b : Int) : GBn P T N .shr t t2 ox oy (.r (.v (.int .u64 x.toNat))) (.r (.v (.int kk b))) d ty pos af all rest k Q E M nx = (0 ≤ b ∧ GO P T N all rest k Q (envPut E d (.w (shr64 x b.toNat))) M nx) := GBn_of (gshr_u64 x kk b)
@[go_sem] theorem GBn_shr16 (x : BitVec 16) (kk : IntKind) (b : Int) : GBn P T N .shr t t2 ox oy (.r (.v (.int .u16 x.toNat))) (.r (.v (.int kk b))) d ty pos af all rest k Q E M nx = (0 ≤ b ∧ GO P T N all rest k Q (envPut E d (.h (shr16 x b.toNat))) M nx) := GBn_of (gshr_u16 x kk b)
end
@[go_sem] theorem wrap_to16 (x : BitVec 64) : IntKind.u16.wrap (x.toNat : Int) = (to16 x).toNat := by
  rw [wrap_nat16]; simp [to16]
@[go_sem] theorem wrap_to8 (x : BitVec 64) : IntKind.u8.wrap (x.toNat : Int) = (to8 x).toNat := by
  simp [IntKind.wrap, IntKind.bits, IntKind.signed, to8]
@[go_sem] theorem wrap_up64 (x : BitVec 16) : IntKind.u64.wrap (x.toNat : Int) = (up64 x).toNat := by
  rw [wrap_nat64]; simp [up64]
@[go_sem] theorem wrap_y64 (x : BitVec 8) : IntKind.i64.wrap (x.toNat : Int) = x.toNat := by
  have := x.isLt
  simp only [IntKind.wrap, IntKind.bits, IntKind.signed]; simp; omega

/-- A code is valid. -/
def vI (c m : BitVec 64) : Bool := decide (andn64 c m = 0#64)
theorem check51 (c m : BitVec 64) : Pure Try.prog 51 [.agg [.w c, .w m]] (· = .i (if vI c m then 0 else 30)) := by
  refine pure_of_GC T_ok Try.func51 rfl (by kernel_rfl) (Nat.le_of_ble_eq_true rfl) rfl rfl ?_
  by_cases h : andn64 c m = 0#64 <;> simp [go_sem, vI, h, toNat_zero]
theorem valid34 (c m : BitVec 64) : Pure Try.prog 34 [.agg [.w c, .w m]] (· = .b (vI c m)) := by
  refine pure_of_GC T_ok Try.func34 rfl (by kernel_rfl) (Nat.le_of_ble_eq_true rfl) rfl rfl ?_
  by_cases h : andn64 c m = 0#64 <;> simp [go_sem, vI, h, toNat_zero]
def btw (lo hi n : Int) : Bool := decide (lo ≤ n) && decide (n ≤ hi)
theorem within70 (n lo hi : Int) : Pure Try.prog 70 [.i n, .i lo, .i hi] (· = .b (btw lo hi n)) := by
  refine pure_of_GC T_ok Try.func70 rfl (by kernel_rfl) (Nat.le_of_ble_eq_true rfl) rfl rfl ?_
  by_cases h : lo ≤ n <;> simp [go_sem, btw, h]
theorem within53 (n lo hi : Int) : Pure Try.prog 53 [.i n, .i lo, .i hi] (· = .b (btw lo hi n)) := by
  refine pure_of_GC T_ok Try.func53 rfl (by kernel_rfl) (Nat.le_of_ble_eq_true rfl) rfl rfl ?_
  by_cases h : lo ≤ n <;> simp [go_sem, btw, h]
theorem within68 (n lo hi : Int) : Pure Try.prog 68 [.i n, .i lo, .i hi] (· = .b (btw lo hi n)) := by
  refine pure_of_GC T_ok Try.func68 rfl (by kernel_rfl) (Nat.le_of_ble_eq_true rfl) rfl rfl ?_
  by_cases h : lo ≤ n <;> simp [go_sem, btw, h]
/-- A limit is valid. -/
def vL (num den : Int) : Bool := btw 0 den num && btw 1 1000 den
theorem limit35 (num den : Int) : Pure Try.prog 35 [.agg [.i num, .i den]] (· = .b (vL num den)) := by
  refine pure_of_GC T_ok Try.func35 rfl (by kernel_rfl) (Nat.le_of_ble_eq_true rfl) rfl rfl ?_
  by_cases h1 : 0 ≤ num
  · by_cases h2 : num ≤ den
    · simp [go_sem, h1, h2]
      refine call_val (within68 den 1 1000) rfl rfl ?_
      simp [go_sem, vL, btw, h1, h2]
    · simp [go_sem, h1, h2, vL, btw]
  · simp [go_sem, h1, vL, btw]

def rol16 (x : BitVec 16) (n : Nat) : BitVec 16 := or16 (shl16 x n) (shr16 x (16 - n))
theorem and15 (k : Int) : and64 (BitVec.ofInt 64 (IntKind.u64.wrap k)) 15#64 = BitVec.ofNat 64 (k % 16).toNat := by
  apply BitVec.eq_of_toNat_eq
  unfold and64
  rw [BitVec.toNat_and]
  have h1 : (15#64).toNat = 2 ^ 4 - 1 := rfl
  rw [h1, Nat.and_two_pow_sub_one_eq_mod]
  have h2 : IntKind.u64.wrap k = k % 18446744073709551616 := by simp [IntKind.wrap, IntKind.bits, IntKind.signed]
  rw [h2]
  simp only [BitVec.toNat_ofInt, BitVec.toNat_ofNat]
  have : 0 ≤ k % 16 ∧ k % 16 < 16 := ⟨Int.emod_nonneg _ (by decide), Int.emod_lt_of_pos _ (by decide)⟩
  omega
theorem rot119 (x : BitVec 16) (k : Int) : Pure Try.prog 119 [.h x, .i k] (· = .h (rol16 x (k % 16).toNat)) := by
  refine pure_of_GC T_ok Try.func119 rfl (by kernel_rfl) (Nat.le_of_ble_eq_true rfl) rfl rfl ?_
  have hk : (k % 16).toNat < 16 := by have := Int.emod_lt_of_pos k (show (0 : Int) < 16 by decide); have := Int.emod_nonneg k (show (16 : Int) ≠ 0 by decide); omega
  generalize hn : (k % 16).toNat = n at hk
  have h1 := and15 k
  rw [hn] at h1
  have h3 : n % 18446744073709551616 = n := by omega
  have h4 : ((16 : Int) - n).toNat = 16 - n := by omega
  have h5 : (n : Int) ≤ 16 := by omega
  simp [go_sem, h1, h3, h4, h5, rol16]
  omega
/-- The ones of a word, as the library counts them. -/
def sw1 (x : BitVec 64) : BitVec 64 := add64 (and64 (shr64 x 1) 6148914691236517205#64) (and64 x 6148914691236517205#64)
def sw2 (x : BitVec 64) : BitVec 64 := add64 (and64 (shr64 x 2) 3689348814741910323#64) (and64 x 3689348814741910323#64)
def sw3 (x : BitVec 64) : BitVec 64 := and64 (add64 (shr64 x 4) x) 1085102592571150095#64
def sw4 (x : BitVec 64) (n : Nat) : BitVec 64 := add64 x (shr64 x n)
theorem wrap_i64 (n : Int) : IntKind.i64.wrap n = n % 18446744073709551616 ∨ IntKind.i64.wrap n = n % 18446744073709551616 - 18446744073709551616 := by
  simp only [IntKind.wrap, IntKind.bits, IntKind.signed]
  by_cases h : (n % 2 ^ 64 : Int) ≥ 2 ^ (64 - 1)
  · right; simp at h ⊢; omega
  · left; simp at h ⊢; omega
theorem and127 (x : BitVec 64) : andI (IntKind.i64.wrap (x.toNat : Int)) 127 = (x.toNat % 128 : Nat) := by
  have e1 : BitVec.ofInt 64 (IntKind.i64.wrap (x.toNat : Int)) = x := by
    apply BitVec.eq_of_toNat_eq
    rw [BitVec.toNat_ofInt]
    have hx := x.isLt
    rcases wrap_i64 (x.toNat : Int) with h | h <;> rw [h] <;> omega
  have e2 : BitVec.ofInt 64 127 = 127#64 := rfl
  unfold andI
  rw [e1, e2, BitVec.toNat_and, show (127#64).toNat = 2 ^ 7 - 1 from rfl, Nat.and_two_pow_sub_one_eq_mod]
  exact wrap_inr (by simp only [inr]; omega)
theorem ones62' (x : BitVec 64) {x1 x2 x3 x4 x5 x6 : BitVec 64} (h1 : sw1 x = x1) (h2 : sw2 x1 = x2) (h3 : sw3 x2 = x3) (h4 : sw4 x3 8 = x4) (h5 : sw4 x4 16 = x5) (h6 : sw4 x5 32 = x6)
    (f1 : fits64 (and64 (shr64 x 1) 6148914691236517205#64) (and64 x 6148914691236517205#64)) (f2 : fits64 (and64 (shr64 x1 2) 3689348814741910323#64) (and64 x1 3689348814741910323#64)) (f3 : fits64 (shr64 x2 4) x2)
    (f4 : fits64 x3 (shr64 x3 8)) (f5 : fits64 x4 (shr64 x4 16)) (f6 : fits64 x5 (shr64 x5 32)) : Pure Try.prog 62 [.w x] (· = .i (x6.toNat % 128 : Nat)) := by
  refine pure_of_GC T_ok Try.func62 rfl (by kernel_rfl) (Nat.le_of_ble_eq_true rfl) rfl rfl ?_
  unfold sw1 at h1
  unfold sw2 at h2
  unfold sw3 at h3
  unfold sw4 at h4 h5 h6
  simp [go_sem, h1, h2, h3, h4, h5, h6, f1, f2, f3, f4, f5, f6, and127]
/-- A byte of a constant string. -/
theorem GOp_indexS {P : Program} {N : Cfg} {E : Env} {M : Mem} {nx : Nat} {K : Env → Mem → Nat → Prop} {d : Option Tmp} {t ty : TypeId} {pos : String} {af : Array Edge} {x i : Operand} {s : ByteArray} {kk : IntKind} {n : Nat} {b : UInt8}
    (hu : P.underlying t = some .string) (hx : ev E x = .r (.v (.string s))) (hi : ev E i = .r (.v (.int kk n))) (hb : s[n]? = some b) (hd : dOK N.n d) (h : K (envPut E d (.r (.v (.int .u8 b.toNat)))) M nx) :
    GOpW P N ⟨d, .index t x i, ty, pos, af, none⟩ E M nx K := by
  intro B W w0 σ a w hs next Q' hK
  refine wpIn_of_wp ?_
  have h1 := ev_rel hs.env x
  have h2 := ev_rel hs.env i
  rw [hx] at h1
  rw [hi] at h2
  have h1 : a.eval x = .string s := h1
  have h2 : a.eval i = .int kk n := h2
  have hrun : (execOp a.eval ⟨d, .index t x i, ty, pos, af, none⟩).run P w = .ok (.value (.int .u8 b.toNat)) w := by
    simp [execOp, h1, h2, Instr.index, asIntOf, run_underlying hu, hb]
  unfold Oper.wp
  rw [hrun]
  exact hK _ _ _ _ _ _ h (hs.put hd rfl)
theorem ones64 (x : BitVec 8) : Pure Try.prog 64 [.y x] (· = .i (Lib.onesCount x.toNat)) := by
  refine pure_of_GC T_ok Try.func64 rfl (by kernel_rfl) (Nat.le_of_ble_eq_true rfl) rfl rfl ?_
  simp [go_sem]
  obtain ⟨b, hb, hc⟩ : ∃ b : UInt8, Lib.pop8tab[x.toNat]? = some b ∧ b.toNat = Lib.onesCount x.toNat := by
    have h : ∀ n : Fin 256, (Lib.pop8tab[n.val]?).isSome = true ∧ ((Lib.pop8tab[n.val]?).getD 0).toNat = Lib.onesCount n.val := by decide +kernel
    obtain ⟨h1, h2⟩ := h ⟨x.toNat, x.isLt⟩
    obtain ⟨b, hb⟩ := Option.isSome_iff_exists.1 h1
    exact ⟨b, hb, by rw [← h2, hb]; rfl⟩
  refine GOp_indexS (s := Lib.pop8tab) (n := x.toNat) (b := b) (kk := .u8) (by kernel_rfl) (by kernel_rfl) (by simp [go_sem]) hb (by simp [dOK]) ?_
  have h8 : IntKind.i64.wrap (Lib.onesCount x.toNat : Int) = Lib.onesCount x.toNat := wrap_inr (by
    have := Lib.onesCount_le8 ⟨x.toNat, x.isLt⟩
    simp only [inr]; simp at this; omega)
  simp [go_sem, hc, h8]
end Go.Gx.Ix
