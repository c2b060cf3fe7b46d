/-
  THE TABLE OF TYPES of this seat's program, made by program (mkT.py); each row is asked of the program by the kernel.
-/
import Derived.Test.YtaggojedpkddjaaGreatProg
import Derived.Test.YtaggojedpkddjaaGreatKo
set_option linter.unusedVariables false
set_option maxRecDepth 100000
namespace Go.Proofs.YtaggojedpkddjaaGreat
open Go.Gx

def tis : TypeId → Option TI
  | 1 => some ⟨1, 8, [.f], .other⟩
  | 2 => some ⟨1, 8, [.i .i64], .int .i64⟩
  | 3 => some ⟨1, 8, [.i .i64], .int .i64⟩
  | 4 => some ⟨1, 1, [.b], .bool⟩
  | 5 => some ⟨1, 1, [.i .u8], .int .u8⟩
  | 9 => some ⟨1, 16, [.s], .other⟩
  | 12 => some ⟨1, 8, [.i .u64], .int .u64⟩
  | 20 => some ⟨1, 16, [.ifc], .other⟩
  | 21 => some ⟨1, 4, [.i .i32], .int .i32⟩
  | 22 => some ⟨4, 32, [.i .i64, .b, .i .i64, .i .i64], .struct [(0, 1, false), (1, 1, false), (2, 1, false), (3, 1, false)]⟩
  | 23 => some ⟨4, 32, [.i .i64, .b, .i .i64, .i .i64], .struct [(0, 1, false), (1, 1, false), (2, 1, false), (3, 1, false)]⟩
  | 24 => some ⟨1, 8, [.i .i64], .int .i64⟩
  | 26 => some ⟨1, 8, [.f], .other⟩
  | 27 => some ⟨1, 24, [.sl], .slice 45⟩
  | 28 => some ⟨1, 24, [.sl], .slice 49⟩
  | 29 => some ⟨1, 24, [.sl], .slice 65⟩
  | 30 => some ⟨1, 24, [.sl], .slice 54⟩
  | 31 => some ⟨4, 96, [.sl, .sl, .sl, .sl], .struct [(0, 1, false), (1, 1, false), (2, 1, false), (3, 1, false)]⟩
  | 32 => some ⟨4, 96, [.sl, .sl, .sl, .sl], .struct [(0, 1, false), (1, 1, false), (2, 1, false), (3, 1, false)]⟩
  | 33 => some ⟨1, 8, [.f], .other⟩
  | 34 => some ⟨1, 24, [.sl], .slice 3⟩
  | 35 => some ⟨6, 64, [.i .i64, .i .i64, .i .i64, .i .i64, .i .i64, .sl], .struct [(0, 1, false), (1, 1, false), (2, 1, false), (3, 1, false), (4, 1, false), (5, 1, false)]⟩
  | 36 => some ⟨6, 64, [.i .i64, .i .i64, .i .i64, .i .i64, .i .i64, .sl], .struct [(0, 1, false), (1, 1, false), (2, 1, false), (3, 1, false), (4, 1, false), (5, 1, false)]⟩
  | 37 => some ⟨1, 8, [.f], .other⟩
  | 39 => some ⟨1, 8, [.f], .other⟩
  | 41 => some ⟨1, 8, [.f], .other⟩
  | 42 => some ⟨1, 8, [.f], .other⟩
  | 43 => some ⟨1, 8, [.f], .other⟩
  | 44 => some ⟨8, 64, [.i .i64, .i .i64, .i .i64, .i .i64, .i .i64, .i .i64, .i .i64, .i .u8], .struct [(0, 1, false), (1, 1, false), (2, 1, false), (3, 1, false), (4, 1, false), (5, 1, false), (6, 1, false), (7, 1, false)]⟩
  | 45 => some ⟨8, 64, [.i .i64, .i .i64, .i .i64, .i .i64, .i .i64, .i .i64, .i .i64, .i .u8], .struct [(0, 1, false), (1, 1, false), (2, 1, false), (3, 1, false), (4, 1, false), (5, 1, false), (6, 1, false), (7, 1, false)]⟩
  | 47 => some ⟨1, 8, [.f], .other⟩
  | 48 => some ⟨3, 24, [.i .i64, .i .i64, .i .i64], .struct [(0, 1, false), (1, 1, false), (2, 1, false)]⟩
  | 49 => some ⟨3, 24, [.i .i64, .i .i64, .i .i64], .struct [(0, 1, false), (1, 1, false), (2, 1, false)]⟩
  | 50 => some ⟨1, 8, [.f], .other⟩
  | 51 => some ⟨1, 8, [.f], .other⟩
  | 52 => some ⟨1, 8, [.f], .other⟩
  | 53 => some ⟨5, 40, [.i .i64, .i .i64, .i .i64, .i .i64, .i .i64], .struct [(0, 1, false), (1, 1, false), (2, 1, false), (3, 1, false), (4, 1, false)]⟩
  | 54 => some ⟨5, 40, [.i .i64, .i .i64, .i .i64, .i .i64, .i .i64], .struct [(0, 1, false), (1, 1, false), (2, 1, false), (3, 1, false), (4, 1, false)]⟩
  | 55 => some ⟨1, 8, [.f], .other⟩
  | 56 => some ⟨1, 8, [.f], .other⟩
  | 57 => some ⟨1, 8, [.f], .other⟩
  | 59 => some ⟨1, 8, [.f], .other⟩
  | 61 => some ⟨1, 8, [.f], .other⟩
  | 62 => some ⟨1, 8, [.f], .other⟩
  | 63 => some ⟨1, 8, [.f], .other⟩
  | 64 => some ⟨4, 32, [.i .i64, .i .i64, .i .i64, .i .i64], .struct [(0, 1, false), (1, 1, false), (2, 1, false), (3, 1, false)]⟩
  | 65 => some ⟨4, 32, [.i .i64, .i .i64, .i .i64, .i .i64], .struct [(0, 1, false), (1, 1, false), (2, 1, false), (3, 1, false)]⟩
  | 66 => some ⟨1, 8, [.f], .other⟩
  | 67 => some ⟨1, 8, [.f], .other⟩
  | 68 => some ⟨1, 8, [.f], .other⟩
  | 69 => some ⟨1, 8, [.f], .other⟩
  | 70 => some ⟨1, 8, [.f], .other⟩
  | 72 => some ⟨1, 8, [.f], .other⟩
  | 73 => some ⟨1, 8, [.f], .other⟩
  | 74 => some ⟨1, 8, [.f], .other⟩
  | 75 => some ⟨1, 8, [.f], .other⟩
  | 76 => some ⟨1, 8, [.f], .other⟩
  | 77 => some ⟨1, 8, [.f], .other⟩
  | 78 => some ⟨1, 8, [.f], .other⟩
  | 79 => some ⟨1, 8, [.f], .other⟩
  | 80 => some ⟨1, 8, [.f], .other⟩
  | 81 => some ⟨1, 8, [.f], .other⟩
  | 82 => some ⟨1, 8, [.f], .other⟩
  | 83 => some ⟨1, 8, [.f], .other⟩
  | 85 => some ⟨1, 8, [.f], .other⟩
  | 86 => some ⟨1, 8, [.f], .other⟩
  | 87 => some ⟨1, 8, [.f], .other⟩
  | 88 => some ⟨1, 8, [.f], .other⟩
  | 89 => some ⟨1, 8, [.f], .other⟩
  | 90 => some ⟨1, 8, [.f], .other⟩
  | 91 => some ⟨1, 8, [.f], .other⟩
  | 92 => some ⟨1, 8, [.f], .other⟩
  | 93 => some ⟨1, 8, [.f], .other⟩
  | 94 => some ⟨1, 8, [.f], .other⟩
  | 95 => some ⟨1, 8, [.f], .other⟩
  | 96 => some ⟨1, 8, [.f], .other⟩
  | 97 => some ⟨1, 8, [.f], .other⟩
  | 98 => some ⟨1, 8, [.i .u64], .int .u64⟩
  | 99 => some ⟨1, 8, [.f], .other⟩
  | 100 => some ⟨1, 8, [.f], .other⟩
  | 101 => some ⟨1, 8, [.f], .other⟩
  | 102 => some ⟨1, 8, [.f], .other⟩
  | 103 => some ⟨1, 8, [.f], .other⟩
  | 104 => some ⟨1, 8, [.f], .other⟩
  | 105 => some ⟨1, 8, [.f], .other⟩
  | 106 => some ⟨4, 32, [.f, .f, .f, .f], .array 4 1 false⟩
  | 107 => some ⟨1, 8, [.f], .other⟩
  | 108 => some ⟨1, 8, [.f], .other⟩
  | 109 => some ⟨1, 8, [.f], .other⟩
  | 110 => some ⟨1, 8, [.f], .other⟩
  | 111 => some ⟨1, 8, [.f], .other⟩
  | 112 => some ⟨1, 8, [.f], .other⟩
  | 113 => some ⟨1, 8, [.f], .other⟩
  | 114 => some ⟨1, 8, [.f], .other⟩
  | 115 => some ⟨1, 8, [.f], .other⟩
  | 116 => some ⟨1, 8, [.f], .other⟩
  | 117 => some ⟨1, 8, [.f], .other⟩
  | 118 => some ⟨1, 8, [.f], .other⟩
  | 119 => some ⟨1, 8, [.f], .other⟩
  | 120 => some ⟨1, 8, [.f], .other⟩
  | 121 => some ⟨1, 8, [.f], .other⟩
  | 122 => some ⟨1, 8, [.f], .other⟩
  | 123 => some ⟨1, 8, [.f], .other⟩
  | 124 => some ⟨1, 8, [.f], .other⟩
  | 125 => some ⟨1, 8, [.f], .other⟩
  | 126 => some ⟨1, 8, [.f], .other⟩
  | 127 => some ⟨1, 8, [.f], .other⟩
  | 128 => some ⟨1, 8, [.f], .other⟩
  | 134 => some ⟨1, 8, [.f], .other⟩
  | 135 => some ⟨1, 4, [.i .u32], .int .u32⟩
  | 138 => some ⟨1, 8, [.f], .other⟩
  | 139 => some ⟨1, 8, [.p], .other⟩
  | _ => none
def teq : TypeId → Option (List CK)
  | 22 => some [.int .i64, .bool, .int .i64, .int .i64]
  | 23 => some [.int .i64, .bool, .int .i64, .int .i64]
  | 44 => some [.int .i64, .int .i64, .int .i64, .int .i64, .int .i64, .int .i64, .int .i64, .int .u8]
  | 45 => some [.int .i64, .int .i64, .int .i64, .int .i64, .int .i64, .int .i64, .int .i64, .int .u8]
  | 48 => some [.int .i64, .int .i64, .int .i64]
  | 49 => some [.int .i64, .int .i64, .int .i64]
  | 53 => some [.int .i64, .int .i64, .int .i64, .int .i64, .int .i64]
  | 54 => some [.int .i64, .int .i64, .int .i64, .int .i64, .int .i64]
  | 64 => some [.int .i64, .int .i64, .int .i64, .int .i64]
  | 65 => some [.int .i64, .int .i64, .int .i64, .int .i64]
  | _ => none
theorem ty1 : tyChk Tryz.prog 1 ⟨1, 8, [.f], .other⟩ = true := by kernel_rfl
theorem ty2 : tyChk Tryz.prog 2 ⟨1, 8, [.i .i64], .int .i64⟩ = true := by kernel_rfl
theorem ty3 : tyChk Tryz.prog 3 ⟨1, 8, [.i .i64], .int .i64⟩ = true := by kernel_rfl
theorem ty4 : tyChk Tryz.prog 4 ⟨1, 1, [.b], .bool⟩ = true := by kernel_rfl
theorem ty5 : tyChk Tryz.prog 5 ⟨1, 1, [.i .u8], .int .u8⟩ = true := by kernel_rfl
theorem ty9 : tyChk Tryz.prog 9 ⟨1, 16, [.s], .other⟩ = true := by kernel_rfl
theorem ty12 : tyChk Tryz.prog 12 ⟨1, 8, [.i .u64], .int .u64⟩ = true := by kernel_rfl
theorem ty20 : tyChk Tryz.prog 20 ⟨1, 16, [.ifc], .other⟩ = true := by kernel_rfl
theorem ty21 : tyChk Tryz.prog 21 ⟨1, 4, [.i .i32], .int .i32⟩ = true := by kernel_rfl
theorem ty22 : tyChk Tryz.prog 22 ⟨4, 32, [.i .i64, .b, .i .i64, .i .i64], .struct [(0, 1, false), (1, 1, false), (2, 1, false), (3, 1, false)]⟩ = true := by kernel_rfl
theorem ty23 : tyChk Tryz.prog 23 ⟨4, 32, [.i .i64, .b, .i .i64, .i .i64], .struct [(0, 1, false), (1, 1, false), (2, 1, false), (3, 1, false)]⟩ = true := by kernel_rfl
theorem ty24 : tyChk Tryz.prog 24 ⟨1, 8, [.i .i64], .int .i64⟩ = true := by kernel_rfl
theorem ty26 : tyChk Tryz.prog 26 ⟨1, 8, [.f], .other⟩ = true := by kernel_rfl
theorem ty27 : tyChk Tryz.prog 27 ⟨1, 24, [.sl], .slice 45⟩ = true := by kernel_rfl
theorem ty28 : tyChk Tryz.prog 28 ⟨1, 24, [.sl], .slice 49⟩ = true := by kernel_rfl
theorem ty29 : tyChk Tryz.prog 29 ⟨1, 24, [.sl], .slice 65⟩ = true := by kernel_rfl
theorem ty30 : tyChk Tryz.prog 30 ⟨1, 24, [.sl], .slice 54⟩ = true := by kernel_rfl
theorem ty31 : tyChk Tryz.prog 31 ⟨4, 96, [.sl, .sl, .sl, .sl], .struct [(0, 1, false), (1, 1, false), (2, 1, false), (3, 1, false)]⟩ = true := by kernel_rfl
theorem ty32 : tyChk Tryz.prog 32 ⟨4, 96, [.sl, .sl, .sl, .sl], .struct [(0, 1, false), (1, 1, false), (2, 1, false), (3, 1, false)]⟩ = true := by kernel_rfl
theorem ty33 : tyChk Tryz.prog 33 ⟨1, 8, [.f], .other⟩ = true := by kernel_rfl
theorem ty34 : tyChk Tryz.prog 34 ⟨1, 24, [.sl], .slice 3⟩ = true := by kernel_rfl
theorem ty35 : tyChk Tryz.prog 35 ⟨6, 64, [.i .i64, .i .i64, .i .i64, .i .i64, .i .i64, .sl], .struct [(0, 1, false), (1, 1, false), (2, 1, false), (3, 1, false), (4, 1, false), (5, 1, false)]⟩ = true := by kernel_rfl
theorem ty36 : tyChk Tryz.prog 36 ⟨6, 64, [.i .i64, .i .i64, .i .i64, .i .i64, .i .i64, .sl], .struct [(0, 1, false), (1, 1, false), (2, 1, false), (3, 1, false), (4, 1, false), (5, 1, false)]⟩ = true := by kernel_rfl
theorem ty37 : tyChk Tryz.prog 37 ⟨1, 8, [.f], .other⟩ = true := by kernel_rfl
theorem ty39 : tyChk Tryz.prog 39 ⟨1, 8, [.f], .other⟩ = true := by kernel_rfl
theorem ty41 : tyChk Tryz.prog 41 ⟨1, 8, [.f], .other⟩ = true := by kernel_rfl
theorem ty42 : tyChk Tryz.prog 42 ⟨1, 8, [.f], .other⟩ = true := by kernel_rfl
theorem ty43 : tyChk Tryz.prog 43 ⟨1, 8, [.f], .other⟩ = true := by kernel_rfl
theorem ty44 : tyChk Tryz.prog 44 ⟨8, 64, [.i .i64, .i .i64, .i .i64, .i .i64, .i .i64, .i .i64, .i .i64, .i .u8], .struct [(0, 1, false), (1, 1, false), (2, 1, false), (3, 1, false), (4, 1, false), (5, 1, false), (6, 1, false), (7, 1, false)]⟩ = true := by kernel_rfl
theorem ty45 : tyChk Tryz.prog 45 ⟨8, 64, [.i .i64, .i .i64, .i .i64, .i .i64, .i .i64, .i .i64, .i .i64, .i .u8], .struct [(0, 1, false), (1, 1, false), (2, 1, false), (3, 1, false), (4, 1, false), (5, 1, false), (6, 1, false), (7, 1, false)]⟩ = true := by kernel_rfl
theorem ty47 : tyChk Tryz.prog 47 ⟨1, 8, [.f], .other⟩ = true := by kernel_rfl
theorem ty48 : tyChk Tryz.prog 48 ⟨3, 24, [.i .i64, .i .i64, .i .i64], .struct [(0, 1, false), (1, 1, false), (2, 1, false)]⟩ = true := by kernel_rfl
theorem ty49 : tyChk Tryz.prog 49 ⟨3, 24, [.i .i64, .i .i64, .i .i64], .struct [(0, 1, false), (1, 1, false), (2, 1, false)]⟩ = true := by kernel_rfl
theorem ty50 : tyChk Tryz.prog 50 ⟨1, 8, [.f], .other⟩ = true := by kernel_rfl
theorem ty51 : tyChk Tryz.prog 51 ⟨1, 8, [.f], .other⟩ = true := by kernel_rfl
theorem ty52 : tyChk Tryz.prog 52 ⟨1, 8, [.f], .other⟩ = true := by kernel_rfl
theorem ty53 : tyChk Tryz.prog 53 ⟨5, 40, [.i .i64, .i .i64, .i .i64, .i .i64, .i .i64], .struct [(0, 1, false), (1, 1, false), (2, 1, false), (3, 1, false), (4, 1, false)]⟩ = true := by kernel_rfl
theorem ty54 : tyChk Tryz.prog 54 ⟨5, 40, [.i .i64, .i .i64, .i .i64, .i .i64, .i .i64], .struct [(0, 1, false), (1, 1, false), (2, 1, false), (3, 1, false), (4, 1, false)]⟩ = true := by kernel_rfl
theorem ty55 : tyChk Tryz.prog 55 ⟨1, 8, [.f], .other⟩ = true := by kernel_rfl
theorem ty56 : tyChk Tryz.prog 56 ⟨1, 8, [.f], .other⟩ = true := by kernel_rfl
theorem ty57 : tyChk Tryz.prog 57 ⟨1, 8, [.f], .other⟩ = true := by kernel_rfl
theorem ty59 : tyChk Tryz.prog 59 ⟨1, 8, [.f], .other⟩ = true := by kernel_rfl
theorem ty61 : tyChk Tryz.prog 61 ⟨1, 8, [.f], .other⟩ = true := by kernel_rfl
theorem ty62 : tyChk Tryz.prog 62 ⟨1, 8, [.f], .other⟩ = true := by kernel_rfl
theorem ty63 : tyChk Tryz.prog 63 ⟨1, 8, [.f], .other⟩ = true := by kernel_rfl
theorem ty64 : tyChk Tryz.prog 64 ⟨4, 32, [.i .i64, .i .i64, .i .i64, .i .i64], .struct [(0, 1, false), (1, 1, false), (2, 1, false), (3, 1, false)]⟩ = true := by kernel_rfl
theorem ty65 : tyChk Tryz.prog 65 ⟨4, 32, [.i .i64, .i .i64, .i .i64, .i .i64], .struct [(0, 1, false), (1, 1, false), (2, 1, false), (3, 1, false)]⟩ = true := by kernel_rfl
theorem ty66 : tyChk Tryz.prog 66 ⟨1, 8, [.f], .other⟩ = true := by kernel_rfl
theorem ty67 : tyChk Tryz.prog 67 ⟨1, 8, [.f], .other⟩ = true := by kernel_rfl
theorem ty68 : tyChk Tryz.prog 68 ⟨1, 8, [.f], .other⟩ = true := by kernel_rfl
theorem ty69 : tyChk Tryz.prog 69 ⟨1, 8, [.f], .other⟩ = true := by kernel_rfl
theorem ty70 : tyChk Tryz.prog 70 ⟨1, 8, [.f], .other⟩ = true := by kernel_rfl
theorem ty72 : tyChk Tryz.prog 72 ⟨1, 8, [.f], .other⟩ = true := by kernel_rfl
theorem ty73 : tyChk Tryz.prog 73 ⟨1, 8, [.f], .other⟩ = true := by kernel_rfl
theorem ty74 : tyChk Tryz.prog 74 ⟨1, 8, [.f], .other⟩ = true := by kernel_rfl
theorem ty75 : tyChk Tryz.prog 75 ⟨1, 8, [.f], .other⟩ = true := by kernel_rfl
theorem ty76 : tyChk Tryz.prog 76 ⟨1, 8, [.f], .other⟩ = true := by kernel_rfl
theorem ty77 : tyChk Tryz.prog 77 ⟨1, 8, [.f], .other⟩ = true := by kernel_rfl
theorem ty78 : tyChk Tryz.prog 78 ⟨1, 8, [.f], .other⟩ = true := by kernel_rfl
theorem ty79 : tyChk Tryz.prog 79 ⟨1, 8, [.f], .other⟩ = true := by kernel_rfl
theorem ty80 : tyChk Tryz.prog 80 ⟨1, 8, [.f], .other⟩ = true := by kernel_rfl
theorem ty81 : tyChk Tryz.prog 81 ⟨1, 8, [.f], .other⟩ = true := by kernel_rfl
theorem ty82 : tyChk Tryz.prog 82 ⟨1, 8, [.f], .other⟩ = true := by kernel_rfl
theorem ty83 : tyChk Tryz.prog 83 ⟨1, 8, [.f], .other⟩ = true := by kernel_rfl
theorem ty85 : tyChk Tryz.prog 85 ⟨1, 8, [.f], .other⟩ = true := by kernel_rfl
theorem ty86 : tyChk Tryz.prog 86 ⟨1, 8, [.f], .other⟩ = true := by kernel_rfl
theorem ty87 : tyChk Tryz.prog 87 ⟨1, 8, [.f], .other⟩ = true := by kernel_rfl
theorem ty88 : tyChk Tryz.prog 88 ⟨1, 8, [.f], .other⟩ = true := by kernel_rfl
theorem ty89 : tyChk Tryz.prog 89 ⟨1, 8, [.f], .other⟩ = true := by kernel_rfl
theorem ty90 : tyChk Tryz.prog 90 ⟨1, 8, [.f], .other⟩ = true := by kernel_rfl
theorem ty91 : tyChk Tryz.prog 91 ⟨1, 8, [.f], .other⟩ = true := by kernel_rfl
theorem ty92 : tyChk Tryz.prog 92 ⟨1, 8, [.f], .other⟩ = true := by kernel_rfl
theorem ty93 : tyChk Tryz.prog 93 ⟨1, 8, [.f], .other⟩ = true := by kernel_rfl
theorem ty94 : tyChk Tryz.prog 94 ⟨1, 8, [.f], .other⟩ = true := by kernel_rfl
theorem ty95 : tyChk Tryz.prog 95 ⟨1, 8, [.f], .other⟩ = true := by kernel_rfl
theorem ty96 : tyChk Tryz.prog 96 ⟨1, 8, [.f], .other⟩ = true := by kernel_rfl
theorem ty97 : tyChk Tryz.prog 97 ⟨1, 8, [.f], .other⟩ = true := by kernel_rfl
theorem ty98 : tyChk Tryz.prog 98 ⟨1, 8, [.i .u64], .int .u64⟩ = true := by kernel_rfl
theorem ty99 : tyChk Tryz.prog 99 ⟨1, 8, [.f], .other⟩ = true := by kernel_rfl
theorem ty100 : tyChk Tryz.prog 100 ⟨1, 8, [.f], .other⟩ = true := by kernel_rfl
theorem ty101 : tyChk Tryz.prog 101 ⟨1, 8, [.f], .other⟩ = true := by kernel_rfl
theorem ty102 : tyChk Tryz.prog 102 ⟨1, 8, [.f], .other⟩ = true := by kernel_rfl
theorem ty103 : tyChk Tryz.prog 103 ⟨1, 8, [.f], .other⟩ = true := by kernel_rfl
theorem ty104 : tyChk Tryz.prog 104 ⟨1, 8, [.f], .other⟩ = true := by kernel_rfl
theorem ty105 : tyChk Tryz.prog 105 ⟨1, 8, [.f], .other⟩ = true := by kernel_rfl
theorem ty106 : tyChk Tryz.prog 106 ⟨4, 32, [.f, .f, .f, .f], .array 4 1 false⟩ = true := by kernel_rfl
theorem ty107 : tyChk Tryz.prog 107 ⟨1, 8, [.f], .other⟩ = true := by kernel_rfl
theorem ty108 : tyChk Tryz.prog 108 ⟨1, 8, [.f], .other⟩ = true := by kernel_rfl
theorem ty109 : tyChk Tryz.prog 109 ⟨1, 8, [.f], .other⟩ = true := by kernel_rfl
theorem ty110 : tyChk Tryz.prog 110 ⟨1, 8, [.f], .other⟩ = true := by kernel_rfl
theorem ty111 : tyChk Tryz.prog 111 ⟨1, 8, [.f], .other⟩ = true := by kernel_rfl
theorem ty112 : tyChk Tryz.prog 112 ⟨1, 8, [.f], .other⟩ = true := by kernel_rfl
theorem ty113 : tyChk Tryz.prog 113 ⟨1, 8, [.f], .other⟩ = true := by kernel_rfl
theorem ty114 : tyChk Tryz.prog 114 ⟨1, 8, [.f], .other⟩ = true := by kernel_rfl
theorem ty115 : tyChk Tryz.prog 115 ⟨1, 8, [.f], .other⟩ = true := by kernel_rfl
theorem ty116 : tyChk Tryz.prog 116 ⟨1, 8, [.f], .other⟩ = true := by kernel_rfl
theorem ty117 : tyChk Tryz.prog 117 ⟨1, 8, [.f], .other⟩ = true := by kernel_rfl
theorem ty118 : tyChk Tryz.prog 118 ⟨1, 8, [.f], .other⟩ = true := by kernel_rfl
theorem ty119 : tyChk Tryz.prog 119 ⟨1, 8, [.f], .other⟩ = true := by kernel_rfl
theorem ty120 : tyChk Tryz.prog 120 ⟨1, 8, [.f], .other⟩ = true := by kernel_rfl
theorem ty121 : tyChk Tryz.prog 121 ⟨1, 8, [.f], .other⟩ = true := by kernel_rfl
theorem ty122 : tyChk Tryz.prog 122 ⟨1, 8, [.f], .other⟩ = true := by kernel_rfl
theorem ty123 : tyChk Tryz.prog 123 ⟨1, 8, [.f], .other⟩ = true := by kernel_rfl
theorem ty124 : tyChk Tryz.prog 124 ⟨1, 8, [.f], .other⟩ = true := by kernel_rfl
theorem ty125 : tyChk Tryz.prog 125 ⟨1, 8, [.f], .other⟩ = true := by kernel_rfl
theorem ty126 : tyChk Tryz.prog 126 ⟨1, 8, [.f], .other⟩ = true := by kernel_rfl
theorem ty127 : tyChk Tryz.prog 127 ⟨1, 8, [.f], .other⟩ = true := by kernel_rfl
theorem ty128 : tyChk Tryz.prog 128 ⟨1, 8, [.f], .other⟩ = true := by kernel_rfl
theorem ty134 : tyChk Tryz.prog 134 ⟨1, 8, [.f], .other⟩ = true := by kernel_rfl
theorem ty135 : tyChk Tryz.prog 135 ⟨1, 4, [.i .u32], .int .u32⟩ = true := by kernel_rfl
theorem ty138 : tyChk Tryz.prog 138 ⟨1, 8, [.f], .other⟩ = true := by kernel_rfl
theorem ty139 : tyChk Tryz.prog 139 ⟨1, 8, [.p], .other⟩ = true := by kernel_rfl
theorem te22 : eqChk Tryz.prog 22 [.int .i64, .bool, .int .i64, .int .i64] = true := by kernel_rfl
theorem te23 : eqChk Tryz.prog 23 [.int .i64, .bool, .int .i64, .int .i64] = true := by kernel_rfl
theorem te44 : eqChk Tryz.prog 44 [.int .i64, .int .i64, .int .i64, .int .i64, .int .i64, .int .i64, .int .i64, .int .u8] = true := by kernel_rfl
theorem te45 : eqChk Tryz.prog 45 [.int .i64, .int .i64, .int .i64, .int .i64, .int .i64, .int .i64, .int .i64, .int .u8] = true := by kernel_rfl
theorem te48 : eqChk Tryz.prog 48 [.int .i64, .int .i64, .int .i64] = true := by kernel_rfl
theorem te49 : eqChk Tryz.prog 49 [.int .i64, .int .i64, .int .i64] = true := by kernel_rfl
theorem te53 : eqChk Tryz.prog 53 [.int .i64, .int .i64, .int .i64, .int .i64, .int .i64] = true := by kernel_rfl
theorem te54 : eqChk Tryz.prog 54 [.int .i64, .int .i64, .int .i64, .int .i64, .int .i64] = true := by kernel_rfl
theorem te64 : eqChk Tryz.prog 64 [.int .i64, .int .i64, .int .i64, .int .i64] = true := by kernel_rfl
theorem te65 : eqChk Tryz.prog 65 [.int .i64, .int .i64, .int .i64, .int .i64] = true := by kernel_rfl
def T : Tab := ⟨tis, teq⟩
@[go_sem] theorem T_ti (t : TypeId) : T.ti t = tis t := rfl
@[go_sem] theorem T_eq (t : TypeId) : T.eq t = teq t := rfl
attribute [go_sem] tis teq
theorem T_ok : TabOK Tryz.prog T := by
  refine ⟨fun t i h => ?_, fun t cs h xs ys w hx hy => ?_⟩
  · simp only [T] at h
    unfold tis at h
    split at h
    · cases h; exact ty1
    · cases h; exact ty2
    · cases h; exact ty3
    · cases h; exact ty4
    · cases h; exact ty5
    · cases h; exact ty9
    · cases h; exact ty12
    · cases h; exact ty20
    · cases h; exact ty21
    · cases h; exact ty22
    · cases h; exact ty23
    · cases h; exact ty24
    · cases h; exact ty26
    · cases h; exact ty27
    · cases h; exact ty28
    · cases h; exact ty29
    · cases h; exact ty30
    · cases h; exact ty31
    · cases h; exact ty32
    · cases h; exact ty33
    · cases h; exact ty34
    · cases h; exact ty35
    · cases h; exact ty36
    · cases h; exact ty37
    · cases h; exact ty39
    · cases h; exact ty41
    · cases h; exact ty42
    · cases h; exact ty43
    · cases h; exact ty44
    · cases h; exact ty45
    · cases h; exact ty47
    · cases h; exact ty48
    · cases h; exact ty49
    · cases h; exact ty50
    · cases h; exact ty51
    · cases h; exact ty52
    · cases h; exact ty53
    · cases h; exact ty54
    · cases h; exact ty55
    · cases h; exact ty56
    · cases h; exact ty57
    · cases h; exact ty59
    · cases h; exact ty61
    · cases h; exact ty62
    · cases h; exact ty63
    · cases h; exact ty64
    · cases h; exact ty65
    · cases h; exact ty66
    · cases h; exact ty67
    · cases h; exact ty68
    · cases h; exact ty69
    · cases h; exact ty70
    · cases h; exact ty72
    · cases h; exact ty73
    · cases h; exact ty74
    · cases h; exact ty75
    · cases h; exact ty76
    · cases h; exact ty77
    · cases h; exact ty78
    · cases h; exact ty79
    · cases h; exact ty80
    · cases h; exact ty81
    · cases h; exact ty82
    · cases h; exact ty83
    · cases h; exact ty85
    · cases h; exact ty86
    · cases h; exact ty87
    · cases h; exact ty88
    · cases h; exact ty89
    · cases h; exact ty90
    · cases h; exact ty91
    · cases h; exact ty92
    · cases h; exact ty93
    · cases h; exact ty94
    · cases h; exact ty95
    · cases h; exact ty96
    · cases h; exact ty97
    · cases h; exact ty98
    · cases h; exact ty99
    · cases h; exact ty100
    · cases h; exact ty101
    · cases h; exact ty102
    · cases h; exact ty103
    · cases h; exact ty104
    · cases h; exact ty105
    · cases h; exact ty106
    · cases h; exact ty107
    · cases h; exact ty108
    · cases h; exact ty109
    · cases h; exact ty110
    · cases h; exact ty111
    · cases h; exact ty112
    · cases h; exact ty113
    · cases h; exact ty114
    · cases h; exact ty115
    · cases h; exact ty116
    · cases h; exact ty117
    · cases h; exact ty118
    · cases h; exact ty119
    · cases h; exact ty120
    · cases h; exact ty121
    · cases h; exact ty122
    · cases h; exact ty123
    · cases h; exact ty124
    · cases h; exact ty125
    · cases h; exact ty126
    · cases h; exact ty127
    · cases h; exact ty128
    · cases h; exact ty134
    · cases h; exact ty135
    · cases h; exact ty138
    · cases h; exact ty139
    · cases h
  · simp only [T] at h
    unfold teq at h
    split at h
    · cases h; exact eq_of_chk te22 xs ys w hx hy
    · cases h; exact eq_of_chk te23 xs ys w hx hy
    · cases h; exact eq_of_chk te44 xs ys w hx hy
    · cases h; exact eq_of_chk te45 xs ys w hx hy
    · cases h; exact eq_of_chk te48 xs ys w hx hy
    · cases h; exact eq_of_chk te49 xs ys w hx hy
    · cases h; exact eq_of_chk te53 xs ys w hx hy
    · cases h; exact eq_of_chk te54 xs ys w hx hy
    · cases h; exact eq_of_chk te64 xs ys w hx hy
    · cases h; exact eq_of_chk te65 xs ys w hx hy
    · cases h
end Go.Proofs.YtaggojedpkddjaaGreat
