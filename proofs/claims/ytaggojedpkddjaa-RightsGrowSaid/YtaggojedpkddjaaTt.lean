/-
  THE TABLE OF TYPES of this seat's program, made by program (mkT.py); each row is asked of the program by the kernel.
-/
import Derived.Test.YtaggojedpkddjaaProg
import Derived.Test.YtaggojedpkddjaaKo
set_option linter.unusedVariables false
set_option maxRecDepth 100000
namespace Go.Proofs.Ytaggojedpkddjaa
open Go.Gx

def tis : TypeId → Option TI
  | 1 => some ⟨1, 8, [.f], .other⟩
  | 2 => some ⟨1, 8, [.i .i64], .int .i64⟩
  | 3 => some ⟨1, 8, [.i .i64], .int .i64⟩
  | 4 => some ⟨1, 1, [.b], .bool⟩
  | 5 => some ⟨1, 1, [.i .u8], .int .u8⟩
  | 9 => some ⟨1, 16, [.s], .other⟩
  | 12 => some ⟨1, 8, [.i .u64], .int .u64⟩
  | 20 => some ⟨1, 16, [.ifc], .other⟩
  | 21 => some ⟨1, 4, [.i .i32], .int .i32⟩
  | 22 => some ⟨1, 24, [.sl], .slice 48⟩
  | 23 => some ⟨1, 24, [.sl], .slice 65⟩
  | 24 => some ⟨1, 24, [.sl], .slice 67⟩
  | 25 => some ⟨1, 24, [.sl], .slice 69⟩
  | 26 => some ⟨4, 96, [.sl, .sl, .sl, .sl], .struct [(0, 1, false), (1, 1, false), (2, 1, false), (3, 1, false)]⟩
  | 27 => some ⟨4, 96, [.sl, .sl, .sl, .sl], .struct [(0, 1, false), (1, 1, false), (2, 1, false), (3, 1, false)]⟩
  | 28 => some ⟨1, 8, [.f], .other⟩
  | 29 => some ⟨1, 8, [.f], .other⟩
  | 30 => some ⟨1, 8, [.i .i64], .int .i64⟩
  | 32 => some ⟨1, 8, [.f], .other⟩
  | 34 => some ⟨1, 8, [.f], .other⟩
  | 35 => some ⟨1, 8, [.f], .other⟩
  | 36 => some ⟨1, 8, [.f], .other⟩
  | 37 => some ⟨1, 8, [.f], .other⟩
  | 38 => some ⟨1, 24, [.sl], .slice 3⟩
  | 39 => some ⟨6, 64, [.i .i64, .i .i64, .i .i64, .i .i64, .i .i64, .sl], .struct [(0, 1, false), (1, 1, false), (2, 1, false), (3, 1, false), (4, 1, false), (5, 1, false)]⟩
  | 40 => some ⟨6, 64, [.i .i64, .i .i64, .i .i64, .i .i64, .i .i64, .sl], .struct [(0, 1, false), (1, 1, false), (2, 1, false), (3, 1, false), (4, 1, false), (5, 1, false)]⟩
  | 41 => some ⟨1, 8, [.f], .other⟩
  | 42 => some ⟨1, 8, [.f], .other⟩
  | 43 => some ⟨4, 32, [.i .i64, .b, .i .i64, .i .i64], .struct [(0, 1, false), (1, 1, false), (2, 1, false), (3, 1, false)]⟩
  | 44 => some ⟨4, 32, [.i .i64, .b, .i .i64, .i .i64], .struct [(0, 1, false), (1, 1, false), (2, 1, false), (3, 1, false)]⟩
  | 46 => some ⟨1, 8, [.f], .other⟩
  | 47 => some ⟨8, 64, [.i .i64, .i .i64, .i .i64, .i .i64, .i .i64, .i .i64, .i .i64, .i .u8], .struct [(0, 1, false), (1, 1, false), (2, 1, false), (3, 1, false), (4, 1, false), (5, 1, false), (6, 1, false), (7, 1, false)]⟩
  | 48 => some ⟨8, 64, [.i .i64, .i .i64, .i .i64, .i .i64, .i .i64, .i .i64, .i .i64, .i .u8], .struct [(0, 1, false), (1, 1, false), (2, 1, false), (3, 1, false), (4, 1, false), (5, 1, false), (6, 1, false), (7, 1, false)]⟩
  | 49 => some ⟨1, 8, [.f], .other⟩
  | 50 => some ⟨1, 8, [.f], .other⟩
  | 51 => some ⟨1, 8, [.f], .other⟩
  | 52 => some ⟨1, 8, [.f], .other⟩
  | 54 => some ⟨1, 8, [.f], .other⟩
  | 56 => some ⟨1, 8, [.f], .other⟩
  | 58 => some ⟨1, 8, [.f], .other⟩
  | 60 => some ⟨1, 8, [.f], .other⟩
  | 62 => some ⟨1, 8, [.f], .other⟩
  | 63 => some ⟨1, 8, [.f], .other⟩
  | 64 => some ⟨3, 24, [.i .i64, .i .i64, .i .i64], .struct [(0, 1, false), (1, 1, false), (2, 1, false)]⟩
  | 65 => some ⟨3, 24, [.i .i64, .i .i64, .i .i64], .struct [(0, 1, false), (1, 1, false), (2, 1, false)]⟩
  | 66 => some ⟨4, 32, [.i .i64, .i .i64, .i .i64, .i .i64], .struct [(0, 1, false), (1, 1, false), (2, 1, false), (3, 1, false)]⟩
  | 67 => some ⟨4, 32, [.i .i64, .i .i64, .i .i64, .i .i64], .struct [(0, 1, false), (1, 1, false), (2, 1, false), (3, 1, false)]⟩
  | 68 => some ⟨5, 40, [.i .i64, .i .i64, .i .i64, .i .i64, .i .i64], .struct [(0, 1, false), (1, 1, false), (2, 1, false), (3, 1, false), (4, 1, false)]⟩
  | 69 => some ⟨5, 40, [.i .i64, .i .i64, .i .i64, .i .i64, .i .i64], .struct [(0, 1, false), (1, 1, false), (2, 1, false), (3, 1, false), (4, 1, false)]⟩
  | 70 => some ⟨1, 8, [.f], .other⟩
  | 71 => some ⟨1, 8, [.f], .other⟩
  | 72 => some ⟨1, 8, [.f], .other⟩
  | 74 => some ⟨1, 8, [.f], .other⟩
  | 76 => some ⟨1, 8, [.f], .other⟩
  | 77 => some ⟨1, 8, [.f], .other⟩
  | 78 => some ⟨1, 8, [.f], .other⟩
  | 79 => some ⟨1, 8, [.f], .other⟩
  | 80 => some ⟨1, 8, [.f], .other⟩
  | 81 => some ⟨1, 8, [.f], .other⟩
  | 82 => some ⟨1, 8, [.f], .other⟩
  | 83 => some ⟨1, 8, [.f], .other⟩
  | 84 => some ⟨1, 8, [.f], .other⟩
  | 85 => some ⟨1, 8, [.f], .other⟩
  | 86 => some ⟨1, 8, [.f], .other⟩
  | 87 => some ⟨1, 8, [.f], .other⟩
  | 88 => some ⟨1, 8, [.f], .other⟩
  | 89 => some ⟨1, 24, [.sl], .slice 27⟩
  | 90 => some ⟨1, 8, [.f], .other⟩
  | 91 => some ⟨1, 8, [.f], .other⟩
  | 92 => some ⟨1, 8, [.f], .other⟩
  | 93 => some ⟨1, 8, [.f], .other⟩
  | 94 => some ⟨1, 8, [.f], .other⟩
  | 95 => some ⟨1, 8, [.f], .other⟩
  | 96 => some ⟨1, 8, [.f], .other⟩
  | 97 => some ⟨1, 8, [.f], .other⟩
  | 98 => some ⟨1, 8, [.f], .other⟩
  | 99 => some ⟨1, 8, [.f], .other⟩
  | 100 => some ⟨1, 8, [.f], .other⟩
  | 101 => some ⟨1, 8, [.f], .other⟩
  | 102 => some ⟨1, 8, [.f], .other⟩
  | 104 => some ⟨1, 8, [.f], .other⟩
  | 105 => some ⟨1, 8, [.f], .other⟩
  | 106 => some ⟨1, 8, [.f], .other⟩
  | 107 => some ⟨1, 8, [.f], .other⟩
  | 108 => some ⟨1, 8, [.f], .other⟩
  | 109 => some ⟨1, 8, [.f], .other⟩
  | 110 => some ⟨1, 8, [.f], .other⟩
  | 111 => some ⟨1, 8, [.f], .other⟩
  | 112 => some ⟨1, 8, [.f], .other⟩
  | 113 => some ⟨1, 8, [.f], .other⟩
  | 114 => some ⟨1, 8, [.f], .other⟩
  | 115 => some ⟨1, 8, [.f], .other⟩
  | 116 => some ⟨1, 8, [.f], .other⟩
  | 117 => some ⟨1, 8, [.f], .other⟩
  | 118 => some ⟨1, 8, [.f], .other⟩
  | 119 => some ⟨1, 8, [.f], .other⟩
  | 120 => some ⟨1, 8, [.f], .other⟩
  | 121 => some ⟨1, 8, [.f], .other⟩
  | 122 => some ⟨1, 8, [.f], .other⟩
  | 123 => some ⟨1, 8, [.f], .other⟩
  | 124 => some ⟨1, 8, [.f], .other⟩
  | 125 => some ⟨1, 8, [.f], .other⟩
  | 126 => some ⟨1, 8, [.f], .other⟩
  | 127 => some ⟨1, 8, [.f], .other⟩
  | 128 => some ⟨1, 8, [.f], .other⟩
  | 130 => some ⟨1, 8, [.f], .other⟩
  | 131 => some ⟨1, 8, [.f], .other⟩
  | 133 => some ⟨1, 8, [.f], .other⟩
  | 134 => some ⟨1, 8, [.f], .other⟩
  | 135 => some ⟨1, 8, [.f], .other⟩
  | 136 => some ⟨1, 8, [.f], .other⟩
  | 137 => some ⟨1, 8, [.f], .other⟩
  | 138 => some ⟨1, 8, [.f], .other⟩
  | 139 => some ⟨1, 8, [.f], .other⟩
  | 140 => some ⟨1, 8, [.f], .other⟩
  | 141 => some ⟨1, 8, [.f], .other⟩
  | 142 => some ⟨1, 8, [.i .u64], .int .u64⟩
  | 143 => some ⟨1, 8, [.f], .other⟩
  | 144 => some ⟨1, 8, [.f], .other⟩
  | 145 => some ⟨1, 8, [.f], .other⟩
  | 146 => some ⟨1, 8, [.f], .other⟩
  | 147 => some ⟨1, 8, [.f], .other⟩
  | 148 => some ⟨1, 8, [.f], .other⟩
  | 149 => some ⟨1, 8, [.f], .other⟩
  | 150 => some ⟨4, 32, [.f, .f, .f, .f], .array 4 1 false⟩
  | 151 => some ⟨1, 8, [.f], .other⟩
  | 152 => some ⟨1, 8, [.f], .other⟩
  | 153 => some ⟨1, 8, [.f], .other⟩
  | 154 => some ⟨1, 8, [.f], .other⟩
  | 155 => some ⟨1, 8, [.f], .other⟩
  | 156 => some ⟨1, 8, [.f], .other⟩
  | 157 => some ⟨1, 8, [.f], .other⟩
  | 158 => some ⟨1, 8, [.f], .other⟩
  | 159 => some ⟨1, 8, [.f], .other⟩
  | 160 => some ⟨1, 8, [.f], .other⟩
  | 161 => some ⟨1, 8, [.f], .other⟩
  | 162 => some ⟨1, 8, [.f], .other⟩
  | 168 => some ⟨1, 8, [.f], .other⟩
  | 169 => some ⟨1, 4, [.i .u32], .int .u32⟩
  | 172 => some ⟨1, 8, [.f], .other⟩
  | 173 => some ⟨1, 8, [.p], .other⟩
  | _ => none
def teq : TypeId → Option (List CK)
  | 43 => some [.int .i64, .bool, .int .i64, .int .i64]
  | 44 => some [.int .i64, .bool, .int .i64, .int .i64]
  | 47 => some [.int .i64, .int .i64, .int .i64, .int .i64, .int .i64, .int .i64, .int .i64, .int .u8]
  | 48 => some [.int .i64, .int .i64, .int .i64, .int .i64, .int .i64, .int .i64, .int .i64, .int .u8]
  | 64 => some [.int .i64, .int .i64, .int .i64]
  | 65 => some [.int .i64, .int .i64, .int .i64]
  | 66 => some [.int .i64, .int .i64, .int .i64, .int .i64]
  | 67 => some [.int .i64, .int .i64, .int .i64, .int .i64]
  | 68 => some [.int .i64, .int .i64, .int .i64, .int .i64, .int .i64]
  | 69 => some [.int .i64, .int .i64, .int .i64, .int .i64, .int .i64]
  | _ => none
theorem ty1 : tyChk Try.prog 1 ⟨1, 8, [.f], .other⟩ = true := by kernel_rfl
theorem ty2 : tyChk Try.prog 2 ⟨1, 8, [.i .i64], .int .i64⟩ = true := by kernel_rfl
theorem ty3 : tyChk Try.prog 3 ⟨1, 8, [.i .i64], .int .i64⟩ = true := by kernel_rfl
theorem ty4 : tyChk Try.prog 4 ⟨1, 1, [.b], .bool⟩ = true := by kernel_rfl
theorem ty5 : tyChk Try.prog 5 ⟨1, 1, [.i .u8], .int .u8⟩ = true := by kernel_rfl
theorem ty9 : tyChk Try.prog 9 ⟨1, 16, [.s], .other⟩ = true := by kernel_rfl
theorem ty12 : tyChk Try.prog 12 ⟨1, 8, [.i .u64], .int .u64⟩ = true := by kernel_rfl
theorem ty20 : tyChk Try.prog 20 ⟨1, 16, [.ifc], .other⟩ = true := by kernel_rfl
theorem ty21 : tyChk Try.prog 21 ⟨1, 4, [.i .i32], .int .i32⟩ = true := by kernel_rfl
theorem ty22 : tyChk Try.prog 22 ⟨1, 24, [.sl], .slice 48⟩ = true := by kernel_rfl
theorem ty23 : tyChk Try.prog 23 ⟨1, 24, [.sl], .slice 65⟩ = true := by kernel_rfl
theorem ty24 : tyChk Try.prog 24 ⟨1, 24, [.sl], .slice 67⟩ = true := by kernel_rfl
theorem ty25 : tyChk Try.prog 25 ⟨1, 24, [.sl], .slice 69⟩ = true := by kernel_rfl
theorem ty26 : tyChk Try.prog 26 ⟨4, 96, [.sl, .sl, .sl, .sl], .struct [(0, 1, false), (1, 1, false), (2, 1, false), (3, 1, false)]⟩ = true := by kernel_rfl
theorem ty27 : tyChk Try.prog 27 ⟨4, 96, [.sl, .sl, .sl, .sl], .struct [(0, 1, false), (1, 1, false), (2, 1, false), (3, 1, false)]⟩ = true := by kernel_rfl
theorem ty28 : tyChk Try.prog 28 ⟨1, 8, [.f], .other⟩ = true := by kernel_rfl
theorem ty29 : tyChk Try.prog 29 ⟨1, 8, [.f], .other⟩ = true := by kernel_rfl
theorem ty30 : tyChk Try.prog 30 ⟨1, 8, [.i .i64], .int .i64⟩ = true := by kernel_rfl
theorem ty32 : tyChk Try.prog 32 ⟨1, 8, [.f], .other⟩ = true := by kernel_rfl
theorem ty34 : tyChk Try.prog 34 ⟨1, 8, [.f], .other⟩ = true := by kernel_rfl
theorem ty35 : tyChk Try.prog 35 ⟨1, 8, [.f], .other⟩ = true := by kernel_rfl
theorem ty36 : tyChk Try.prog 36 ⟨1, 8, [.f], .other⟩ = true := by kernel_rfl
theorem ty37 : tyChk Try.prog 37 ⟨1, 8, [.f], .other⟩ = true := by kernel_rfl
theorem ty38 : tyChk Try.prog 38 ⟨1, 24, [.sl], .slice 3⟩ = true := by kernel_rfl
theorem ty39 : tyChk Try.prog 39 ⟨6, 64, [.i .i64, .i .i64, .i .i64, .i .i64, .i .i64, .sl], .struct [(0, 1, false), (1, 1, false), (2, 1, false), (3, 1, false), (4, 1, false), (5, 1, false)]⟩ = true := by kernel_rfl
theorem ty40 : tyChk Try.prog 40 ⟨6, 64, [.i .i64, .i .i64, .i .i64, .i .i64, .i .i64, .sl], .struct [(0, 1, false), (1, 1, false), (2, 1, false), (3, 1, false), (4, 1, false), (5, 1, false)]⟩ = true := by kernel_rfl
theorem ty41 : tyChk Try.prog 41 ⟨1, 8, [.f], .other⟩ = true := by kernel_rfl
theorem ty42 : tyChk Try.prog 42 ⟨1, 8, [.f], .other⟩ = true := by kernel_rfl
theorem ty43 : tyChk Try.prog 43 ⟨4, 32, [.i .i64, .b, .i .i64, .i .i64], .struct [(0, 1, false), (1, 1, false), (2, 1, false), (3, 1, false)]⟩ = true := by kernel_rfl
theorem ty44 : tyChk Try.prog 44 ⟨4, 32, [.i .i64, .b, .i .i64, .i .i64], .struct [(0, 1, false), (1, 1, false), (2, 1, false), (3, 1, false)]⟩ = true := by kernel_rfl
theorem ty46 : tyChk Try.prog 46 ⟨1, 8, [.f], .other⟩ = true := by kernel_rfl
theorem ty47 : tyChk Try.prog 47 ⟨8, 64, [.i .i64, .i .i64, .i .i64, .i .i64, .i .i64, .i .i64, .i .i64, .i .u8], .struct [(0, 1, false), (1, 1, false), (2, 1, false), (3, 1, false), (4, 1, false), (5, 1, false), (6, 1, false), (7, 1, false)]⟩ = true := by kernel_rfl
theorem ty48 : tyChk Try.prog 48 ⟨8, 64, [.i .i64, .i .i64, .i .i64, .i .i64, .i .i64, .i .i64, .i .i64, .i .u8], .struct [(0, 1, false), (1, 1, false), (2, 1, false), (3, 1, false), (4, 1, false), (5, 1, false), (6, 1, false), (7, 1, false)]⟩ = true := by kernel_rfl
theorem ty49 : tyChk Try.prog 49 ⟨1, 8, [.f], .other⟩ = true := by kernel_rfl
theorem ty50 : tyChk Try.prog 50 ⟨1, 8, [.f], .other⟩ = true := by kernel_rfl
theorem ty51 : tyChk Try.prog 51 ⟨1, 8, [.f], .other⟩ = true := by kernel_rfl
theorem ty52 : tyChk Try.prog 52 ⟨1, 8, [.f], .other⟩ = true := by kernel_rfl
theorem ty54 : tyChk Try.prog 54 ⟨1, 8, [.f], .other⟩ = true := by kernel_rfl
theorem ty56 : tyChk Try.prog 56 ⟨1, 8, [.f], .other⟩ = true := by kernel_rfl
theorem ty58 : tyChk Try.prog 58 ⟨1, 8, [.f], .other⟩ = true := by kernel_rfl
theorem ty60 : tyChk Try.prog 60 ⟨1, 8, [.f], .other⟩ = true := by kernel_rfl
theorem ty62 : tyChk Try.prog 62 ⟨1, 8, [.f], .other⟩ = true := by kernel_rfl
theorem ty63 : tyChk Try.prog 63 ⟨1, 8, [.f], .other⟩ = true := by kernel_rfl
theorem ty64 : tyChk Try.prog 64 ⟨3, 24, [.i .i64, .i .i64, .i .i64], .struct [(0, 1, false), (1, 1, false), (2, 1, false)]⟩ = true := by kernel_rfl
theorem ty65 : tyChk Try.prog 65 ⟨3, 24, [.i .i64, .i .i64, .i .i64], .struct [(0, 1, false), (1, 1, false), (2, 1, false)]⟩ = true := by kernel_rfl
theorem ty66 : tyChk Try.prog 66 ⟨4, 32, [.i .i64, .i .i64, .i .i64, .i .i64], .struct [(0, 1, false), (1, 1, false), (2, 1, false), (3, 1, false)]⟩ = true := by kernel_rfl
theorem ty67 : tyChk Try.prog 67 ⟨4, 32, [.i .i64, .i .i64, .i .i64, .i .i64], .struct [(0, 1, false), (1, 1, false), (2, 1, false), (3, 1, false)]⟩ = true := by kernel_rfl
theorem ty68 : tyChk Try.prog 68 ⟨5, 40, [.i .i64, .i .i64, .i .i64, .i .i64, .i .i64], .struct [(0, 1, false), (1, 1, false), (2, 1, false), (3, 1, false), (4, 1, false)]⟩ = true := by kernel_rfl
theorem ty69 : tyChk Try.prog 69 ⟨5, 40, [.i .i64, .i .i64, .i .i64, .i .i64, .i .i64], .struct [(0, 1, false), (1, 1, false), (2, 1, false), (3, 1, false), (4, 1, false)]⟩ = true := by kernel_rfl
theorem ty70 : tyChk Try.prog 70 ⟨1, 8, [.f], .other⟩ = true := by kernel_rfl
theorem ty71 : tyChk Try.prog 71 ⟨1, 8, [.f], .other⟩ = true := by kernel_rfl
theorem ty72 : tyChk Try.prog 72 ⟨1, 8, [.f], .other⟩ = true := by kernel_rfl
theorem ty74 : tyChk Try.prog 74 ⟨1, 8, [.f], .other⟩ = true := by kernel_rfl
theorem ty76 : tyChk Try.prog 76 ⟨1, 8, [.f], .other⟩ = true := by kernel_rfl
theorem ty77 : tyChk Try.prog 77 ⟨1, 8, [.f], .other⟩ = true := by kernel_rfl
theorem ty78 : tyChk Try.prog 78 ⟨1, 8, [.f], .other⟩ = true := by kernel_rfl
theorem ty79 : tyChk Try.prog 79 ⟨1, 8, [.f], .other⟩ = true := by kernel_rfl
theorem ty80 : tyChk Try.prog 80 ⟨1, 8, [.f], .other⟩ = true := by kernel_rfl
theorem ty81 : tyChk Try.prog 81 ⟨1, 8, [.f], .other⟩ = true := by kernel_rfl
theorem ty82 : tyChk Try.prog 82 ⟨1, 8, [.f], .other⟩ = true := by kernel_rfl
theorem ty83 : tyChk Try.prog 83 ⟨1, 8, [.f], .other⟩ = true := by kernel_rfl
theorem ty84 : tyChk Try.prog 84 ⟨1, 8, [.f], .other⟩ = true := by kernel_rfl
theorem ty85 : tyChk Try.prog 85 ⟨1, 8, [.f], .other⟩ = true := by kernel_rfl
theorem ty86 : tyChk Try.prog 86 ⟨1, 8, [.f], .other⟩ = true := by kernel_rfl
theorem ty87 : tyChk Try.prog 87 ⟨1, 8, [.f], .other⟩ = true := by kernel_rfl
theorem ty88 : tyChk Try.prog 88 ⟨1, 8, [.f], .other⟩ = true := by kernel_rfl
theorem ty89 : tyChk Try.prog 89 ⟨1, 24, [.sl], .slice 27⟩ = true := by kernel_rfl
theorem ty90 : tyChk Try.prog 90 ⟨1, 8, [.f], .other⟩ = true := by kernel_rfl
theorem ty91 : tyChk Try.prog 91 ⟨1, 8, [.f], .other⟩ = true := by kernel_rfl
theorem ty92 : tyChk Try.prog 92 ⟨1, 8, [.f], .other⟩ = true := by kernel_rfl
theorem ty93 : tyChk Try.prog 93 ⟨1, 8, [.f], .other⟩ = true := by kernel_rfl
theorem ty94 : tyChk Try.prog 94 ⟨1, 8, [.f], .other⟩ = true := by kernel_rfl
theorem ty95 : tyChk Try.prog 95 ⟨1, 8, [.f], .other⟩ = true := by kernel_rfl
theorem ty96 : tyChk Try.prog 96 ⟨1, 8, [.f], .other⟩ = true := by kernel_rfl
theorem ty97 : tyChk Try.prog 97 ⟨1, 8, [.f], .other⟩ = true := by kernel_rfl
theorem ty98 : tyChk Try.prog 98 ⟨1, 8, [.f], .other⟩ = true := by kernel_rfl
theorem ty99 : tyChk Try.prog 99 ⟨1, 8, [.f], .other⟩ = true := by kernel_rfl
theorem ty100 : tyChk Try.prog 100 ⟨1, 8, [.f], .other⟩ = true := by kernel_rfl
theorem ty101 : tyChk Try.prog 101 ⟨1, 8, [.f], .other⟩ = true := by kernel_rfl
theorem ty102 : tyChk Try.prog 102 ⟨1, 8, [.f], .other⟩ = true := by kernel_rfl
theorem ty104 : tyChk Try.prog 104 ⟨1, 8, [.f], .other⟩ = true := by kernel_rfl
theorem ty105 : tyChk Try.prog 105 ⟨1, 8, [.f], .other⟩ = true := by kernel_rfl
theorem ty106 : tyChk Try.prog 106 ⟨1, 8, [.f], .other⟩ = true := by kernel_rfl
theorem ty107 : tyChk Try.prog 107 ⟨1, 8, [.f], .other⟩ = true := by kernel_rfl
theorem ty108 : tyChk Try.prog 108 ⟨1, 8, [.f], .other⟩ = true := by kernel_rfl
theorem ty109 : tyChk Try.prog 109 ⟨1, 8, [.f], .other⟩ = true := by kernel_rfl
theorem ty110 : tyChk Try.prog 110 ⟨1, 8, [.f], .other⟩ = true := by kernel_rfl
theorem ty111 : tyChk Try.prog 111 ⟨1, 8, [.f], .other⟩ = true := by kernel_rfl
theorem ty112 : tyChk Try.prog 112 ⟨1, 8, [.f], .other⟩ = true := by kernel_rfl
theorem ty113 : tyChk Try.prog 113 ⟨1, 8, [.f], .other⟩ = true := by kernel_rfl
theorem ty114 : tyChk Try.prog 114 ⟨1, 8, [.f], .other⟩ = true := by kernel_rfl
theorem ty115 : tyChk Try.prog 115 ⟨1, 8, [.f], .other⟩ = true := by kernel_rfl
theorem ty116 : tyChk Try.prog 116 ⟨1, 8, [.f], .other⟩ = true := by kernel_rfl
theorem ty117 : tyChk Try.prog 117 ⟨1, 8, [.f], .other⟩ = true := by kernel_rfl
theorem ty118 : tyChk Try.prog 118 ⟨1, 8, [.f], .other⟩ = true := by kernel_rfl
theorem ty119 : tyChk Try.prog 119 ⟨1, 8, [.f], .other⟩ = true := by kernel_rfl
theorem ty120 : tyChk Try.prog 120 ⟨1, 8, [.f], .other⟩ = true := by kernel_rfl
theorem ty121 : tyChk Try.prog 121 ⟨1, 8, [.f], .other⟩ = true := by kernel_rfl
theorem ty122 : tyChk Try.prog 122 ⟨1, 8, [.f], .other⟩ = true := by kernel_rfl
theorem ty123 : tyChk Try.prog 123 ⟨1, 8, [.f], .other⟩ = true := by kernel_rfl
theorem ty124 : tyChk Try.prog 124 ⟨1, 8, [.f], .other⟩ = true := by kernel_rfl
theorem ty125 : tyChk Try.prog 125 ⟨1, 8, [.f], .other⟩ = true := by kernel_rfl
theorem ty126 : tyChk Try.prog 126 ⟨1, 8, [.f], .other⟩ = true := by kernel_rfl
theorem ty127 : tyChk Try.prog 127 ⟨1, 8, [.f], .other⟩ = true := by kernel_rfl
theorem ty128 : tyChk Try.prog 128 ⟨1, 8, [.f], .other⟩ = true := by kernel_rfl
theorem ty130 : tyChk Try.prog 130 ⟨1, 8, [.f], .other⟩ = true := by kernel_rfl
theorem ty131 : tyChk Try.prog 131 ⟨1, 8, [.f], .other⟩ = true := by kernel_rfl
theorem ty133 : tyChk Try.prog 133 ⟨1, 8, [.f], .other⟩ = true := by kernel_rfl
theorem ty134 : tyChk Try.prog 134 ⟨1, 8, [.f], .other⟩ = true := by kernel_rfl
theorem ty135 : tyChk Try.prog 135 ⟨1, 8, [.f], .other⟩ = true := by kernel_rfl
theorem ty136 : tyChk Try.prog 136 ⟨1, 8, [.f], .other⟩ = true := by kernel_rfl
theorem ty137 : tyChk Try.prog 137 ⟨1, 8, [.f], .other⟩ = true := by kernel_rfl
theorem ty138 : tyChk Try.prog 138 ⟨1, 8, [.f], .other⟩ = true := by kernel_rfl
theorem ty139 : tyChk Try.prog 139 ⟨1, 8, [.f], .other⟩ = true := by kernel_rfl
theorem ty140 : tyChk Try.prog 140 ⟨1, 8, [.f], .other⟩ = true := by kernel_rfl
theorem ty141 : tyChk Try.prog 141 ⟨1, 8, [.f], .other⟩ = true := by kernel_rfl
theorem ty142 : tyChk Try.prog 142 ⟨1, 8, [.i .u64], .int .u64⟩ = true := by kernel_rfl
theorem ty143 : tyChk Try.prog 143 ⟨1, 8, [.f], .other⟩ = true := by kernel_rfl
theorem ty144 : tyChk Try.prog 144 ⟨1, 8, [.f], .other⟩ = true := by kernel_rfl
theorem ty145 : tyChk Try.prog 145 ⟨1, 8, [.f], .other⟩ = true := by kernel_rfl
theorem ty146 : tyChk Try.prog 146 ⟨1, 8, [.f], .other⟩ = true := by kernel_rfl
theorem ty147 : tyChk Try.prog 147 ⟨1, 8, [.f], .other⟩ = true := by kernel_rfl
theorem ty148 : tyChk Try.prog 148 ⟨1, 8, [.f], .other⟩ = true := by kernel_rfl
theorem ty149 : tyChk Try.prog 149 ⟨1, 8, [.f], .other⟩ = true := by kernel_rfl
theorem ty150 : tyChk Try.prog 150 ⟨4, 32, [.f, .f, .f, .f], .array 4 1 false⟩ = true := by kernel_rfl
theorem ty151 : tyChk Try.prog 151 ⟨1, 8, [.f], .other⟩ = true := by kernel_rfl
theorem ty152 : tyChk Try.prog 152 ⟨1, 8, [.f], .other⟩ = true := by kernel_rfl
theorem ty153 : tyChk Try.prog 153 ⟨1, 8, [.f], .other⟩ = true := by kernel_rfl
theorem ty154 : tyChk Try.prog 154 ⟨1, 8, [.f], .other⟩ = true := by kernel_rfl
theorem ty155 : tyChk Try.prog 155 ⟨1, 8, [.f], .other⟩ = true := by kernel_rfl
theorem ty156 : tyChk Try.prog 156 ⟨1, 8, [.f], .other⟩ = true := by kernel_rfl
theorem ty157 : tyChk Try.prog 157 ⟨1, 8, [.f], .other⟩ = true := by kernel_rfl
theorem ty158 : tyChk Try.prog 158 ⟨1, 8, [.f], .other⟩ = true := by kernel_rfl
theorem ty159 : tyChk Try.prog 159 ⟨1, 8, [.f], .other⟩ = true := by kernel_rfl
theorem ty160 : tyChk Try.prog 160 ⟨1, 8, [.f], .other⟩ = true := by kernel_rfl
theorem ty161 : tyChk Try.prog 161 ⟨1, 8, [.f], .other⟩ = true := by kernel_rfl
theorem ty162 : tyChk Try.prog 162 ⟨1, 8, [.f], .other⟩ = true := by kernel_rfl
theorem ty168 : tyChk Try.prog 168 ⟨1, 8, [.f], .other⟩ = true := by kernel_rfl
theorem ty169 : tyChk Try.prog 169 ⟨1, 4, [.i .u32], .int .u32⟩ = true := by kernel_rfl
theorem ty172 : tyChk Try.prog 172 ⟨1, 8, [.f], .other⟩ = true := by kernel_rfl
theorem ty173 : tyChk Try.prog 173 ⟨1, 8, [.p], .other⟩ = true := by kernel_rfl
theorem te43 : eqChk Try.prog 43 [.int .i64, .bool, .int .i64, .int .i64] = true := by kernel_rfl
theorem te44 : eqChk Try.prog 44 [.int .i64, .bool, .int .i64, .int .i64] = true := by kernel_rfl
theorem te47 : eqChk Try.prog 47 [.int .i64, .int .i64, .int .i64, .int .i64, .int .i64, .int .i64, .int .i64, .int .u8] = true := by kernel_rfl
theorem te48 : eqChk Try.prog 48 [.int .i64, .int .i64, .int .i64, .int .i64, .int .i64, .int .i64, .int .i64, .int .u8] = true := by kernel_rfl
theorem te64 : eqChk Try.prog 64 [.int .i64, .int .i64, .int .i64] = true := by kernel_rfl
theorem te65 : eqChk Try.prog 65 [.int .i64, .int .i64, .int .i64] = true := by kernel_rfl
theorem te66 : eqChk Try.prog 66 [.int .i64, .int .i64, .int .i64, .int .i64] = true := by kernel_rfl
theorem te67 : eqChk Try.prog 67 [.int .i64, .int .i64, .int .i64, .int .i64] = true := by kernel_rfl
theorem te68 : eqChk Try.prog 68 [.int .i64, .int .i64, .int .i64, .int .i64, .int .i64] = true := by kernel_rfl
theorem te69 : eqChk Try.prog 69 [.int .i64, .int .i64, .int .i64, .int .i64, .int .i64] = true := by kernel_rfl
def T : Tab := ⟨tis, teq⟩
@[go_sem] theorem T_ti (t : TypeId) : T.ti t = tis t := rfl
@[go_sem] theorem T_eq (t : TypeId) : T.eq t = teq t := rfl
attribute [go_sem] tis teq
theorem T_ok : TabOK Try.prog T := by
  refine ⟨fun t i h => ?_, fun t cs h xs ys w hx hy => ?_⟩
  · simp only [T] at h
    unfold tis at h
    split at h
    · cases h; exact ty1
    · cases h; exact ty2
    · cases h; exact ty3
    · cases h; exact ty4
    · cases h; exact ty5
    · cases h; exact ty9
    · cases h; exact ty12
    · cases h; exact ty20
    · cases h; exact ty21
    · cases h; exact ty22
    · cases h; exact ty23
    · cases h; exact ty24
    · cases h; exact ty25
    · cases h; exact ty26
    · cases h; exact ty27
    · cases h; exact ty28
    · cases h; exact ty29
    · cases h; exact ty30
    · cases h; exact ty32
    · cases h; exact ty34
    · cases h; exact ty35
    · cases h; exact ty36
    · cases h; exact ty37
    · cases h; exact ty38
    · cases h; exact ty39
    · cases h; exact ty40
    · cases h; exact ty41
    · cases h; exact ty42
    · cases h; exact ty43
    · cases h; exact ty44
    · cases h; exact ty46
    · cases h; exact ty47
    · cases h; exact ty48
    · cases h; exact ty49
    · cases h; exact ty50
    · cases h; exact ty51
    · cases h; exact ty52
    · cases h; exact ty54
    · cases h; exact ty56
    · cases h; exact ty58
    · cases h; exact ty60
    · cases h; exact ty62
    · cases h; exact ty63
    · cases h; exact ty64
    · cases h; exact ty65
    · cases h; exact ty66
    · cases h; exact ty67
    · cases h; exact ty68
    · cases h; exact ty69
    · cases h; exact ty70
    · cases h; exact ty71
    · cases h; exact ty72
    · cases h; exact ty74
    · cases h; exact ty76
    · cases h; exact ty77
    · cases h; exact ty78
    · cases h; exact ty79
    · cases h; exact ty80
    · cases h; exact ty81
    · cases h; exact ty82
    · cases h; exact ty83
    · cases h; exact ty84
    · cases h; exact ty85
    · cases h; exact ty86
    · cases h; exact ty87
    · cases h; exact ty88
    · cases h; exact ty89
    · cases h; exact ty90
    · cases h; exact ty91
    · cases h; exact ty92
    · cases h; exact ty93
    · cases h; exact ty94
    · cases h; exact ty95
    · cases h; exact ty96
    · cases h; exact ty97
    · cases h; exact ty98
    · cases h; exact ty99
    · cases h; exact ty100
    · cases h; exact ty101
    · cases h; exact ty102
    · cases h; exact ty104
    · cases h; exact ty105
    · cases h; exact ty106
    · cases h; exact ty107
    · cases h; exact ty108
    · cases h; exact ty109
    · cases h; exact ty110
    · cases h; exact ty111
    · cases h; exact ty112
    · cases h; exact ty113
    · cases h; exact ty114
    · cases h; exact ty115
    · cases h; exact ty116
    · cases h; exact ty117
    · cases h; exact ty118
    · cases h; exact ty119
    · cases h; exact ty120
    · cases h; exact ty121
    · cases h; exact ty122
    · cases h; exact ty123
    · cases h; exact ty124
    · cases h; exact ty125
    · cases h; exact ty126
    · cases h; exact ty127
    · cases h; exact ty128
    · cases h; exact ty130
    · cases h; exact ty131
    · cases h; exact ty133
    · cases h; exact ty134
    · cases h; exact ty135
    · cases h; exact ty136
    · cases h; exact ty137
    · cases h; exact ty138
    · cases h; exact ty139
    · cases h; exact ty140
    · cases h; exact ty141
    · cases h; exact ty142
    · cases h; exact ty143
    · cases h; exact ty144
    · cases h; exact ty145
    · cases h; exact ty146
    · cases h; exact ty147
    · cases h; exact ty148
    · cases h; exact ty149
    · cases h; exact ty150
    · cases h; exact ty151
    · cases h; exact ty152
    · cases h; exact ty153
    · cases h; exact ty154
    · cases h; exact ty155
    · cases h; exact ty156
    · cases h; exact ty157
    · cases h; exact ty158
    · cases h; exact ty159
    · cases h; exact ty160
    · cases h; exact ty161
    · cases h; exact ty162
    · cases h; exact ty168
    · cases h; exact ty169
    · cases h; exact ty172
    · cases h; exact ty173
    · cases h
  · simp only [T] at h
    unfold teq at h
    split at h
    · cases h; exact eq_of_chk te43 xs ys w hx hy
    · cases h; exact eq_of_chk te44 xs ys w hx hy
    · cases h; exact eq_of_chk te47 xs ys w hx hy
    · cases h; exact eq_of_chk te48 xs ys w hx hy
    · cases h; exact eq_of_chk te64 xs ys w hx hy
    · cases h; exact eq_of_chk te65 xs ys w hx hy
    · cases h; exact eq_of_chk te66 xs ys w hx hy
    · cases h; exact eq_of_chk te67 xs ys w hx hy
    · cases h; exact eq_of_chk te68 xs ys w hx hy
    · cases h; exact eq_of_chk te69 xs ys w hx hy
    · cases h
end Go.Proofs.Ytaggojedpkddjaa
