/-
  THE TABLE OF TYPES of this seat's program, made by program (mkT.py); each row is asked of the program by the kernel.
-/
import Derived.Test.YtnajladibkpeaaaGreatProg
import Derived.Test.YtnajladibkpeaaaGreatK5
import Derived.Test.YtnajladibkpeaaaGreatKu
set_option linter.unusedVariables false
set_option maxRecDepth 100000
namespace Go.Proofs.YtnajladibkpeaaaGreat
open Go.Gx

def tis : TypeId → Option TI
  | 1 => some ⟨1, 8, [.f], .other⟩
  | 2 => some ⟨1, 8, [.i .i64], .int .i64⟩
  | 3 => some ⟨1, 8, [.i .i64], .int .i64⟩
  | 4 => some ⟨1, 1, [.b], .bool⟩
  | 5 => some ⟨1, 1, [.i .u8], .int .u8⟩
  | 9 => some ⟨1, 16, [.s], .other⟩
  | 12 => some ⟨1, 8, [.i .u64], .int .u64⟩
  | 20 => some ⟨1, 16, [.ifc], .other⟩
  | 21 => some ⟨1, 4, [.i .i32], .int .i32⟩
  | 22 => some ⟨1, 24, [.sl], .slice 31⟩
  | 23 => some ⟨1, 8, [.f], .other⟩
  | 24 => some ⟨1, 24, [.sl], .slice 105⟩
  | 25 => some ⟨1, 24, [.sl], .slice 41⟩
  | 26 => some ⟨1, 24, [.sl], .slice 52⟩
  | 27 => some ⟨3, 72, [.sl, .sl, .sl], .struct [(0, 1, false), (1, 1, false), (2, 1, false)]⟩
  | 28 => some ⟨3, 72, [.sl, .sl, .sl], .struct [(0, 1, false), (1, 1, false), (2, 1, false)]⟩
  | 29 => some ⟨1, 8, [.m], .map 34 35⟩
  | 30 => some ⟨5, 5, [.i .u8, .i .u8, .i .u8, .i .u8, .b], .struct [(0, 1, false), (1, 1, false), (2, 1, false), (3, 1, false), (4, 1, false)]⟩
  | 31 => some ⟨5, 5, [.i .u8, .i .u8, .i .u8, .i .u8, .b], .struct [(0, 1, false), (1, 1, false), (2, 1, false), (3, 1, false), (4, 1, false)]⟩
  | 33 => some ⟨1, 8, [.f], .other⟩
  | 34 => some ⟨2, 16, [.i .i64, .i .i64], .array 2 1 false⟩
  | 35 => some ⟨1, 8, [.m], .map 37 4⟩
  | 36 => some ⟨2, 16, [.i .i64, .b], .struct [(0, 1, false), (1, 1, false)]⟩
  | 37 => some ⟨2, 16, [.i .i64, .b], .struct [(0, 1, false), (1, 1, false)]⟩
  | 38 => some ⟨1, 8, [.i .i64], .int .i64⟩
  | 39 => some ⟨1, 8, [.f], .other⟩
  | 40 => some ⟨3, 24, [.i .i64, .i .i64, .b], .struct [(0, 1, false), (1, 1, false), (2, 1, false)]⟩
  | 41 => some ⟨3, 24, [.i .i64, .i .i64, .b], .struct [(0, 1, false), (1, 1, false), (2, 1, false)]⟩
  | 42 => some ⟨1, 24, [.sl], .slice 3⟩
  | 44 => some ⟨1, 8, [.f], .other⟩
  | 45 => some ⟨1, 8, [.f], .other⟩
  | 46 => some ⟨1, 8, [.f], .other⟩
  | 48 => some ⟨1, 8, [.f], .other⟩
  | 49 => some ⟨1, 8, [.f], .other⟩
  | 50 => some ⟨1, 24, [.sl], .slice 37⟩
  | 51 => some ⟨3, 40, [.i .i64, .i .i64, .sl], .struct [(0, 1, false), (1, 1, false), (2, 1, false)]⟩
  | 52 => some ⟨3, 40, [.i .i64, .i .i64, .sl], .struct [(0, 1, false), (1, 1, false), (2, 1, false)]⟩
  | 53 => some ⟨1, 8, [.f], .other⟩
  | 54 => some ⟨1, 8, [.f], .other⟩
  | 56 => some ⟨1, 8, [.f], .other⟩
  | 57 => some ⟨1, 8, [.f], .other⟩
  | 59 => some ⟨1, 8, [.f], .other⟩
  | 61 => some ⟨1, 8, [.f], .other⟩
  | 62 => some ⟨1, 8, [.f], .other⟩
  | 64 => some ⟨1, 8, [.f], .other⟩
  | 65 => some ⟨1, 8, [.f], .other⟩
  | 66 => some ⟨1, 8, [.f], .other⟩
  | 67 => some ⟨1, 8, [.f], .other⟩
  | 68 => some ⟨1, 8, [.f], .other⟩
  | 69 => some ⟨1, 8, [.f], .other⟩
  | 71 => some ⟨1, 8, [.f], .other⟩
  | 72 => some ⟨1, 24, [.sl], .slice 34⟩
  | 74 => some ⟨1, 8, [.f], .other⟩
  | 75 => some ⟨1, 8, [.f], .other⟩
  | 76 => some ⟨1, 24, [.sl], .slice 42⟩
  | 78 => some ⟨1, 8, [.f], .other⟩
  | 79 => some ⟨1, 8, [.f], .other⟩
  | 80 => some ⟨1, 8, [.f], .other⟩
  | 81 => some ⟨1, 8, [.f], .other⟩
  | 82 => some ⟨1, 8, [.p], .other⟩
  | 84 => some ⟨1, 8, [.f], .other⟩
  | 85 => some ⟨1, 8, [.f], .other⟩
  | 86 => some ⟨1, 8, [.m], .map 3 3⟩
  | 87 => some ⟨4, 80, [.sl, .sl, .sl, .m], .struct [(0, 3, true), (3, 1, false)]⟩
  | 88 => some ⟨4, 80, [.sl, .sl, .sl, .m], .struct [(0, 3, true), (3, 1, false)]⟩
  | 89 => some ⟨1, 8, [.f], .other⟩
  | 90 => some ⟨1, 8, [.f], .other⟩
  | 91 => some ⟨1, 8, [.f], .other⟩
  | 92 => some ⟨2, 16, [.i .i64, .i .i64], .array 2 1 false⟩
  | 93 => some ⟨1, 8, [.f], .other⟩
  | 94 => some ⟨1, 8, [.f], .other⟩
  | 95 => some ⟨1, 8, [.f], .other⟩
  | 96 => some ⟨1, 8, [.f], .other⟩
  | 97 => some ⟨1, 8, [.f], .other⟩
  | 98 => some ⟨1, 8, [.f], .other⟩
  | 99 => some ⟨1, 8, [.f], .other⟩
  | 100 => some ⟨1, 8, [.f], .other⟩
  | 101 => some ⟨1, 8, [.f], .other⟩
  | 102 => some ⟨1, 8, [.f], .other⟩
  | 103 => some ⟨1, 8, [.f], .other⟩
  | 104 => some ⟨2, 16, [.i .i64, .b], .struct [(0, 1, false), (1, 1, false)]⟩
  | 105 => some ⟨2, 16, [.i .i64, .b], .struct [(0, 1, false), (1, 1, false)]⟩
  | 106 => some ⟨1, 8, [.f], .other⟩
  | 107 => some ⟨1, 8, [.f], .other⟩
  | 109 => some ⟨1, 8, [.f], .other⟩
  | 110 => some ⟨1, 8, [.f], .other⟩
  | 111 => some ⟨1, 8, [.f], .other⟩
  | 112 => some ⟨1, 8, [.f], .other⟩
  | 113 => some ⟨1, 8, [.f], .other⟩
  | 114 => some ⟨1, 8, [.f], .other⟩
  | 115 => some ⟨1, 8, [.f], .other⟩
  | 116 => some ⟨1, 8, [.f], .other⟩
  | 117 => some ⟨1, 8, [.f], .other⟩
  | 118 => some ⟨1, 8, [.f], .other⟩
  | 119 => some ⟨1, 8, [.m], .map 3 42⟩
  | 120 => some ⟨1, 24, [.sl], .slice 92⟩
  | 122 => some ⟨1, 8, [.f], .other⟩
  | 123 => some ⟨1, 8, [.f], .other⟩
  | 124 => some ⟨1, 8, [.f], .other⟩
  | 125 => some ⟨1, 8, [.f], .other⟩
  | 126 => some ⟨1, 8, [.f], .other⟩
  | 127 => some ⟨1, 8, [.f], .other⟩
  | 128 => some ⟨1, 8, [.f], .other⟩
  | 129 => some ⟨1, 8, [.f], .other⟩
  | 130 => some ⟨1, 8, [.f], .other⟩
  | 131 => some ⟨1, 8, [.f], .other⟩
  | 132 => some ⟨1, 8, [.f], .other⟩
  | 133 => some ⟨1, 8, [.f], .other⟩
  | 134 => some ⟨1, 8, [.f], .other⟩
  | 135 => some ⟨1, 8, [.f], .other⟩
  | 136 => some ⟨1, 8, [.f], .other⟩
  | 137 => some ⟨1, 8, [.f], .other⟩
  | 138 => some ⟨1, 8, [.f], .other⟩
  | 139 => some ⟨1, 8, [.f], .other⟩
  | 140 => some ⟨1, 8, [.f], .other⟩
  | 141 => some ⟨1, 8, [.f], .other⟩
  | 142 => some ⟨1, 8, [.f], .other⟩
  | 143 => some ⟨1, 8, [.f], .other⟩
  | 144 => some ⟨1, 8, [.f], .other⟩
  | 145 => some ⟨1, 8, [.f], .other⟩
  | 146 => some ⟨1, 8, [.f], .other⟩
  | 147 => some ⟨1, 8, [.f], .other⟩
  | 148 => some ⟨1, 8, [.f], .other⟩
  | 149 => some ⟨1, 8, [.i .u64], .int .u64⟩
  | 150 => some ⟨1, 8, [.f], .other⟩
  | 151 => some ⟨1, 8, [.f], .other⟩
  | 152 => some ⟨1, 8, [.f], .other⟩
  | 153 => some ⟨1, 8, [.f], .other⟩
  | 154 => some ⟨1, 8, [.f], .other⟩
  | 155 => some ⟨1, 8, [.f], .other⟩
  | 156 => some ⟨1, 8, [.f], .other⟩
  | 157 => some ⟨1, 8, [.i .i64], .int .i64⟩
  | 159 => some ⟨1, 8, [.f], .other⟩
  | 160 => some ⟨1, 8, [.f], .other⟩
  | 161 => some ⟨1, 8, [.f], .other⟩
  | 162 => some ⟨1, 8, [.f], .other⟩
  | 163 => some ⟨1, 8, [.f], .other⟩
  | 164 => some ⟨1, 4, [.i .u32], .int .u32⟩
  | 165 => some ⟨1, 8, [.f], .other⟩
  | 166 => some ⟨1, 8, [.i .u64], .int .u64⟩
  | 167 => some ⟨1, 8, [.i .u64], .int .u64⟩
  | 168 => some ⟨1, 8, [.f], .other⟩
  | 169 => some ⟨1, 8, [.f], .other⟩
  | 170 => some ⟨1, 8, [.f], .other⟩
  | 171 => some ⟨1, 8, [.p], .other⟩
  | 172 => some ⟨1, 8, [.f], .other⟩
  | 173 => some ⟨1, 8, [.p], .other⟩
  | 175 => some ⟨1, 8, [.f], .other⟩
  | 176 => some ⟨1, 8, [.f], .other⟩
  | 182 => some ⟨1, 8, [.f], .other⟩
  | 185 => some ⟨1, 8, [.f], .other⟩
  | 186 => some ⟨1, 8, [.p], .other⟩
  | _ => none
def teq : TypeId → Option (List CK)
  | 30 => some [.int .u8, .int .u8, .int .u8, .int .u8, .bool]
  | 31 => some [.int .u8, .int .u8, .int .u8, .int .u8, .bool]
  | 34 => some [.int .i64, .int .i64]
  | 36 => some [.int .i64, .bool]
  | 37 => some [.int .i64, .bool]
  | 40 => some [.int .i64, .int .i64, .bool]
  | 41 => some [.int .i64, .int .i64, .bool]
  | 92 => some [.int .i64, .int .i64]
  | 104 => some [.int .i64, .bool]
  | 105 => some [.int .i64, .bool]
  | _ => none
theorem ty1 : tyChk Tryz.prog 1 ⟨1, 8, [.f], .other⟩ = true := by kernel_rfl
theorem ty2 : tyChk Tryz.prog 2 ⟨1, 8, [.i .i64], .int .i64⟩ = true := by kernel_rfl
theorem ty3 : tyChk Tryz.prog 3 ⟨1, 8, [.i .i64], .int .i64⟩ = true := by kernel_rfl
theorem ty4 : tyChk Tryz.prog 4 ⟨1, 1, [.b], .bool⟩ = true := by kernel_rfl
theorem ty5 : tyChk Tryz.prog 5 ⟨1, 1, [.i .u8], .int .u8⟩ = true := by kernel_rfl
theorem ty9 : tyChk Tryz.prog 9 ⟨1, 16, [.s], .other⟩ = true := by kernel_rfl
theorem ty12 : tyChk Tryz.prog 12 ⟨1, 8, [.i .u64], .int .u64⟩ = true := by kernel_rfl
theorem ty20 : tyChk Tryz.prog 20 ⟨1, 16, [.ifc], .other⟩ = true := by kernel_rfl
theorem ty21 : tyChk Tryz.prog 21 ⟨1, 4, [.i .i32], .int .i32⟩ = true := by kernel_rfl
theorem ty22 : tyChk Tryz.prog 22 ⟨1, 24, [.sl], .slice 31⟩ = true := by kernel_rfl
theorem ty23 : tyChk Tryz.prog 23 ⟨1, 8, [.f], .other⟩ = true := by kernel_rfl
theorem ty24 : tyChk Tryz.prog 24 ⟨1, 24, [.sl], .slice 105⟩ = true := by kernel_rfl
theorem ty25 : tyChk Tryz.prog 25 ⟨1, 24, [.sl], .slice 41⟩ = true := by kernel_rfl
theorem ty26 : tyChk Tryz.prog 26 ⟨1, 24, [.sl], .slice 52⟩ = true := by kernel_rfl
theorem ty27 : tyChk Tryz.prog 27 ⟨3, 72, [.sl, .sl, .sl], .struct [(0, 1, false), (1, 1, false), (2, 1, false)]⟩ = true := by kernel_rfl
theorem ty28 : tyChk Tryz.prog 28 ⟨3, 72, [.sl, .sl, .sl], .struct [(0, 1, false), (1, 1, false), (2, 1, false)]⟩ = true := by kernel_rfl
theorem ty29 : tyChk Tryz.prog 29 ⟨1, 8, [.m], .map 34 35⟩ = true := by kernel_rfl
theorem ty30 : tyChk Tryz.prog 30 ⟨5, 5, [.i .u8, .i .u8, .i .u8, .i .u8, .b], .struct [(0, 1, false), (1, 1, false), (2, 1, false), (3, 1, false), (4, 1, false)]⟩ = true := by kernel_rfl
theorem ty31 : tyChk Tryz.prog 31 ⟨5, 5, [.i .u8, .i .u8, .i .u8, .i .u8, .b], .struct [(0, 1, false), (1, 1, false), (2, 1, false), (3, 1, false), (4, 1, false)]⟩ = true := by kernel_rfl
theorem ty33 : tyChk Tryz.prog 33 ⟨1, 8, [.f], .other⟩ = true := by kernel_rfl
theorem ty34 : tyChk Tryz.prog 34 ⟨2, 16, [.i .i64, .i .i64], .array 2 1 false⟩ = true := by kernel_rfl
theorem ty35 : tyChk Tryz.prog 35 ⟨1, 8, [.m], .map 37 4⟩ = true := by kernel_rfl
theorem ty36 : tyChk Tryz.prog 36 ⟨2, 16, [.i .i64, .b], .struct [(0, 1, false), (1, 1, false)]⟩ = true := by kernel_rfl
theorem ty37 : tyChk Tryz.prog 37 ⟨2, 16, [.i .i64, .b], .struct [(0, 1, false), (1, 1, false)]⟩ = true := by kernel_rfl
theorem ty38 : tyChk Tryz.prog 38 ⟨1, 8, [.i .i64], .int .i64⟩ = true := by kernel_rfl
theorem ty39 : tyChk Tryz.prog 39 ⟨1, 8, [.f], .other⟩ = true := by kernel_rfl
theorem ty40 : tyChk Tryz.prog 40 ⟨3, 24, [.i .i64, .i .i64, .b], .struct [(0, 1, false), (1, 1, false), (2, 1, false)]⟩ = true := by kernel_rfl
theorem ty41 : tyChk Tryz.prog 41 ⟨3, 24, [.i .i64, .i .i64, .b], .struct [(0, 1, false), (1, 1, false), (2, 1, false)]⟩ = true := by kernel_rfl
theorem ty42 : tyChk Tryz.prog 42 ⟨1, 24, [.sl], .slice 3⟩ = true := by kernel_rfl
theorem ty44 : tyChk Tryz.prog 44 ⟨1, 8, [.f], .other⟩ = true := by kernel_rfl
theorem ty45 : tyChk Tryz.prog 45 ⟨1, 8, [.f], .other⟩ = true := by kernel_rfl
theorem ty46 : tyChk Tryz.prog 46 ⟨1, 8, [.f], .other⟩ = true := by kernel_rfl
theorem ty48 : tyChk Tryz.prog 48 ⟨1, 8, [.f], .other⟩ = true := by kernel_rfl
theorem ty49 : tyChk Tryz.prog 49 ⟨1, 8, [.f], .other⟩ = true := by kernel_rfl
theorem ty50 : tyChk Tryz.prog 50 ⟨1, 24, [.sl], .slice 37⟩ = true := by kernel_rfl
theorem ty51 : tyChk Tryz.prog 51 ⟨3, 40, [.i .i64, .i .i64, .sl], .struct [(0, 1, false), (1, 1, false), (2, 1, false)]⟩ = true := by kernel_rfl
theorem ty52 : tyChk Tryz.prog 52 ⟨3, 40, [.i .i64, .i .i64, .sl], .struct [(0, 1, false), (1, 1, false), (2, 1, false)]⟩ = true := by kernel_rfl
theorem ty53 : tyChk Tryz.prog 53 ⟨1, 8, [.f], .other⟩ = true := by kernel_rfl
theorem ty54 : tyChk Tryz.prog 54 ⟨1, 8, [.f], .other⟩ = true := by kernel_rfl
theorem ty56 : tyChk Tryz.prog 56 ⟨1, 8, [.f], .other⟩ = true := by kernel_rfl
theorem ty57 : tyChk Tryz.prog 57 ⟨1, 8, [.f], .other⟩ = true := by kernel_rfl
theorem ty59 : tyChk Tryz.prog 59 ⟨1, 8, [.f], .other⟩ = true := by kernel_rfl
theorem ty61 : tyChk Tryz.prog 61 ⟨1, 8, [.f], .other⟩ = true := by kernel_rfl
theorem ty62 : tyChk Tryz.prog 62 ⟨1, 8, [.f], .other⟩ = true := by kernel_rfl
theorem ty64 : tyChk Tryz.prog 64 ⟨1, 8, [.f], .other⟩ = true := by kernel_rfl
theorem ty65 : tyChk Tryz.prog 65 ⟨1, 8, [.f], .other⟩ = true := by kernel_rfl
theorem ty66 : tyChk Tryz.prog 66 ⟨1, 8, [.f], .other⟩ = true := by kernel_rfl
theorem ty67 : tyChk Tryz.prog 67 ⟨1, 8, [.f], .other⟩ = true := by kernel_rfl
theorem ty68 : tyChk Tryz.prog 68 ⟨1, 8, [.f], .other⟩ = true := by kernel_rfl
theorem ty69 : tyChk Tryz.prog 69 ⟨1, 8, [.f], .other⟩ = true := by kernel_rfl
theorem ty71 : tyChk Tryz.prog 71 ⟨1, 8, [.f], .other⟩ = true := by kernel_rfl
theorem ty72 : tyChk Tryz.prog 72 ⟨1, 24, [.sl], .slice 34⟩ = true := by kernel_rfl
theorem ty74 : tyChk Tryz.prog 74 ⟨1, 8, [.f], .other⟩ = true := by kernel_rfl
theorem ty75 : tyChk Tryz.prog 75 ⟨1, 8, [.f], .other⟩ = true := by kernel_rfl
theorem ty76 : tyChk Tryz.prog 76 ⟨1, 24, [.sl], .slice 42⟩ = true := by kernel_rfl
theorem ty78 : tyChk Tryz.prog 78 ⟨1, 8, [.f], .other⟩ = true := by kernel_rfl
theorem ty79 : tyChk Tryz.prog 79 ⟨1, 8, [.f], .other⟩ = true := by kernel_rfl
theorem ty80 : tyChk Tryz.prog 80 ⟨1, 8, [.f], .other⟩ = true := by kernel_rfl
theorem ty81 : tyChk Tryz.prog 81 ⟨1, 8, [.f], .other⟩ = true := by kernel_rfl
theorem ty82 : tyChk Tryz.prog 82 ⟨1, 8, [.p], .other⟩ = true := by kernel_rfl
theorem ty84 : tyChk Tryz.prog 84 ⟨1, 8, [.f], .other⟩ = true := by kernel_rfl
theorem ty85 : tyChk Tryz.prog 85 ⟨1, 8, [.f], .other⟩ = true := by kernel_rfl
theorem ty86 : tyChk Tryz.prog 86 ⟨1, 8, [.m], .map 3 3⟩ = true := by kernel_rfl
theorem ty87 : tyChk Tryz.prog 87 ⟨4, 80, [.sl, .sl, .sl, .m], .struct [(0, 3, true), (3, 1, false)]⟩ = true := by kernel_rfl
theorem ty88 : tyChk Tryz.prog 88 ⟨4, 80, [.sl, .sl, .sl, .m], .struct [(0, 3, true), (3, 1, false)]⟩ = true := by kernel_rfl
theorem ty89 : tyChk Tryz.prog 89 ⟨1, 8, [.f], .other⟩ = true := by kernel_rfl
theorem ty90 : tyChk Tryz.prog 90 ⟨1, 8, [.f], .other⟩ = true := by kernel_rfl
theorem ty91 : tyChk Tryz.prog 91 ⟨1, 8, [.f], .other⟩ = true := by kernel_rfl
theorem ty92 : tyChk Tryz.prog 92 ⟨2, 16, [.i .i64, .i .i64], .array 2 1 false⟩ = true := by kernel_rfl
theorem ty93 : tyChk Tryz.prog 93 ⟨1, 8, [.f], .other⟩ = true := by kernel_rfl
theorem ty94 : tyChk Tryz.prog 94 ⟨1, 8, [.f], .other⟩ = true := by kernel_rfl
theorem ty95 : tyChk Tryz.prog 95 ⟨1, 8, [.f], .other⟩ = true := by kernel_rfl
theorem ty96 : tyChk Tryz.prog 96 ⟨1, 8, [.f], .other⟩ = true := by kernel_rfl
theorem ty97 : tyChk Tryz.prog 97 ⟨1, 8, [.f], .other⟩ = true := by kernel_rfl
theorem ty98 : tyChk Tryz.prog 98 ⟨1, 8, [.f], .other⟩ = true := by kernel_rfl
theorem ty99 : tyChk Tryz.prog 99 ⟨1, 8, [.f], .other⟩ = true := by kernel_rfl
theorem ty100 : tyChk Tryz.prog 100 ⟨1, 8, [.f], .other⟩ = true := by kernel_rfl
theorem ty101 : tyChk Tryz.prog 101 ⟨1, 8, [.f], .other⟩ = true := by kernel_rfl
theorem ty102 : tyChk Tryz.prog 102 ⟨1, 8, [.f], .other⟩ = true := by kernel_rfl
theorem ty103 : tyChk Tryz.prog 103 ⟨1, 8, [.f], .other⟩ = true := by kernel_rfl
theorem ty104 : tyChk Tryz.prog 104 ⟨2, 16, [.i .i64, .b], .struct [(0, 1, false), (1, 1, false)]⟩ = true := by kernel_rfl
theorem ty105 : tyChk Tryz.prog 105 ⟨2, 16, [.i .i64, .b], .struct [(0, 1, false), (1, 1, false)]⟩ = true := by kernel_rfl
theorem ty106 : tyChk Tryz.prog 106 ⟨1, 8, [.f], .other⟩ = true := by kernel_rfl
theorem ty107 : tyChk Tryz.prog 107 ⟨1, 8, [.f], .other⟩ = true := by kernel_rfl
theorem ty109 : tyChk Tryz.prog 109 ⟨1, 8, [.f], .other⟩ = true := by kernel_rfl
theorem ty110 : tyChk Tryz.prog 110 ⟨1, 8, [.f], .other⟩ = true := by kernel_rfl
theorem ty111 : tyChk Tryz.prog 111 ⟨1, 8, [.f], .other⟩ = true := by kernel_rfl
theorem ty112 : tyChk Tryz.prog 112 ⟨1, 8, [.f], .other⟩ = true := by kernel_rfl
theorem ty113 : tyChk Tryz.prog 113 ⟨1, 8, [.f], .other⟩ = true := by kernel_rfl
theorem ty114 : tyChk Tryz.prog 114 ⟨1, 8, [.f], .other⟩ = true := by kernel_rfl
theorem ty115 : tyChk Tryz.prog 115 ⟨1, 8, [.f], .other⟩ = true := by kernel_rfl
theorem ty116 : tyChk Tryz.prog 116 ⟨1, 8, [.f], .other⟩ = true := by kernel_rfl
theorem ty117 : tyChk Tryz.prog 117 ⟨1, 8, [.f], .other⟩ = true := by kernel_rfl
theorem ty118 : tyChk Tryz.prog 118 ⟨1, 8, [.f], .other⟩ = true := by kernel_rfl
theorem ty119 : tyChk Tryz.prog 119 ⟨1, 8, [.m], .map 3 42⟩ = true := by kernel_rfl
theorem ty120 : tyChk Tryz.prog 120 ⟨1, 24, [.sl], .slice 92⟩ = true := by kernel_rfl
theorem ty122 : tyChk Tryz.prog 122 ⟨1, 8, [.f], .other⟩ = true := by kernel_rfl
theorem ty123 : tyChk Tryz.prog 123 ⟨1, 8, [.f], .other⟩ = true := by kernel_rfl
theorem ty124 : tyChk Tryz.prog 124 ⟨1, 8, [.f], .other⟩ = true := by kernel_rfl
theorem ty125 : tyChk Tryz.prog 125 ⟨1, 8, [.f], .other⟩ = true := by kernel_rfl
theorem ty126 : tyChk Tryz.prog 126 ⟨1, 8, [.f], .other⟩ = true := by kernel_rfl
theorem ty127 : tyChk Tryz.prog 127 ⟨1, 8, [.f], .other⟩ = true := by kernel_rfl
theorem ty128 : tyChk Tryz.prog 128 ⟨1, 8, [.f], .other⟩ = true := by kernel_rfl
theorem ty129 : tyChk Tryz.prog 129 ⟨1, 8, [.f], .other⟩ = true := by kernel_rfl
theorem ty130 : tyChk Tryz.prog 130 ⟨1, 8, [.f], .other⟩ = true := by kernel_rfl
theorem ty131 : tyChk Tryz.prog 131 ⟨1, 8, [.f], .other⟩ = true := by kernel_rfl
theorem ty132 : tyChk Tryz.prog 132 ⟨1, 8, [.f], .other⟩ = true := by kernel_rfl
theorem ty133 : tyChk Tryz.prog 133 ⟨1, 8, [.f], .other⟩ = true := by kernel_rfl
theorem ty134 : tyChk Tryz.prog 134 ⟨1, 8, [.f], .other⟩ = true := by kernel_rfl
theorem ty135 : tyChk Tryz.prog 135 ⟨1, 8, [.f], .other⟩ = true := by kernel_rfl
theorem ty136 : tyChk Tryz.prog 136 ⟨1, 8, [.f], .other⟩ = true := by kernel_rfl
theorem ty137 : tyChk Tryz.prog 137 ⟨1, 8, [.f], .other⟩ = true := by kernel_rfl
theorem ty138 : tyChk Tryz.prog 138 ⟨1, 8, [.f], .other⟩ = true := by kernel_rfl
theorem ty139 : tyChk Tryz.prog 139 ⟨1, 8, [.f], .other⟩ = true := by kernel_rfl
theorem ty140 : tyChk Tryz.prog 140 ⟨1, 8, [.f], .other⟩ = true := by kernel_rfl
theorem ty141 : tyChk Tryz.prog 141 ⟨1, 8, [.f], .other⟩ = true := by kernel_rfl
theorem ty142 : tyChk Tryz.prog 142 ⟨1, 8, [.f], .other⟩ = true := by kernel_rfl
theorem ty143 : tyChk Tryz.prog 143 ⟨1, 8, [.f], .other⟩ = true := by kernel_rfl
theorem ty144 : tyChk Tryz.prog 144 ⟨1, 8, [.f], .other⟩ = true := by kernel_rfl
theorem ty145 : tyChk Tryz.prog 145 ⟨1, 8, [.f], .other⟩ = true := by kernel_rfl
theorem ty146 : tyChk Tryz.prog 146 ⟨1, 8, [.f], .other⟩ = true := by kernel_rfl
theorem ty147 : tyChk Tryz.prog 147 ⟨1, 8, [.f], .other⟩ = true := by kernel_rfl
theorem ty148 : tyChk Tryz.prog 148 ⟨1, 8, [.f], .other⟩ = true := by kernel_rfl
theorem ty149 : tyChk Tryz.prog 149 ⟨1, 8, [.i .u64], .int .u64⟩ = true := by kernel_rfl
theorem ty150 : tyChk Tryz.prog 150 ⟨1, 8, [.f], .other⟩ = true := by kernel_rfl
theorem ty151 : tyChk Tryz.prog 151 ⟨1, 8, [.f], .other⟩ = true := by kernel_rfl
theorem ty152 : tyChk Tryz.prog 152 ⟨1, 8, [.f], .other⟩ = true := by kernel_rfl
theorem ty153 : tyChk Tryz.prog 153 ⟨1, 8, [.f], .other⟩ = true := by kernel_rfl
theorem ty154 : tyChk Tryz.prog 154 ⟨1, 8, [.f], .other⟩ = true := by kernel_rfl
theorem ty155 : tyChk Tryz.prog 155 ⟨1, 8, [.f], .other⟩ = true := by kernel_rfl
theorem ty156 : tyChk Tryz.prog 156 ⟨1, 8, [.f], .other⟩ = true := by kernel_rfl
theorem ty157 : tyChk Tryz.prog 157 ⟨1, 8, [.i .i64], .int .i64⟩ = true := by kernel_rfl
theorem ty159 : tyChk Tryz.prog 159 ⟨1, 8, [.f], .other⟩ = true := by kernel_rfl
theorem ty160 : tyChk Tryz.prog 160 ⟨1, 8, [.f], .other⟩ = true := by kernel_rfl
theorem ty161 : tyChk Tryz.prog 161 ⟨1, 8, [.f], .other⟩ = true := by kernel_rfl
theorem ty162 : tyChk Tryz.prog 162 ⟨1, 8, [.f], .other⟩ = true := by kernel_rfl
theorem ty163 : tyChk Tryz.prog 163 ⟨1, 8, [.f], .other⟩ = true := by kernel_rfl
theorem ty164 : tyChk Tryz.prog 164 ⟨1, 4, [.i .u32], .int .u32⟩ = true := by kernel_rfl
theorem ty165 : tyChk Tryz.prog 165 ⟨1, 8, [.f], .other⟩ = true := by kernel_rfl
theorem ty166 : tyChk Tryz.prog 166 ⟨1, 8, [.i .u64], .int .u64⟩ = true := by kernel_rfl
theorem ty167 : tyChk Tryz.prog 167 ⟨1, 8, [.i .u64], .int .u64⟩ = true := by kernel_rfl
theorem ty168 : tyChk Tryz.prog 168 ⟨1, 8, [.f], .other⟩ = true := by kernel_rfl
theorem ty169 : tyChk Tryz.prog 169 ⟨1, 8, [.f], .other⟩ = true := by kernel_rfl
theorem ty170 : tyChk Tryz.prog 170 ⟨1, 8, [.f], .other⟩ = true := by kernel_rfl
theorem ty171 : tyChk Tryz.prog 171 ⟨1, 8, [.p], .other⟩ = true := by kernel_rfl
theorem ty172 : tyChk Tryz.prog 172 ⟨1, 8, [.f], .other⟩ = true := by kernel_rfl
theorem ty173 : tyChk Tryz.prog 173 ⟨1, 8, [.p], .other⟩ = true := by kernel_rfl
theorem ty175 : tyChk Tryz.prog 175 ⟨1, 8, [.f], .other⟩ = true := by kernel_rfl
theorem ty176 : tyChk Tryz.prog 176 ⟨1, 8, [.f], .other⟩ = true := by kernel_rfl
theorem ty182 : tyChk Tryz.prog 182 ⟨1, 8, [.f], .other⟩ = true := by kernel_rfl
theorem ty185 : tyChk Tryz.prog 185 ⟨1, 8, [.f], .other⟩ = true := by kernel_rfl
theorem ty186 : tyChk Tryz.prog 186 ⟨1, 8, [.p], .other⟩ = true := by kernel_rfl
theorem te30 : eqChk Tryz.prog 30 [.int .u8, .int .u8, .int .u8, .int .u8, .bool] = true := by kernel_rfl
theorem te31 : eqChk Tryz.prog 31 [.int .u8, .int .u8, .int .u8, .int .u8, .bool] = true := by kernel_rfl
theorem te34 : eqChkA Tryz.prog 34 [.int .i64, .int .i64] = true := by kernel_rfl
theorem te36 : eqChk Tryz.prog 36 [.int .i64, .bool] = true := by kernel_rfl
theorem te37 : eqChk Tryz.prog 37 [.int .i64, .bool] = true := by kernel_rfl
theorem te40 : eqChk Tryz.prog 40 [.int .i64, .int .i64, .bool] = true := by kernel_rfl
theorem te41 : eqChk Tryz.prog 41 [.int .i64, .int .i64, .bool] = true := by kernel_rfl
theorem te92 : eqChkA Tryz.prog 92 [.int .i64, .int .i64] = true := by kernel_rfl
theorem te104 : eqChk Tryz.prog 104 [.int .i64, .bool] = true := by kernel_rfl
theorem te105 : eqChk Tryz.prog 105 [.int .i64, .bool] = true := by kernel_rfl
def tkey : TypeId → Option KK
  | 34 => some .p
  | 36 => some .v
  | 37 => some .v
  | 92 => some .p
  | 104 => some .v
  | 105 => some .v
  | _ => none
theorem tk34 : pairChk Tryz.prog 34 = true := by kernel_rfl
theorem tk36 : voteChk Tryz.prog 36 = true := by kernel_rfl
theorem tk37 : voteChk Tryz.prog 37 = true := by kernel_rfl
theorem tk92 : pairChk Tryz.prog 92 = true := by kernel_rfl
theorem tk104 : voteChk Tryz.prog 104 = true := by kernel_rfl
theorem tk105 : voteChk Tryz.prog 105 = true := by kernel_rfl
def T : Tab := ⟨tis, teq, tkey⟩
@[go_sem] theorem T_ti (t : TypeId) : T.ti t = tis t := rfl
@[go_sem] theorem T_eq (t : TypeId) : T.eq t = teq t := rfl
attribute [go_sem] tis teq
@[go_sem] theorem T_key (t : TypeId) : T.key t = tkey t := rfl
attribute [go_sem] tkey
theorem T_ok : TabOK Tryz.prog T := by
  refine ⟨fun t i h => ?_, fun t cs h xs ys w hx hy => ?_, fun t kd h => ?_⟩
  · simp only [T] at h
    unfold tis at h
    split at h
    · cases h; exact ty1
    · cases h; exact ty2
    · cases h; exact ty3
    · cases h; exact ty4
    · cases h; exact ty5
    · cases h; exact ty9
    · cases h; exact ty12
    · cases h; exact ty20
    · cases h; exact ty21
    · cases h; exact ty22
    · cases h; exact ty23
    · cases h; exact ty24
    · cases h; exact ty25
    · cases h; exact ty26
    · cases h; exact ty27
    · cases h; exact ty28
    · cases h; exact ty29
    · cases h; exact ty30
    · cases h; exact ty31
    · cases h; exact ty33
    · cases h; exact ty34
    · cases h; exact ty35
    · cases h; exact ty36
    · cases h; exact ty37
    · cases h; exact ty38
    · cases h; exact ty39
    · cases h; exact ty40
    · cases h; exact ty41
    · cases h; exact ty42
    · cases h; exact ty44
    · cases h; exact ty45
    · cases h; exact ty46
    · cases h; exact ty48
    · cases h; exact ty49
    · cases h; exact ty50
    · cases h; exact ty51
    · cases h; exact ty52
    · cases h; exact ty53
    · cases h; exact ty54
    · cases h; exact ty56
    · cases h; exact ty57
    · cases h; exact ty59
    · cases h; exact ty61
    · cases h; exact ty62
    · cases h; exact ty64
    · cases h; exact ty65
    · cases h; exact ty66
    · cases h; exact ty67
    · cases h; exact ty68
    · cases h; exact ty69
    · cases h; exact ty71
    · cases h; exact ty72
    · cases h; exact ty74
    · cases h; exact ty75
    · cases h; exact ty76
    · cases h; exact ty78
    · cases h; exact ty79
    · cases h; exact ty80
    · cases h; exact ty81
    · cases h; exact ty82
    · cases h; exact ty84
    · cases h; exact ty85
    · cases h; exact ty86
    · cases h; exact ty87
    · cases h; exact ty88
    · cases h; exact ty89
    · cases h; exact ty90
    · cases h; exact ty91
    · cases h; exact ty92
    · cases h; exact ty93
    · cases h; exact ty94
    · cases h; exact ty95
    · cases h; exact ty96
    · cases h; exact ty97
    · cases h; exact ty98
    · cases h; exact ty99
    · cases h; exact ty100
    · cases h; exact ty101
    · cases h; exact ty102
    · cases h; exact ty103
    · cases h; exact ty104
    · cases h; exact ty105
    · cases h; exact ty106
    · cases h; exact ty107
    · cases h; exact ty109
    · cases h; exact ty110
    · cases h; exact ty111
    · cases h; exact ty112
    · cases h; exact ty113
    · cases h; exact ty114
    · cases h; exact ty115
    · cases h; exact ty116
    · cases h; exact ty117
    · cases h; exact ty118
    · cases h; exact ty119
    · cases h; exact ty120
    · cases h; exact ty122
    · cases h; exact ty123
    · cases h; exact ty124
    · cases h; exact ty125
    · cases h; exact ty126
    · cases h; exact ty127
    · cases h; exact ty128
    · cases h; exact ty129
    · cases h; exact ty130
    · cases h; exact ty131
    · cases h; exact ty132
    · cases h; exact ty133
    · cases h; exact ty134
    · cases h; exact ty135
    · cases h; exact ty136
    · cases h; exact ty137
    · cases h; exact ty138
    · cases h; exact ty139
    · cases h; exact ty140
    · cases h; exact ty141
    · cases h; exact ty142
    · cases h; exact ty143
    · cases h; exact ty144
    · cases h; exact ty145
    · cases h; exact ty146
    · cases h; exact ty147
    · cases h; exact ty148
    · cases h; exact ty149
    · cases h; exact ty150
    · cases h; exact ty151
    · cases h; exact ty152
    · cases h; exact ty153
    · cases h; exact ty154
    · cases h; exact ty155
    · cases h; exact ty156
    · cases h; exact ty157
    · cases h; exact ty159
    · cases h; exact ty160
    · cases h; exact ty161
    · cases h; exact ty162
    · cases h; exact ty163
    · cases h; exact ty164
    · cases h; exact ty165
    · cases h; exact ty166
    · cases h; exact ty167
    · cases h; exact ty168
    · cases h; exact ty169
    · cases h; exact ty170
    · cases h; exact ty171
    · cases h; exact ty172
    · cases h; exact ty173
    · cases h; exact ty175
    · cases h; exact ty176
    · cases h; exact ty182
    · cases h; exact ty185
    · cases h; exact ty186
    · cases h
  · simp only [T] at h
    unfold teq at h
    split at h
    · cases h; exact eq_of_chk te30 xs ys w hx hy
    · cases h; exact eq_of_chk te31 xs ys w hx hy
    · cases h; exact eq_of_chkA te34 xs ys w hx hy
    · cases h; exact eq_of_chk te36 xs ys w hx hy
    · cases h; exact eq_of_chk te37 xs ys w hx hy
    · cases h; exact eq_of_chk te40 xs ys w hx hy
    · cases h; exact eq_of_chk te41 xs ys w hx hy
    · cases h; exact eq_of_chkA te92 xs ys w hx hy
    · cases h; exact eq_of_chk te104 xs ys w hx hy
    · cases h; exact eq_of_chk te105 xs ys w hx hy
    · cases h
  · simp only [T] at h
    unfold tkey at h
    split at h
    · cases h; exact keyOK_p tk34 te34
    · cases h; exact keyOK_v tk36 te36
    · cases h; exact keyOK_v tk37 te37
    · cases h; exact keyOK_p tk92 te92
    · cases h; exact keyOK_v tk104 te104
    · cases h; exact keyOK_v tk105 te105
    · cases h
end Go.Proofs.YtnajladibkpeaaaGreat
