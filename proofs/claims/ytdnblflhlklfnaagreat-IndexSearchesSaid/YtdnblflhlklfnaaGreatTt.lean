/-
  THE TABLE OF TYPES of this seat's program, made by program (mkT.py); each row is asked of the program by the kernel.
-/
import Derived.Test.YtdnblflhlklfnaaGreatProg
import Derived.Test.YtdnblflhlklfnaaGreatKo
set_option linter.unusedVariables false
set_option maxRecDepth 100000
namespace Go.Proofs.YtdnblflhlklfnaaGreat
open Go.Gx

def tis : TypeId → Option TI
  | 1 => some ⟨1, 8, [.f], .other⟩
  | 2 => some ⟨1, 8, [.i .i64], .int .i64⟩
  | 3 => some ⟨1, 8, [.i .i64], .int .i64⟩
  | 4 => some ⟨1, 1, [.b], .bool⟩
  | 5 => some ⟨1, 1, [.i .u8], .int .u8⟩
  | 9 => some ⟨1, 16, [.s], .other⟩
  | 12 => some ⟨1, 8, [.i .u64], .int .u64⟩
  | 20 => some ⟨1, 16, [.ifc], .other⟩
  | 21 => some ⟨1, 4, [.i .i32], .int .i32⟩
  | 22 => some ⟨1, 24, [.sl], .slice 74⟩
  | 23 => some ⟨1, 24, [.sl], .slice 56⟩
  | 24 => some ⟨8, 192, [.sl, .sl, .sl, .sl, .sl, .sl, .sl, .sl], .array 8 1 false⟩
  | 25 => some ⟨9, 216, [.sl, .sl, .sl, .sl, .sl, .sl, .sl, .sl, .sl], .struct [(0, 1, false), (1, 8, true)]⟩
  | 26 => some ⟨9, 216, [.sl, .sl, .sl, .sl, .sl, .sl, .sl, .sl, .sl], .struct [(0, 1, false), (1, 8, true)]⟩
  | 27 => some ⟨1, 8, [.i .u64], .int .u64⟩
  | 28 => some ⟨2, 16, [.i .u64, .i .u64], .struct [(0, 1, false), (1, 1, false)]⟩
  | 29 => some ⟨2, 16, [.i .u64, .i .u64], .struct [(0, 1, false), (1, 1, false)]⟩
  | 30 => some ⟨2, 16, [.i .i64, .i .i64], .struct [(0, 1, false), (1, 1, false)]⟩
  | 31 => some ⟨2, 16, [.i .i64, .i .i64], .struct [(0, 1, false), (1, 1, false)]⟩
  | 32 => some ⟨1, 8, [.f], .other⟩
  | 33 => some ⟨1, 8, [.f], .other⟩
  | 34 => some ⟨1, 24, [.sl], .slice 3⟩
  | 35 => some ⟨2, 32, [.sl, .i .i64], .struct [(0, 1, false), (1, 1, false)]⟩
  | 36 => some ⟨2, 32, [.sl, .i .i64], .struct [(0, 1, false), (1, 1, false)]⟩
  | 37 => some ⟨1, 8, [.i .i64], .int .i64⟩
  | 39 => some ⟨1, 8, [.f], .other⟩
  | 41 => some ⟨1, 8, [.f], .other⟩
  | 42 => some ⟨1, 8, [.f], .other⟩
  | 44 => some ⟨1, 8, [.f], .other⟩
  | 46 => some ⟨1, 8, [.f], .other⟩
  | 47 => some ⟨1, 24, [.sl], .slice 88⟩
  | 49 => some ⟨1, 8, [.f], .other⟩
  | 51 => some ⟨1, 8, [.f], .other⟩
  | 52 => some ⟨1, 8, [.f], .other⟩
  | 53 => some ⟨1, 8, [.f], .other⟩
  | 54 => some ⟨1, 8, [.f], .other⟩
  | 55 => some ⟨3, 32, [.i .u8, .i .u8, .sl], .struct [(0, 1, false), (1, 1, false), (2, 1, false)]⟩
  | 56 => some ⟨3, 32, [.i .u8, .i .u8, .sl], .struct [(0, 1, false), (1, 1, false), (2, 1, false)]⟩
  | 57 => some ⟨1, 8, [.f], .other⟩
  | 59 => some ⟨1, 8, [.f], .other⟩
  | 60 => some ⟨1, 8, [.f], .other⟩
  | 61 => some ⟨2, 2, [.i .u8, .i .u8], .struct [(0, 1, false), (1, 1, false)]⟩
  | 62 => some ⟨2, 2, [.i .u8, .i .u8], .struct [(0, 1, false), (1, 1, false)]⟩
  | 63 => some ⟨1, 8, [.f], .other⟩
  | 64 => some ⟨1, 8, [.f], .other⟩
  | 65 => some ⟨1, 8, [.m], .map 3 4⟩
  | 67 => some ⟨1, 8, [.f], .other⟩
  | 68 => some ⟨1, 8, [.f], .other⟩
  | 70 => some ⟨1, 8, [.f], .other⟩
  | 72 => some ⟨1, 8, [.f], .other⟩
  | 73 => some ⟨3, 24, [.i .i64, .i .u64, .i .u64], .struct [(0, 1, false), (1, 2, true)]⟩
  | 74 => some ⟨3, 24, [.i .i64, .i .u64, .i .u64], .struct [(0, 1, false), (1, 2, true)]⟩
  | 75 => some ⟨1, 8, [.f], .other⟩
  | 76 => some ⟨1, 8, [.f], .other⟩
  | 77 => some ⟨1, 8, [.f], .other⟩
  | 78 => some ⟨1, 8, [.f], .other⟩
  | 79 => some ⟨1, 24, [.sl], .slice 29⟩
  | 80 => some ⟨1, 8, [.f], .other⟩
  | 81 => some ⟨1, 8, [.f], .other⟩
  | 82 => some ⟨1, 8, [.f], .other⟩
  | 83 => some ⟨1, 8, [.f], .other⟩
  | 84 => some ⟨1, 8, [.f], .other⟩
  | 86 => some ⟨1, 8, [.f], .other⟩
  | 87 => some ⟨2, 16, [.i .i64, .i .i64], .struct [(0, 1, false), (1, 1, false)]⟩
  | 88 => some ⟨2, 16, [.i .i64, .i .i64], .struct [(0, 1, false), (1, 1, false)]⟩
  | 89 => some ⟨1, 8, [.f], .other⟩
  | 90 => some ⟨1, 8, [.f], .other⟩
  | 91 => some ⟨1, 8, [.f], .other⟩
  | 93 => some ⟨1, 8, [.f], .other⟩
  | 94 => some ⟨1, 8, [.f], .other⟩
  | 95 => some ⟨1, 8, [.f], .other⟩
  | 96 => some ⟨1, 8, [.f], .other⟩
  | 97 => some ⟨3, 24, [.i .i64, .i .i64, .i .i64], .struct [(0, 1, false), (1, 1, false), (2, 1, false)]⟩
  | 98 => some ⟨3, 24, [.i .i64, .i .i64, .i .i64], .struct [(0, 1, false), (1, 1, false), (2, 1, false)]⟩
  | 99 => some ⟨1, 8, [.f], .other⟩
  | 100 => some ⟨1, 8, [.i .u64], .int .u64⟩
  | 101 => some ⟨1, 8, [.f], .other⟩
  | 102 => some ⟨1, 8, [.f], .other⟩
  | 103 => some ⟨1, 8, [.f], .other⟩
  | 104 => some ⟨1, 8, [.f], .other⟩
  | 105 => some ⟨1, 8, [.f], .other⟩
  | 106 => some ⟨1, 8, [.f], .other⟩
  | 107 => some ⟨1, 8, [.f], .other⟩
  | 108 => some ⟨1, 8, [.f], .other⟩
  | 109 => some ⟨1, 8, [.f], .other⟩
  | 110 => some ⟨1, 8, [.f], .other⟩
  | 111 => some ⟨1, 8, [.f], .other⟩
  | 112 => some ⟨1, 8, [.f], .other⟩
  | 113 => some ⟨1, 8, [.f], .other⟩
  | 114 => some ⟨1, 8, [.f], .other⟩
  | 115 => some ⟨1, 8, [.f], .other⟩
  | 116 => some ⟨1, 8, [.f], .other⟩
  | 117 => some ⟨1, 8, [.f], .other⟩
  | 118 => some ⟨1, 8, [.f], .other⟩
  | 119 => some ⟨1, 8, [.f], .other⟩
  | 120 => some ⟨1, 8, [.i .u64], .int .u64⟩
  | 121 => some ⟨1, 8, [.f], .other⟩
  | 122 => some ⟨1, 8, [.f], .other⟩
  | 123 => some ⟨1, 8, [.f], .other⟩
  | 124 => some ⟨1, 8, [.f], .other⟩
  | 125 => some ⟨1, 8, [.f], .other⟩
  | 126 => some ⟨1, 8, [.f], .other⟩
  | 127 => some ⟨1, 8, [.f], .other⟩
  | 128 => some ⟨1, 8, [.f], .other⟩
  | 129 => some ⟨1, 2, [.i .u16], .int .u16⟩
  | 130 => some ⟨1, 8, [.f], .other⟩
  | 131 => some ⟨1, 24, [.sl], .slice 4⟩
  | 132 => some ⟨1, 8, [.f], .other⟩
  | 133 => some ⟨1, 8, [.f], .other⟩
  | 134 => some ⟨1, 8, [.f], .other⟩
  | 135 => some ⟨1, 8, [.f], .other⟩
  | 136 => some ⟨1, 8, [.f], .other⟩
  | 137 => some ⟨1, 8, [.f], .other⟩
  | 138 => some ⟨1, 8, [.f], .other⟩
  | 139 => some ⟨1, 8, [.f], .other⟩
  | 140 => some ⟨1, 8, [.f], .other⟩
  | 141 => some ⟨1, 8, [.i .i64], .int .i64⟩
  | 143 => some ⟨1, 8, [.f], .other⟩
  | 144 => some ⟨1, 8, [.f], .other⟩
  | 145 => some ⟨1, 8, [.f], .other⟩
  | 146 => some ⟨1, 8, [.f], .other⟩
  | 147 => some ⟨1, 8, [.f], .other⟩
  | 148 => some ⟨1, 4, [.i .u32], .int .u32⟩
  | 149 => some ⟨1, 8, [.f], .other⟩
  | 150 => some ⟨1, 8, [.f], .other⟩
  | 151 => some ⟨1, 8, [.f], .other⟩
  | 152 => some ⟨1, 8, [.f], .other⟩
  | 153 => some ⟨1, 8, [.i .u64], .int .u64⟩
  | 154 => some ⟨1, 8, [.f], .other⟩
  | 155 => some ⟨1, 8, [.f], .other⟩
  | 156 => some ⟨1, 8, [.f], .other⟩
  | 157 => some ⟨1, 8, [.p], .other⟩
  | 158 => some ⟨1, 8, [.f], .other⟩
  | 159 => some ⟨1, 8, [.f], .other⟩
  | 160 => some ⟨1, 8, [.p], .other⟩
  | 161 => some ⟨1, 8, [.f], .other⟩
  | 162 => some ⟨1, 8, [.f], .other⟩
  | 163 => some ⟨1, 8, [.f], .other⟩
  | 169 => some ⟨1, 8, [.f], .other⟩
  | 172 => some ⟨1, 8, [.f], .other⟩
  | 173 => some ⟨1, 8, [.p], .other⟩
  | _ => none
def teq : TypeId → Option (List CK)
  | 28 => some [.int .u64, .int .u64]
  | 29 => some [.int .u64, .int .u64]
  | 30 => some [.int .i64, .int .i64]
  | 31 => some [.int .i64, .int .i64]
  | 61 => some [.int .u8, .int .u8]
  | 62 => some [.int .u8, .int .u8]
  | 73 => some [.int .i64, .int .u64, .int .u64]
  | 74 => some [.int .i64, .int .u64, .int .u64]
  | 87 => some [.int .i64, .int .i64]
  | 88 => some [.int .i64, .int .i64]
  | 97 => some [.int .i64, .int .i64, .int .i64]
  | 98 => some [.int .i64, .int .i64, .int .i64]
  | _ => none
theorem ty1 : tyChk Tryz.prog 1 ⟨1, 8, [.f], .other⟩ = true := by kernel_rfl
theorem ty2 : tyChk Tryz.prog 2 ⟨1, 8, [.i .i64], .int .i64⟩ = true := by kernel_rfl
theorem ty3 : tyChk Tryz.prog 3 ⟨1, 8, [.i .i64], .int .i64⟩ = true := by kernel_rfl
theorem ty4 : tyChk Tryz.prog 4 ⟨1, 1, [.b], .bool⟩ = true := by kernel_rfl
theorem ty5 : tyChk Tryz.prog 5 ⟨1, 1, [.i .u8], .int .u8⟩ = true := by kernel_rfl
theorem ty9 : tyChk Tryz.prog 9 ⟨1, 16, [.s], .other⟩ = true := by kernel_rfl
theorem ty12 : tyChk Tryz.prog 12 ⟨1, 8, [.i .u64], .int .u64⟩ = true := by kernel_rfl
theorem ty20 : tyChk Tryz.prog 20 ⟨1, 16, [.ifc], .other⟩ = true := by kernel_rfl
theorem ty21 : tyChk Tryz.prog 21 ⟨1, 4, [.i .i32], .int .i32⟩ = true := by kernel_rfl
theorem ty22 : tyChk Tryz.prog 22 ⟨1, 24, [.sl], .slice 74⟩ = true := by kernel_rfl
theorem ty23 : tyChk Tryz.prog 23 ⟨1, 24, [.sl], .slice 56⟩ = true := by kernel_rfl
theorem ty24 : tyChk Tryz.prog 24 ⟨8, 192, [.sl, .sl, .sl, .sl, .sl, .sl, .sl, .sl], .array 8 1 false⟩ = true := by kernel_rfl
theorem ty25 : tyChk Tryz.prog 25 ⟨9, 216, [.sl, .sl, .sl, .sl, .sl, .sl, .sl, .sl, .sl], .struct [(0, 1, false), (1, 8, true)]⟩ = true := by kernel_rfl
theorem ty26 : tyChk Tryz.prog 26 ⟨9, 216, [.sl, .sl, .sl, .sl, .sl, .sl, .sl, .sl, .sl], .struct [(0, 1, false), (1, 8, true)]⟩ = true := by kernel_rfl
theorem ty27 : tyChk Tryz.prog 27 ⟨1, 8, [.i .u64], .int .u64⟩ = true := by kernel_rfl
theorem ty28 : tyChk Tryz.prog 28 ⟨2, 16, [.i .u64, .i .u64], .struct [(0, 1, false), (1, 1, false)]⟩ = true := by kernel_rfl
theorem ty29 : tyChk Tryz.prog 29 ⟨2, 16, [.i .u64, .i .u64], .struct [(0, 1, false), (1, 1, false)]⟩ = true := by kernel_rfl
theorem ty30 : tyChk Tryz.prog 30 ⟨2, 16, [.i .i64, .i .i64], .struct [(0, 1, false), (1, 1, false)]⟩ = true := by kernel_rfl
theorem ty31 : tyChk Tryz.prog 31 ⟨2, 16, [.i .i64, .i .i64], .struct [(0, 1, false), (1, 1, false)]⟩ = true := by kernel_rfl
theorem ty32 : tyChk Tryz.prog 32 ⟨1, 8, [.f], .other⟩ = true := by kernel_rfl
theorem ty33 : tyChk Tryz.prog 33 ⟨1, 8, [.f], .other⟩ = true := by kernel_rfl
theorem ty34 : tyChk Tryz.prog 34 ⟨1, 24, [.sl], .slice 3⟩ = true := by kernel_rfl
theorem ty35 : tyChk Tryz.prog 35 ⟨2, 32, [.sl, .i .i64], .struct [(0, 1, false), (1, 1, false)]⟩ = true := by kernel_rfl
theorem ty36 : tyChk Tryz.prog 36 ⟨2, 32, [.sl, .i .i64], .struct [(0, 1, false), (1, 1, false)]⟩ = true := by kernel_rfl
theorem ty37 : tyChk Tryz.prog 37 ⟨1, 8, [.i .i64], .int .i64⟩ = true := by kernel_rfl
theorem ty39 : tyChk Tryz.prog 39 ⟨1, 8, [.f], .other⟩ = true := by kernel_rfl
theorem ty41 : tyChk Tryz.prog 41 ⟨1, 8, [.f], .other⟩ = true := by kernel_rfl
theorem ty42 : tyChk Tryz.prog 42 ⟨1, 8, [.f], .other⟩ = true := by kernel_rfl
theorem ty44 : tyChk Tryz.prog 44 ⟨1, 8, [.f], .other⟩ = true := by kernel_rfl
theorem ty46 : tyChk Tryz.prog 46 ⟨1, 8, [.f], .other⟩ = true := by kernel_rfl
theorem ty47 : tyChk Tryz.prog 47 ⟨1, 24, [.sl], .slice 88⟩ = true := by kernel_rfl
theorem ty49 : tyChk Tryz.prog 49 ⟨1, 8, [.f], .other⟩ = true := by kernel_rfl
theorem ty51 : tyChk Tryz.prog 51 ⟨1, 8, [.f], .other⟩ = true := by kernel_rfl
theorem ty52 : tyChk Tryz.prog 52 ⟨1, 8, [.f], .other⟩ = true := by kernel_rfl
theorem ty53 : tyChk Tryz.prog 53 ⟨1, 8, [.f], .other⟩ = true := by kernel_rfl
theorem ty54 : tyChk Tryz.prog 54 ⟨1, 8, [.f], .other⟩ = true := by kernel_rfl
theorem ty55 : tyChk Tryz.prog 55 ⟨3, 32, [.i .u8, .i .u8, .sl], .struct [(0, 1, false), (1, 1, false), (2, 1, false)]⟩ = true := by kernel_rfl
theorem ty56 : tyChk Tryz.prog 56 ⟨3, 32, [.i .u8, .i .u8, .sl], .struct [(0, 1, false), (1, 1, false), (2, 1, false)]⟩ = true := by kernel_rfl
theorem ty57 : tyChk Tryz.prog 57 ⟨1, 8, [.f], .other⟩ = true := by kernel_rfl
theorem ty59 : tyChk Tryz.prog 59 ⟨1, 8, [.f], .other⟩ = true := by kernel_rfl
theorem ty60 : tyChk Tryz.prog 60 ⟨1, 8, [.f], .other⟩ = true := by kernel_rfl
theorem ty61 : tyChk Tryz.prog 61 ⟨2, 2, [.i .u8, .i .u8], .struct [(0, 1, false), (1, 1, false)]⟩ = true := by kernel_rfl
theorem ty62 : tyChk Tryz.prog 62 ⟨2, 2, [.i .u8, .i .u8], .struct [(0, 1, false), (1, 1, false)]⟩ = true := by kernel_rfl
theorem ty63 : tyChk Tryz.prog 63 ⟨1, 8, [.f], .other⟩ = true := by kernel_rfl
theorem ty64 : tyChk Tryz.prog 64 ⟨1, 8, [.f], .other⟩ = true := by kernel_rfl
theorem ty65 : tyChk Tryz.prog 65 ⟨1, 8, [.m], .map 3 4⟩ = true := by kernel_rfl
theorem ty67 : tyChk Tryz.prog 67 ⟨1, 8, [.f], .other⟩ = true := by kernel_rfl
theorem ty68 : tyChk Tryz.prog 68 ⟨1, 8, [.f], .other⟩ = true := by kernel_rfl
theorem ty70 : tyChk Tryz.prog 70 ⟨1, 8, [.f], .other⟩ = true := by kernel_rfl
theorem ty72 : tyChk Tryz.prog 72 ⟨1, 8, [.f], .other⟩ = true := by kernel_rfl
theorem ty73 : tyChk Tryz.prog 73 ⟨3, 24, [.i .i64, .i .u64, .i .u64], .struct [(0, 1, false), (1, 2, true)]⟩ = true := by kernel_rfl
theorem ty74 : tyChk Tryz.prog 74 ⟨3, 24, [.i .i64, .i .u64, .i .u64], .struct [(0, 1, false), (1, 2, true)]⟩ = true := by kernel_rfl
theorem ty75 : tyChk Tryz.prog 75 ⟨1, 8, [.f], .other⟩ = true := by kernel_rfl
theorem ty76 : tyChk Tryz.prog 76 ⟨1, 8, [.f], .other⟩ = true := by kernel_rfl
theorem ty77 : tyChk Tryz.prog 77 ⟨1, 8, [.f], .other⟩ = true := by kernel_rfl
theorem ty78 : tyChk Tryz.prog 78 ⟨1, 8, [.f], .other⟩ = true := by kernel_rfl
theorem ty79 : tyChk Tryz.prog 79 ⟨1, 24, [.sl], .slice 29⟩ = true := by kernel_rfl
theorem ty80 : tyChk Tryz.prog 80 ⟨1, 8, [.f], .other⟩ = true := by kernel_rfl
theorem ty81 : tyChk Tryz.prog 81 ⟨1, 8, [.f], .other⟩ = true := by kernel_rfl
theorem ty82 : tyChk Tryz.prog 82 ⟨1, 8, [.f], .other⟩ = true := by kernel_rfl
theorem ty83 : tyChk Tryz.prog 83 ⟨1, 8, [.f], .other⟩ = true := by kernel_rfl
theorem ty84 : tyChk Tryz.prog 84 ⟨1, 8, [.f], .other⟩ = true := by kernel_rfl
theorem ty86 : tyChk Tryz.prog 86 ⟨1, 8, [.f], .other⟩ = true := by kernel_rfl
theorem ty87 : tyChk Tryz.prog 87 ⟨2, 16, [.i .i64, .i .i64], .struct [(0, 1, false), (1, 1, false)]⟩ = true := by kernel_rfl
theorem ty88 : tyChk Tryz.prog 88 ⟨2, 16, [.i .i64, .i .i64], .struct [(0, 1, false), (1, 1, false)]⟩ = true := by kernel_rfl
theorem ty89 : tyChk Tryz.prog 89 ⟨1, 8, [.f], .other⟩ = true := by kernel_rfl
theorem ty90 : tyChk Tryz.prog 90 ⟨1, 8, [.f], .other⟩ = true := by kernel_rfl
theorem ty91 : tyChk Tryz.prog 91 ⟨1, 8, [.f], .other⟩ = true := by kernel_rfl
theorem ty93 : tyChk Tryz.prog 93 ⟨1, 8, [.f], .other⟩ = true := by kernel_rfl
theorem ty94 : tyChk Tryz.prog 94 ⟨1, 8, [.f], .other⟩ = true := by kernel_rfl
theorem ty95 : tyChk Tryz.prog 95 ⟨1, 8, [.f], .other⟩ = true := by kernel_rfl
theorem ty96 : tyChk Tryz.prog 96 ⟨1, 8, [.f], .other⟩ = true := by kernel_rfl
theorem ty97 : tyChk Tryz.prog 97 ⟨3, 24, [.i .i64, .i .i64, .i .i64], .struct [(0, 1, false), (1, 1, false), (2, 1, false)]⟩ = true := by kernel_rfl
theorem ty98 : tyChk Tryz.prog 98 ⟨3, 24, [.i .i64, .i .i64, .i .i64], .struct [(0, 1, false), (1, 1, false), (2, 1, false)]⟩ = true := by kernel_rfl
theorem ty99 : tyChk Tryz.prog 99 ⟨1, 8, [.f], .other⟩ = true := by kernel_rfl
theorem ty100 : tyChk Tryz.prog 100 ⟨1, 8, [.i .u64], .int .u64⟩ = true := by kernel_rfl
theorem ty101 : tyChk Tryz.prog 101 ⟨1, 8, [.f], .other⟩ = true := by kernel_rfl
theorem ty102 : tyChk Tryz.prog 102 ⟨1, 8, [.f], .other⟩ = true := by kernel_rfl
theorem ty103 : tyChk Tryz.prog 103 ⟨1, 8, [.f], .other⟩ = true := by kernel_rfl
theorem ty104 : tyChk Tryz.prog 104 ⟨1, 8, [.f], .other⟩ = true := by kernel_rfl
theorem ty105 : tyChk Tryz.prog 105 ⟨1, 8, [.f], .other⟩ = true := by kernel_rfl
theorem ty106 : tyChk Tryz.prog 106 ⟨1, 8, [.f], .other⟩ = true := by kernel_rfl
theorem ty107 : tyChk Tryz.prog 107 ⟨1, 8, [.f], .other⟩ = true := by kernel_rfl
theorem ty108 : tyChk Tryz.prog 108 ⟨1, 8, [.f], .other⟩ = true := by kernel_rfl
theorem ty109 : tyChk Tryz.prog 109 ⟨1, 8, [.f], .other⟩ = true := by kernel_rfl
theorem ty110 : tyChk Tryz.prog 110 ⟨1, 8, [.f], .other⟩ = true := by kernel_rfl
theorem ty111 : tyChk Tryz.prog 111 ⟨1, 8, [.f], .other⟩ = true := by kernel_rfl
theorem ty112 : tyChk Tryz.prog 112 ⟨1, 8, [.f], .other⟩ = true := by kernel_rfl
theorem ty113 : tyChk Tryz.prog 113 ⟨1, 8, [.f], .other⟩ = true := by kernel_rfl
theorem ty114 : tyChk Tryz.prog 114 ⟨1, 8, [.f], .other⟩ = true := by kernel_rfl
theorem ty115 : tyChk Tryz.prog 115 ⟨1, 8, [.f], .other⟩ = true := by kernel_rfl
theorem ty116 : tyChk Tryz.prog 116 ⟨1, 8, [.f], .other⟩ = true := by kernel_rfl
theorem ty117 : tyChk Tryz.prog 117 ⟨1, 8, [.f], .other⟩ = true := by kernel_rfl
theorem ty118 : tyChk Tryz.prog 118 ⟨1, 8, [.f], .other⟩ = true := by kernel_rfl
theorem ty119 : tyChk Tryz.prog 119 ⟨1, 8, [.f], .other⟩ = true := by kernel_rfl
theorem ty120 : tyChk Tryz.prog 120 ⟨1, 8, [.i .u64], .int .u64⟩ = true := by kernel_rfl
theorem ty121 : tyChk Tryz.prog 121 ⟨1, 8, [.f], .other⟩ = true := by kernel_rfl
theorem ty122 : tyChk Tryz.prog 122 ⟨1, 8, [.f], .other⟩ = true := by kernel_rfl
theorem ty123 : tyChk Tryz.prog 123 ⟨1, 8, [.f], .other⟩ = true := by kernel_rfl
theorem ty124 : tyChk Tryz.prog 124 ⟨1, 8, [.f], .other⟩ = true := by kernel_rfl
theorem ty125 : tyChk Tryz.prog 125 ⟨1, 8, [.f], .other⟩ = true := by kernel_rfl
theorem ty126 : tyChk Tryz.prog 126 ⟨1, 8, [.f], .other⟩ = true := by kernel_rfl
theorem ty127 : tyChk Tryz.prog 127 ⟨1, 8, [.f], .other⟩ = true := by kernel_rfl
theorem ty128 : tyChk Tryz.prog 128 ⟨1, 8, [.f], .other⟩ = true := by kernel_rfl
theorem ty129 : tyChk Tryz.prog 129 ⟨1, 2, [.i .u16], .int .u16⟩ = true := by kernel_rfl
theorem ty130 : tyChk Tryz.prog 130 ⟨1, 8, [.f], .other⟩ = true := by kernel_rfl
theorem ty131 : tyChk Tryz.prog 131 ⟨1, 24, [.sl], .slice 4⟩ = true := by kernel_rfl
theorem ty132 : tyChk Tryz.prog 132 ⟨1, 8, [.f], .other⟩ = true := by kernel_rfl
theorem ty133 : tyChk Tryz.prog 133 ⟨1, 8, [.f], .other⟩ = true := by kernel_rfl
theorem ty134 : tyChk Tryz.prog 134 ⟨1, 8, [.f], .other⟩ = true := by kernel_rfl
theorem ty135 : tyChk Tryz.prog 135 ⟨1, 8, [.f], .other⟩ = true := by kernel_rfl
theorem ty136 : tyChk Tryz.prog 136 ⟨1, 8, [.f], .other⟩ = true := by kernel_rfl
theorem ty137 : tyChk Tryz.prog 137 ⟨1, 8, [.f], .other⟩ = true := by kernel_rfl
theorem ty138 : tyChk Tryz.prog 138 ⟨1, 8, [.f], .other⟩ = true := by kernel_rfl
theorem ty139 : tyChk Tryz.prog 139 ⟨1, 8, [.f], .other⟩ = true := by kernel_rfl
theorem ty140 : tyChk Tryz.prog 140 ⟨1, 8, [.f], .other⟩ = true := by kernel_rfl
theorem ty141 : tyChk Tryz.prog 141 ⟨1, 8, [.i .i64], .int .i64⟩ = true := by kernel_rfl
theorem ty143 : tyChk Tryz.prog 143 ⟨1, 8, [.f], .other⟩ = true := by kernel_rfl
theorem ty144 : tyChk Tryz.prog 144 ⟨1, 8, [.f], .other⟩ = true := by kernel_rfl
theorem ty145 : tyChk Tryz.prog 145 ⟨1, 8, [.f], .other⟩ = true := by kernel_rfl
theorem ty146 : tyChk Tryz.prog 146 ⟨1, 8, [.f], .other⟩ = true := by kernel_rfl
theorem ty147 : tyChk Tryz.prog 147 ⟨1, 8, [.f], .other⟩ = true := by kernel_rfl
theorem ty148 : tyChk Tryz.prog 148 ⟨1, 4, [.i .u32], .int .u32⟩ = true := by kernel_rfl
theorem ty149 : tyChk Tryz.prog 149 ⟨1, 8, [.f], .other⟩ = true := by kernel_rfl
theorem ty150 : tyChk Tryz.prog 150 ⟨1, 8, [.f], .other⟩ = true := by kernel_rfl
theorem ty151 : tyChk Tryz.prog 151 ⟨1, 8, [.f], .other⟩ = true := by kernel_rfl
theorem ty152 : tyChk Tryz.prog 152 ⟨1, 8, [.f], .other⟩ = true := by kernel_rfl
theorem ty153 : tyChk Tryz.prog 153 ⟨1, 8, [.i .u64], .int .u64⟩ = true := by kernel_rfl
theorem ty154 : tyChk Tryz.prog 154 ⟨1, 8, [.f], .other⟩ = true := by kernel_rfl
theorem ty155 : tyChk Tryz.prog 155 ⟨1, 8, [.f], .other⟩ = true := by kernel_rfl
theorem ty156 : tyChk Tryz.prog 156 ⟨1, 8, [.f], .other⟩ = true := by kernel_rfl
theorem ty157 : tyChk Tryz.prog 157 ⟨1, 8, [.p], .other⟩ = true := by kernel_rfl
theorem ty158 : tyChk Tryz.prog 158 ⟨1, 8, [.f], .other⟩ = true := by kernel_rfl
theorem ty159 : tyChk Tryz.prog 159 ⟨1, 8, [.f], .other⟩ = true := by kernel_rfl
theorem ty160 : tyChk Tryz.prog 160 ⟨1, 8, [.p], .other⟩ = true := by kernel_rfl
theorem ty161 : tyChk Tryz.prog 161 ⟨1, 8, [.f], .other⟩ = true := by kernel_rfl
theorem ty162 : tyChk Tryz.prog 162 ⟨1, 8, [.f], .other⟩ = true := by kernel_rfl
theorem ty163 : tyChk Tryz.prog 163 ⟨1, 8, [.f], .other⟩ = true := by kernel_rfl
theorem ty169 : tyChk Tryz.prog 169 ⟨1, 8, [.f], .other⟩ = true := by kernel_rfl
theorem ty172 : tyChk Tryz.prog 172 ⟨1, 8, [.f], .other⟩ = true := by kernel_rfl
theorem ty173 : tyChk Tryz.prog 173 ⟨1, 8, [.p], .other⟩ = true := by kernel_rfl
theorem te28 : eqChk Tryz.prog 28 [.int .u64, .int .u64] = true := by kernel_rfl
theorem te29 : eqChk Tryz.prog 29 [.int .u64, .int .u64] = true := by kernel_rfl
theorem te30 : eqChk Tryz.prog 30 [.int .i64, .int .i64] = true := by kernel_rfl
theorem te31 : eqChk Tryz.prog 31 [.int .i64, .int .i64] = true := by kernel_rfl
theorem te61 : eqChk Tryz.prog 61 [.int .u8, .int .u8] = true := by kernel_rfl
theorem te62 : eqChk Tryz.prog 62 [.int .u8, .int .u8] = true := by kernel_rfl
theorem te73 : eqChkS Tryz.prog 73 [.int .i64, .int .u64, .int .u64] [1, 2] = true := by kernel_rfl
theorem te74 : eqChkS Tryz.prog 74 [.int .i64, .int .u64, .int .u64] [1, 2] = true := by kernel_rfl
theorem te87 : eqChk Tryz.prog 87 [.int .i64, .int .i64] = true := by kernel_rfl
theorem te88 : eqChk Tryz.prog 88 [.int .i64, .int .i64] = true := by kernel_rfl
theorem te97 : eqChk Tryz.prog 97 [.int .i64, .int .i64, .int .i64] = true := by kernel_rfl
theorem te98 : eqChk Tryz.prog 98 [.int .i64, .int .i64, .int .i64] = true := by kernel_rfl
def T : Tab := ⟨tis, teq⟩
@[go_sem] theorem T_ti (t : TypeId) : T.ti t = tis t := rfl
@[go_sem] theorem T_eq (t : TypeId) : T.eq t = teq t := rfl
attribute [go_sem] tis teq
theorem T_ok : TabOK Tryz.prog T := by
  refine ⟨fun t i h => ?_, fun t cs h xs ys w hx hy => ?_⟩
  · simp only [T] at h
    unfold tis at h
    split at h
    · cases h; exact ty1
    · cases h; exact ty2
    · cases h; exact ty3
    · cases h; exact ty4
    · cases h; exact ty5
    · cases h; exact ty9
    · cases h; exact ty12
    · cases h; exact ty20
    · cases h; exact ty21
    · cases h; exact ty22
    · cases h; exact ty23
    · cases h; exact ty24
    · cases h; exact ty25
    · cases h; exact ty26
    · cases h; exact ty27
    · cases h; exact ty28
    · cases h; exact ty29
    · cases h; exact ty30
    · cases h; exact ty31
    · cases h; exact ty32
    · cases h; exact ty33
    · cases h; exact ty34
    · cases h; exact ty35
    · cases h; exact ty36
    · cases h; exact ty37
    · cases h; exact ty39
    · cases h; exact ty41
    · cases h; exact ty42
    · cases h; exact ty44
    · cases h; exact ty46
    · cases h; exact ty47
    · cases h; exact ty49
    · cases h; exact ty51
    · cases h; exact ty52
    · cases h; exact ty53
    · cases h; exact ty54
    · cases h; exact ty55
    · cases h; exact ty56
    · cases h; exact ty57
    · cases h; exact ty59
    · cases h; exact ty60
    · cases h; exact ty61
    · cases h; exact ty62
    · cases h; exact ty63
    · cases h; exact ty64
    · cases h; exact ty65
    · cases h; exact ty67
    · cases h; exact ty68
    · cases h; exact ty70
    · cases h; exact ty72
    · cases h; exact ty73
    · cases h; exact ty74
    · cases h; exact ty75
    · cases h; exact ty76
    · cases h; exact ty77
    · cases h; exact ty78
    · cases h; exact ty79
    · cases h; exact ty80
    · cases h; exact ty81
    · cases h; exact ty82
    · cases h; exact ty83
    · cases h; exact ty84
    · cases h; exact ty86
    · cases h; exact ty87
    · cases h; exact ty88
    · cases h; exact ty89
    · cases h; exact ty90
    · cases h; exact ty91
    · cases h; exact ty93
    · cases h; exact ty94
    · cases h; exact ty95
    · cases h; exact ty96
    · cases h; exact ty97
    · cases h; exact ty98
    · cases h; exact ty99
    · cases h; exact ty100
    · cases h; exact ty101
    · cases h; exact ty102
    · cases h; exact ty103
    · cases h; exact ty104
    · cases h; exact ty105
    · cases h; exact ty106
    · cases h; exact ty107
    · cases h; exact ty108
    · cases h; exact ty109
    · cases h; exact ty110
    · cases h; exact ty111
    · cases h; exact ty112
    · cases h; exact ty113
    · cases h; exact ty114
    · cases h; exact ty115
    · cases h; exact ty116
    · cases h; exact ty117
    · cases h; exact ty118
    · cases h; exact ty119
    · cases h; exact ty120
    · cases h; exact ty121
    · cases h; exact ty122
    · cases h; exact ty123
    · cases h; exact ty124
    · cases h; exact ty125
    · cases h; exact ty126
    · cases h; exact ty127
    · cases h; exact ty128
    · cases h; exact ty129
    · cases h; exact ty130
    · cases h; exact ty131
    · cases h; exact ty132
    · cases h; exact ty133
    · cases h; exact ty134
    · cases h; exact ty135
    · cases h; exact ty136
    · cases h; exact ty137
    · cases h; exact ty138
    · cases h; exact ty139
    · cases h; exact ty140
    · cases h; exact ty141
    · cases h; exact ty143
    · cases h; exact ty144
    · cases h; exact ty145
    · cases h; exact ty146
    · cases h; exact ty147
    · cases h; exact ty148
    · cases h; exact ty149
    · cases h; exact ty150
    · cases h; exact ty151
    · cases h; exact ty152
    · cases h; exact ty153
    · cases h; exact ty154
    · cases h; exact ty155
    · cases h; exact ty156
    · cases h; exact ty157
    · cases h; exact ty158
    · cases h; exact ty159
    · cases h; exact ty160
    · cases h; exact ty161
    · cases h; exact ty162
    · cases h; exact ty163
    · cases h; exact ty169
    · cases h; exact ty172
    · cases h; exact ty173
    · cases h
  · simp only [T] at h
    unfold teq at h
    split at h
    · cases h; exact eq_of_chk te28 xs ys w hx hy
    · cases h; exact eq_of_chk te29 xs ys w hx hy
    · cases h; exact eq_of_chk te30 xs ys w hx hy
    · cases h; exact eq_of_chk te31 xs ys w hx hy
    · cases h; exact eq_of_chk te61 xs ys w hx hy
    · cases h; exact eq_of_chk te62 xs ys w hx hy
    · cases h; exact eq_of_chkS te73 xs ys w hx hy
    · cases h; exact eq_of_chkS te74 xs ys w hx hy
    · cases h; exact eq_of_chk te87 xs ys w hx hy
    · cases h; exact eq_of_chk te88 xs ys w hx hy
    · cases h; exact eq_of_chk te97 xs ys w hx hy
    · cases h; exact eq_of_chk te98 xs ys w hx hy
    · cases h
end Go.Proofs.YtdnblflhlklfnaaGreat
