/-
  THE TABLE OF TYPES of this seat's program, made by program (mkT.py); each row is asked of the program by the kernel.
-/
import Derived.Test.YtnajladibkpeaaaProg
import Derived.Test.YtnajladibkpeaaaK5
import Derived.Test.YtnajladibkpeaaaKu
set_option linter.unusedVariables false
set_option maxRecDepth 100000
namespace Go.Proofs.Ytnajladibkpeaaa
open Go.Gx

def tis : TypeId → Option TI
  | 1 => some ⟨1, 8, [.f], .other⟩
  | 2 => some ⟨1, 8, [.i .i64], .int .i64⟩
  | 3 => some ⟨1, 8, [.i .i64], .int .i64⟩
  | 4 => some ⟨1, 1, [.b], .bool⟩
  | 5 => some ⟨1, 1, [.i .u8], .int .u8⟩
  | 9 => some ⟨1, 16, [.s], .other⟩
  | 12 => some ⟨1, 8, [.i .u64], .int .u64⟩
  | 20 => some ⟨1, 16, [.ifc], .other⟩
  | 21 => some ⟨1, 4, [.i .i32], .int .i32⟩
  | 22 => some ⟨1, 24, [.sl], .slice 85⟩
  | 23 => some ⟨1, 24, [.sl], .slice 46⟩
  | 24 => some ⟨1, 24, [.sl], .slice 93⟩
  | 25 => some ⟨3, 72, [.sl, .sl, .sl], .struct [(0, 1, false), (1, 1, false), (2, 1, false)]⟩
  | 26 => some ⟨3, 72, [.sl, .sl, .sl], .struct [(0, 1, false), (1, 1, false), (2, 1, false)]⟩
  | 27 => some ⟨1, 8, [.f], .other⟩
  | 28 => some ⟨1, 8, [.i .i64], .int .i64⟩
  | 30 => some ⟨1, 8, [.f], .other⟩
  | 32 => some ⟨1, 8, [.f], .other⟩
  | 33 => some ⟨1, 24, [.sl], .slice 40⟩
  | 35 => some ⟨1, 8, [.f], .other⟩
  | 37 => some ⟨1, 8, [.f], .other⟩
  | 38 => some ⟨1, 8, [.f], .other⟩
  | 39 => some ⟨1, 8, [.f], .other⟩
  | 40 => some ⟨1, 24, [.sl], .slice 3⟩
  | 42 => some ⟨1, 8, [.f], .other⟩
  | 44 => some ⟨1, 8, [.f], .other⟩
  | 45 => some ⟨3, 24, [.i .i64, .i .i64, .b], .struct [(0, 1, false), (1, 1, false), (2, 1, false)]⟩
  | 46 => some ⟨3, 24, [.i .i64, .i .i64, .b], .struct [(0, 1, false), (1, 1, false), (2, 1, false)]⟩
  | 48 => some ⟨1, 8, [.f], .other⟩
  | 50 => some ⟨1, 8, [.f], .other⟩
  | 51 => some ⟨1, 8, [.f], .other⟩
  | 52 => some ⟨1, 8, [.f], .other⟩
  | 53 => some ⟨1, 8, [.f], .other⟩
  | 55 => some ⟨1, 8, [.f], .other⟩
  | 57 => some ⟨1, 8, [.f], .other⟩
  | 59 => some ⟨1, 8, [.f], .other⟩
  | 61 => some ⟨1, 8, [.f], .other⟩
  | 62 => some ⟨1, 8, [.f], .other⟩
  | 63 => some ⟨1, 8, [.f], .other⟩
  | 64 => some ⟨1, 8, [.f], .other⟩
  | 65 => some ⟨1, 8, [.f], .other⟩
  | 66 => some ⟨1, 8, [.f], .other⟩
  | 68 => some ⟨1, 8, [.f], .other⟩
  | 70 => some ⟨1, 8, [.f], .other⟩
  | 71 => some ⟨1, 8, [.f], .other⟩
  | 72 => some ⟨1, 8, [.f], .other⟩
  | 73 => some ⟨1, 8, [.f], .other⟩
  | 74 => some ⟨1, 24, [.sl], .slice 90⟩
  | 76 => some ⟨1, 8, [.f], .other⟩
  | 78 => some ⟨1, 8, [.f], .other⟩
  | 79 => some ⟨1, 8, [.f], .other⟩
  | 80 => some ⟨1, 8, [.f], .other⟩
  | 81 => some ⟨1, 8, [.f], .other⟩
  | 82 => some ⟨1, 8, [.f], .other⟩
  | 83 => some ⟨1, 8, [.f], .other⟩
  | 84 => some ⟨2, 16, [.i .i64, .b], .struct [(0, 1, false), (1, 1, false)]⟩
  | 85 => some ⟨2, 16, [.i .i64, .b], .struct [(0, 1, false), (1, 1, false)]⟩
  | 87 => some ⟨1, 8, [.f], .other⟩
  | 88 => some ⟨1, 8, [.f], .other⟩
  | 89 => some ⟨1, 8, [.m], .map 90 3⟩
  | 90 => some ⟨2, 16, [.i .i64, .i .i64], .array 2 1 false⟩
  | 91 => some ⟨1, 24, [.sl], .slice 119⟩
  | 92 => some ⟨3, 40, [.i .i64, .i .i64, .sl], .struct [(0, 1, false), (1, 1, false), (2, 1, false)]⟩
  | 93 => some ⟨3, 40, [.i .i64, .i .i64, .sl], .struct [(0, 1, false), (1, 1, false), (2, 1, false)]⟩
  | 94 => some ⟨1, 8, [.p], .other⟩
  | 96 => some ⟨1, 8, [.f], .other⟩
  | 97 => some ⟨1, 8, [.m], .map 3 3⟩
  | 98 => some ⟨4, 80, [.sl, .sl, .sl, .m], .struct [(0, 3, true), (3, 1, false)]⟩
  | 99 => some ⟨4, 80, [.sl, .sl, .sl, .m], .struct [(0, 3, true), (3, 1, false)]⟩
  | 100 => some ⟨1, 8, [.f], .other⟩
  | 101 => some ⟨1, 8, [.f], .other⟩
  | 102 => some ⟨1, 8, [.f], .other⟩
  | 103 => some ⟨1, 8, [.m], .map 3 40⟩
  | 104 => some ⟨1, 8, [.f], .other⟩
  | 105 => some ⟨1, 8, [.f], .other⟩
  | 106 => some ⟨1, 8, [.f], .other⟩
  | 108 => some ⟨1, 8, [.f], .other⟩
  | 109 => some ⟨1, 8, [.f], .other⟩
  | 110 => some ⟨1, 8, [.f], .other⟩
  | 111 => some ⟨1, 8, [.f], .other⟩
  | 112 => some ⟨1, 8, [.f], .other⟩
  | 113 => some ⟨1, 8, [.f], .other⟩
  | 114 => some ⟨1, 8, [.f], .other⟩
  | 115 => some ⟨2, 16, [.i .i64, .i .i64], .array 2 1 false⟩
  | 116 => some ⟨1, 8, [.f], .other⟩
  | 117 => some ⟨1, 8, [.f], .other⟩
  | 118 => some ⟨2, 16, [.i .i64, .b], .struct [(0, 1, false), (1, 1, false)]⟩
  | 119 => some ⟨2, 16, [.i .i64, .b], .struct [(0, 1, false), (1, 1, false)]⟩
  | 120 => some ⟨1, 8, [.f], .other⟩
  | 121 => some ⟨1, 8, [.f], .other⟩
  | 122 => some ⟨1, 8, [.f], .other⟩
  | 123 => some ⟨1, 8, [.f], .other⟩
  | 124 => some ⟨1, 8, [.f], .other⟩
  | 125 => some ⟨1, 8, [.f], .other⟩
  | 126 => some ⟨1, 8, [.f], .other⟩
  | 127 => some ⟨1, 8, [.f], .other⟩
  | 128 => some ⟨1, 8, [.f], .other⟩
  | 129 => some ⟨1, 8, [.f], .other⟩
  | 130 => some ⟨1, 8, [.f], .other⟩
  | 131 => some ⟨1, 8, [.f], .other⟩
  | 132 => some ⟨1, 8, [.f], .other⟩
  | 133 => some ⟨1, 8, [.f], .other⟩
  | 134 => some ⟨1, 8, [.f], .other⟩
  | 135 => some ⟨1, 8, [.f], .other⟩
  | 136 => some ⟨1, 8, [.f], .other⟩
  | 137 => some ⟨1, 8, [.f], .other⟩
  | 138 => some ⟨1, 8, [.f], .other⟩
  | 139 => some ⟨1, 8, [.f], .other⟩
  | 140 => some ⟨1, 8, [.f], .other⟩
  | 141 => some ⟨1, 8, [.f], .other⟩
  | 142 => some ⟨1, 8, [.f], .other⟩
  | 143 => some ⟨1, 24, [.sl], .slice 115⟩
  | 145 => some ⟨1, 8, [.f], .other⟩
  | 146 => some ⟨1, 8, [.f], .other⟩
  | 147 => some ⟨1, 8, [.f], .other⟩
  | 149 => some ⟨1, 8, [.f], .other⟩
  | 150 => some ⟨1, 8, [.f], .other⟩
  | 151 => some ⟨1, 8, [.f], .other⟩
  | 152 => some ⟨1, 24, [.sl], .slice 4⟩
  | 153 => some ⟨1, 8, [.f], .other⟩
  | 154 => some ⟨1, 8, [.f], .other⟩
  | 155 => some ⟨1, 8, [.f], .other⟩
  | 156 => some ⟨1, 8, [.f], .other⟩
  | 157 => some ⟨1, 8, [.f], .other⟩
  | 158 => some ⟨1, 8, [.f], .other⟩
  | 159 => some ⟨1, 8, [.f], .other⟩
  | 160 => some ⟨1, 8, [.f], .other⟩
  | 161 => some ⟨1, 8, [.f], .other⟩
  | 162 => some ⟨1, 8, [.f], .other⟩
  | 163 => some ⟨1, 8, [.f], .other⟩
  | 164 => some ⟨1, 8, [.f], .other⟩
  | 165 => some ⟨1, 8, [.f], .other⟩
  | 166 => some ⟨1, 8, [.f], .other⟩
  | 167 => some ⟨1, 8, [.f], .other⟩
  | 168 => some ⟨1, 8, [.f], .other⟩
  | 169 => some ⟨1, 8, [.f], .other⟩
  | 170 => some ⟨1, 8, [.f], .other⟩
  | 171 => some ⟨1, 8, [.f], .other⟩
  | 172 => some ⟨1, 8, [.f], .other⟩
  | 173 => some ⟨1, 8, [.f], .other⟩
  | 174 => some ⟨1, 8, [.f], .other⟩
  | 175 => some ⟨1, 8, [.f], .other⟩
  | 176 => some ⟨1, 8, [.f], .other⟩
  | 177 => some ⟨1, 8, [.f], .other⟩
  | 178 => some ⟨1, 8, [.f], .other⟩
  | 179 => some ⟨1, 8, [.f], .other⟩
  | 180 => some ⟨1, 8, [.i .u64], .int .u64⟩
  | 181 => some ⟨1, 8, [.f], .other⟩
  | 182 => some ⟨1, 8, [.f], .other⟩
  | 183 => some ⟨1, 8, [.f], .other⟩
  | 184 => some ⟨1, 8, [.f], .other⟩
  | 185 => some ⟨1, 8, [.f], .other⟩
  | 186 => some ⟨1, 8, [.f], .other⟩
  | 187 => some ⟨1, 8, [.f], .other⟩
  | 188 => some ⟨1, 8, [.i .i64], .int .i64⟩
  | 190 => some ⟨1, 8, [.f], .other⟩
  | 191 => some ⟨1, 8, [.f], .other⟩
  | 192 => some ⟨1, 8, [.f], .other⟩
  | 193 => some ⟨1, 8, [.f], .other⟩
  | 194 => some ⟨1, 8, [.f], .other⟩
  | 195 => some ⟨1, 4, [.i .u32], .int .u32⟩
  | 196 => some ⟨1, 8, [.f], .other⟩
  | 197 => some ⟨1, 8, [.i .u64], .int .u64⟩
  | 198 => some ⟨1, 8, [.i .u64], .int .u64⟩
  | 199 => some ⟨1, 8, [.f], .other⟩
  | 200 => some ⟨1, 8, [.f], .other⟩
  | 201 => some ⟨1, 8, [.f], .other⟩
  | 202 => some ⟨1, 8, [.p], .other⟩
  | 203 => some ⟨1, 8, [.f], .other⟩
  | 204 => some ⟨1, 8, [.p], .other⟩
  | 205 => some ⟨1, 8, [.f], .other⟩
  | 206 => some ⟨1, 8, [.f], .other⟩
  | 212 => some ⟨1, 8, [.f], .other⟩
  | 215 => some ⟨1, 8, [.f], .other⟩
  | 216 => some ⟨1, 8, [.p], .other⟩
  | _ => none
def teq : TypeId → Option (List CK)
  | 45 => some [.int .i64, .int .i64, .bool]
  | 46 => some [.int .i64, .int .i64, .bool]
  | 84 => some [.int .i64, .bool]
  | 85 => some [.int .i64, .bool]
  | 90 => some [.int .i64, .int .i64]
  | 115 => some [.int .i64, .int .i64]
  | 118 => some [.int .i64, .bool]
  | 119 => some [.int .i64, .bool]
  | _ => none
theorem ty1 : tyChk Try.prog 1 ⟨1, 8, [.f], .other⟩ = true := by kernel_rfl
theorem ty2 : tyChk Try.prog 2 ⟨1, 8, [.i .i64], .int .i64⟩ = true := by kernel_rfl
theorem ty3 : tyChk Try.prog 3 ⟨1, 8, [.i .i64], .int .i64⟩ = true := by kernel_rfl
theorem ty4 : tyChk Try.prog 4 ⟨1, 1, [.b], .bool⟩ = true := by kernel_rfl
theorem ty5 : tyChk Try.prog 5 ⟨1, 1, [.i .u8], .int .u8⟩ = true := by kernel_rfl
theorem ty9 : tyChk Try.prog 9 ⟨1, 16, [.s], .other⟩ = true := by kernel_rfl
theorem ty12 : tyChk Try.prog 12 ⟨1, 8, [.i .u64], .int .u64⟩ = true := by kernel_rfl
theorem ty20 : tyChk Try.prog 20 ⟨1, 16, [.ifc], .other⟩ = true := by kernel_rfl
theorem ty21 : tyChk Try.prog 21 ⟨1, 4, [.i .i32], .int .i32⟩ = true := by kernel_rfl
theorem ty22 : tyChk Try.prog 22 ⟨1, 24, [.sl], .slice 85⟩ = true := by kernel_rfl
theorem ty23 : tyChk Try.prog 23 ⟨1, 24, [.sl], .slice 46⟩ = true := by kernel_rfl
theorem ty24 : tyChk Try.prog 24 ⟨1, 24, [.sl], .slice 93⟩ = true := by kernel_rfl
theorem ty25 : tyChk Try.prog 25 ⟨3, 72, [.sl, .sl, .sl], .struct [(0, 1, false), (1, 1, false), (2, 1, false)]⟩ = true := by kernel_rfl
theorem ty26 : tyChk Try.prog 26 ⟨3, 72, [.sl, .sl, .sl], .struct [(0, 1, false), (1, 1, false), (2, 1, false)]⟩ = true := by kernel_rfl
theorem ty27 : tyChk Try.prog 27 ⟨1, 8, [.f], .other⟩ = true := by kernel_rfl
theorem ty28 : tyChk Try.prog 28 ⟨1, 8, [.i .i64], .int .i64⟩ = true := by kernel_rfl
theorem ty30 : tyChk Try.prog 30 ⟨1, 8, [.f], .other⟩ = true := by kernel_rfl
theorem ty32 : tyChk Try.prog 32 ⟨1, 8, [.f], .other⟩ = true := by kernel_rfl
theorem ty33 : tyChk Try.prog 33 ⟨1, 24, [.sl], .slice 40⟩ = true := by kernel_rfl
theorem ty35 : tyChk Try.prog 35 ⟨1, 8, [.f], .other⟩ = true := by kernel_rfl
theorem ty37 : tyChk Try.prog 37 ⟨1, 8, [.f], .other⟩ = true := by kernel_rfl
theorem ty38 : tyChk Try.prog 38 ⟨1, 8, [.f], .other⟩ = true := by kernel_rfl
theorem ty39 : tyChk Try.prog 39 ⟨1, 8, [.f], .other⟩ = true := by kernel_rfl
theorem ty40 : tyChk Try.prog 40 ⟨1, 24, [.sl], .slice 3⟩ = true := by kernel_rfl
theorem ty42 : tyChk Try.prog 42 ⟨1, 8, [.f], .other⟩ = true := by kernel_rfl
theorem ty44 : tyChk Try.prog 44 ⟨1, 8, [.f], .other⟩ = true := by kernel_rfl
theorem ty45 : tyChk Try.prog 45 ⟨3, 24, [.i .i64, .i .i64, .b], .struct [(0, 1, false), (1, 1, false), (2, 1, false)]⟩ = true := by kernel_rfl
theorem ty46 : tyChk Try.prog 46 ⟨3, 24, [.i .i64, .i .i64, .b], .struct [(0, 1, false), (1, 1, false), (2, 1, false)]⟩ = true := by kernel_rfl
theorem ty48 : tyChk Try.prog 48 ⟨1, 8, [.f], .other⟩ = true := by kernel_rfl
theorem ty50 : tyChk Try.prog 50 ⟨1, 8, [.f], .other⟩ = true := by kernel_rfl
theorem ty51 : tyChk Try.prog 51 ⟨1, 8, [.f], .other⟩ = true := by kernel_rfl
theorem ty52 : tyChk Try.prog 52 ⟨1, 8, [.f], .other⟩ = true := by kernel_rfl
theorem ty53 : tyChk Try.prog 53 ⟨1, 8, [.f], .other⟩ = true := by kernel_rfl
theorem ty55 : tyChk Try.prog 55 ⟨1, 8, [.f], .other⟩ = true := by kernel_rfl
theorem ty57 : tyChk Try.prog 57 ⟨1, 8, [.f], .other⟩ = true := by kernel_rfl
theorem ty59 : tyChk Try.prog 59 ⟨1, 8, [.f], .other⟩ = true := by kernel_rfl
theorem ty61 : tyChk Try.prog 61 ⟨1, 8, [.f], .other⟩ = true := by kernel_rfl
theorem ty62 : tyChk Try.prog 62 ⟨1, 8, [.f], .other⟩ = true := by kernel_rfl
theorem ty63 : tyChk Try.prog 63 ⟨1, 8, [.f], .other⟩ = true := by kernel_rfl
theorem ty64 : tyChk Try.prog 64 ⟨1, 8, [.f], .other⟩ = true := by kernel_rfl
theorem ty65 : tyChk Try.prog 65 ⟨1, 8, [.f], .other⟩ = true := by kernel_rfl
theorem ty66 : tyChk Try.prog 66 ⟨1, 8, [.f], .other⟩ = true := by kernel_rfl
theorem ty68 : tyChk Try.prog 68 ⟨1, 8, [.f], .other⟩ = true := by kernel_rfl
theorem ty70 : tyChk Try.prog 70 ⟨1, 8, [.f], .other⟩ = true := by kernel_rfl
theorem ty71 : tyChk Try.prog 71 ⟨1, 8, [.f], .other⟩ = true := by kernel_rfl
theorem ty72 : tyChk Try.prog 72 ⟨1, 8, [.f], .other⟩ = true := by kernel_rfl
theorem ty73 : tyChk Try.prog 73 ⟨1, 8, [.f], .other⟩ = true := by kernel_rfl
theorem ty74 : tyChk Try.prog 74 ⟨1, 24, [.sl], .slice 90⟩ = true := by kernel_rfl
theorem ty76 : tyChk Try.prog 76 ⟨1, 8, [.f], .other⟩ = true := by kernel_rfl
theorem ty78 : tyChk Try.prog 78 ⟨1, 8, [.f], .other⟩ = true := by kernel_rfl
theorem ty79 : tyChk Try.prog 79 ⟨1, 8, [.f], .other⟩ = true := by kernel_rfl
theorem ty80 : tyChk Try.prog 80 ⟨1, 8, [.f], .other⟩ = true := by kernel_rfl
theorem ty81 : tyChk Try.prog 81 ⟨1, 8, [.f], .other⟩ = true := by kernel_rfl
theorem ty82 : tyChk Try.prog 82 ⟨1, 8, [.f], .other⟩ = true := by kernel_rfl
theorem ty83 : tyChk Try.prog 83 ⟨1, 8, [.f], .other⟩ = true := by kernel_rfl
theorem ty84 : tyChk Try.prog 84 ⟨2, 16, [.i .i64, .b], .struct [(0, 1, false), (1, 1, false)]⟩ = true := by kernel_rfl
theorem ty85 : tyChk Try.prog 85 ⟨2, 16, [.i .i64, .b], .struct [(0, 1, false), (1, 1, false)]⟩ = true := by kernel_rfl
theorem ty87 : tyChk Try.prog 87 ⟨1, 8, [.f], .other⟩ = true := by kernel_rfl
theorem ty88 : tyChk Try.prog 88 ⟨1, 8, [.f], .other⟩ = true := by kernel_rfl
theorem ty89 : tyChk Try.prog 89 ⟨1, 8, [.m], .map 90 3⟩ = true := by kernel_rfl
theorem ty90 : tyChk Try.prog 90 ⟨2, 16, [.i .i64, .i .i64], .array 2 1 false⟩ = true := by kernel_rfl
theorem ty91 : tyChk Try.prog 91 ⟨1, 24, [.sl], .slice 119⟩ = true := by kernel_rfl
theorem ty92 : tyChk Try.prog 92 ⟨3, 40, [.i .i64, .i .i64, .sl], .struct [(0, 1, false), (1, 1, false), (2, 1, false)]⟩ = true := by kernel_rfl
theorem ty93 : tyChk Try.prog 93 ⟨3, 40, [.i .i64, .i .i64, .sl], .struct [(0, 1, false), (1, 1, false), (2, 1, false)]⟩ = true := by kernel_rfl
theorem ty94 : tyChk Try.prog 94 ⟨1, 8, [.p], .other⟩ = true := by kernel_rfl
theorem ty96 : tyChk Try.prog 96 ⟨1, 8, [.f], .other⟩ = true := by kernel_rfl
theorem ty97 : tyChk Try.prog 97 ⟨1, 8, [.m], .map 3 3⟩ = true := by kernel_rfl
theorem ty98 : tyChk Try.prog 98 ⟨4, 80, [.sl, .sl, .sl, .m], .struct [(0, 3, true), (3, 1, false)]⟩ = true := by kernel_rfl
theorem ty99 : tyChk Try.prog 99 ⟨4, 80, [.sl, .sl, .sl, .m], .struct [(0, 3, true), (3, 1, false)]⟩ = true := by kernel_rfl
theorem ty100 : tyChk Try.prog 100 ⟨1, 8, [.f], .other⟩ = true := by kernel_rfl
theorem ty101 : tyChk Try.prog 101 ⟨1, 8, [.f], .other⟩ = true := by kernel_rfl
theorem ty102 : tyChk Try.prog 102 ⟨1, 8, [.f], .other⟩ = true := by kernel_rfl
theorem ty103 : tyChk Try.prog 103 ⟨1, 8, [.m], .map 3 40⟩ = true := by kernel_rfl
theorem ty104 : tyChk Try.prog 104 ⟨1, 8, [.f], .other⟩ = true := by kernel_rfl
theorem ty105 : tyChk Try.prog 105 ⟨1, 8, [.f], .other⟩ = true := by kernel_rfl
theorem ty106 : tyChk Try.prog 106 ⟨1, 8, [.f], .other⟩ = true := by kernel_rfl
theorem ty108 : tyChk Try.prog 108 ⟨1, 8, [.f], .other⟩ = true := by kernel_rfl
theorem ty109 : tyChk Try.prog 109 ⟨1, 8, [.f], .other⟩ = true := by kernel_rfl
theorem ty110 : tyChk Try.prog 110 ⟨1, 8, [.f], .other⟩ = true := by kernel_rfl
theorem ty111 : tyChk Try.prog 111 ⟨1, 8, [.f], .other⟩ = true := by kernel_rfl
theorem ty112 : tyChk Try.prog 112 ⟨1, 8, [.f], .other⟩ = true := by kernel_rfl
theorem ty113 : tyChk Try.prog 113 ⟨1, 8, [.f], .other⟩ = true := by kernel_rfl
theorem ty114 : tyChk Try.prog 114 ⟨1, 8, [.f], .other⟩ = true := by kernel_rfl
theorem ty115 : tyChk Try.prog 115 ⟨2, 16, [.i .i64, .i .i64], .array 2 1 false⟩ = true := by kernel_rfl
theorem ty116 : tyChk Try.prog 116 ⟨1, 8, [.f], .other⟩ = true := by kernel_rfl
theorem ty117 : tyChk Try.prog 117 ⟨1, 8, [.f], .other⟩ = true := by kernel_rfl
theorem ty118 : tyChk Try.prog 118 ⟨2, 16, [.i .i64, .b], .struct [(0, 1, false), (1, 1, false)]⟩ = true := by kernel_rfl
theorem ty119 : tyChk Try.prog 119 ⟨2, 16, [.i .i64, .b], .struct [(0, 1, false), (1, 1, false)]⟩ = true := by kernel_rfl
theorem ty120 : tyChk Try.prog 120 ⟨1, 8, [.f], .other⟩ = true := by kernel_rfl
theorem ty121 : tyChk Try.prog 121 ⟨1, 8, [.f], .other⟩ = true := by kernel_rfl
theorem ty122 : tyChk Try.prog 122 ⟨1, 8, [.f], .other⟩ = true := by kernel_rfl
theorem ty123 : tyChk Try.prog 123 ⟨1, 8, [.f], .other⟩ = true := by kernel_rfl
theorem ty124 : tyChk Try.prog 124 ⟨1, 8, [.f], .other⟩ = true := by kernel_rfl
theorem ty125 : tyChk Try.prog 125 ⟨1, 8, [.f], .other⟩ = true := by kernel_rfl
theorem ty126 : tyChk Try.prog 126 ⟨1, 8, [.f], .other⟩ = true := by kernel_rfl
theorem ty127 : tyChk Try.prog 127 ⟨1, 8, [.f], .other⟩ = true := by kernel_rfl
theorem ty128 : tyChk Try.prog 128 ⟨1, 8, [.f], .other⟩ = true := by kernel_rfl
theorem ty129 : tyChk Try.prog 129 ⟨1, 8, [.f], .other⟩ = true := by kernel_rfl
theorem ty130 : tyChk Try.prog 130 ⟨1, 8, [.f], .other⟩ = true := by kernel_rfl
theorem ty131 : tyChk Try.prog 131 ⟨1, 8, [.f], .other⟩ = true := by kernel_rfl
theorem ty132 : tyChk Try.prog 132 ⟨1, 8, [.f], .other⟩ = true := by kernel_rfl
theorem ty133 : tyChk Try.prog 133 ⟨1, 8, [.f], .other⟩ = true := by kernel_rfl
theorem ty134 : tyChk Try.prog 134 ⟨1, 8, [.f], .other⟩ = true := by kernel_rfl
theorem ty135 : tyChk Try.prog 135 ⟨1, 8, [.f], .other⟩ = true := by kernel_rfl
theorem ty136 : tyChk Try.prog 136 ⟨1, 8, [.f], .other⟩ = true := by kernel_rfl
theorem ty137 : tyChk Try.prog 137 ⟨1, 8, [.f], .other⟩ = true := by kernel_rfl
theorem ty138 : tyChk Try.prog 138 ⟨1, 8, [.f], .other⟩ = true := by kernel_rfl
theorem ty139 : tyChk Try.prog 139 ⟨1, 8, [.f], .other⟩ = true := by kernel_rfl
theorem ty140 : tyChk Try.prog 140 ⟨1, 8, [.f], .other⟩ = true := by kernel_rfl
theorem ty141 : tyChk Try.prog 141 ⟨1, 8, [.f], .other⟩ = true := by kernel_rfl
theorem ty142 : tyChk Try.prog 142 ⟨1, 8, [.f], .other⟩ = true := by kernel_rfl
theorem ty143 : tyChk Try.prog 143 ⟨1, 24, [.sl], .slice 115⟩ = true := by kernel_rfl
theorem ty145 : tyChk Try.prog 145 ⟨1, 8, [.f], .other⟩ = true := by kernel_rfl
theorem ty146 : tyChk Try.prog 146 ⟨1, 8, [.f], .other⟩ = true := by kernel_rfl
theorem ty147 : tyChk Try.prog 147 ⟨1, 8, [.f], .other⟩ = true := by kernel_rfl
theorem ty149 : tyChk Try.prog 149 ⟨1, 8, [.f], .other⟩ = true := by kernel_rfl
theorem ty150 : tyChk Try.prog 150 ⟨1, 8, [.f], .other⟩ = true := by kernel_rfl
theorem ty151 : tyChk Try.prog 151 ⟨1, 8, [.f], .other⟩ = true := by kernel_rfl
theorem ty152 : tyChk Try.prog 152 ⟨1, 24, [.sl], .slice 4⟩ = true := by kernel_rfl
theorem ty153 : tyChk Try.prog 153 ⟨1, 8, [.f], .other⟩ = true := by kernel_rfl
theorem ty154 : tyChk Try.prog 154 ⟨1, 8, [.f], .other⟩ = true := by kernel_rfl
theorem ty155 : tyChk Try.prog 155 ⟨1, 8, [.f], .other⟩ = true := by kernel_rfl
theorem ty156 : tyChk Try.prog 156 ⟨1, 8, [.f], .other⟩ = true := by kernel_rfl
theorem ty157 : tyChk Try.prog 157 ⟨1, 8, [.f], .other⟩ = true := by kernel_rfl
theorem ty158 : tyChk Try.prog 158 ⟨1, 8, [.f], .other⟩ = true := by kernel_rfl
theorem ty159 : tyChk Try.prog 159 ⟨1, 8, [.f], .other⟩ = true := by kernel_rfl
theorem ty160 : tyChk Try.prog 160 ⟨1, 8, [.f], .other⟩ = true := by kernel_rfl
theorem ty161 : tyChk Try.prog 161 ⟨1, 8, [.f], .other⟩ = true := by kernel_rfl
theorem ty162 : tyChk Try.prog 162 ⟨1, 8, [.f], .other⟩ = true := by kernel_rfl
theorem ty163 : tyChk Try.prog 163 ⟨1, 8, [.f], .other⟩ = true := by kernel_rfl
theorem ty164 : tyChk Try.prog 164 ⟨1, 8, [.f], .other⟩ = true := by kernel_rfl
theorem ty165 : tyChk Try.prog 165 ⟨1, 8, [.f], .other⟩ = true := by kernel_rfl
theorem ty166 : tyChk Try.prog 166 ⟨1, 8, [.f], .other⟩ = true := by kernel_rfl
theorem ty167 : tyChk Try.prog 167 ⟨1, 8, [.f], .other⟩ = true := by kernel_rfl
theorem ty168 : tyChk Try.prog 168 ⟨1, 8, [.f], .other⟩ = true := by kernel_rfl
theorem ty169 : tyChk Try.prog 169 ⟨1, 8, [.f], .other⟩ = true := by kernel_rfl
theorem ty170 : tyChk Try.prog 170 ⟨1, 8, [.f], .other⟩ = true := by kernel_rfl
theorem ty171 : tyChk Try.prog 171 ⟨1, 8, [.f], .other⟩ = true := by kernel_rfl
theorem ty172 : tyChk Try.prog 172 ⟨1, 8, [.f], .other⟩ = true := by kernel_rfl
theorem ty173 : tyChk Try.prog 173 ⟨1, 8, [.f], .other⟩ = true := by kernel_rfl
theorem ty174 : tyChk Try.prog 174 ⟨1, 8, [.f], .other⟩ = true := by kernel_rfl
theorem ty175 : tyChk Try.prog 175 ⟨1, 8, [.f], .other⟩ = true := by kernel_rfl
theorem ty176 : tyChk Try.prog 176 ⟨1, 8, [.f], .other⟩ = true := by kernel_rfl
theorem ty177 : tyChk Try.prog 177 ⟨1, 8, [.f], .other⟩ = true := by kernel_rfl
theorem ty178 : tyChk Try.prog 178 ⟨1, 8, [.f], .other⟩ = true := by kernel_rfl
theorem ty179 : tyChk Try.prog 179 ⟨1, 8, [.f], .other⟩ = true := by kernel_rfl
theorem ty180 : tyChk Try.prog 180 ⟨1, 8, [.i .u64], .int .u64⟩ = true := by kernel_rfl
theorem ty181 : tyChk Try.prog 181 ⟨1, 8, [.f], .other⟩ = true := by kernel_rfl
theorem ty182 : tyChk Try.prog 182 ⟨1, 8, [.f], .other⟩ = true := by kernel_rfl
theorem ty183 : tyChk Try.prog 183 ⟨1, 8, [.f], .other⟩ = true := by kernel_rfl
theorem ty184 : tyChk Try.prog 184 ⟨1, 8, [.f], .other⟩ = true := by kernel_rfl
theorem ty185 : tyChk Try.prog 185 ⟨1, 8, [.f], .other⟩ = true := by kernel_rfl
theorem ty186 : tyChk Try.prog 186 ⟨1, 8, [.f], .other⟩ = true := by kernel_rfl
theorem ty187 : tyChk Try.prog 187 ⟨1, 8, [.f], .other⟩ = true := by kernel_rfl
theorem ty188 : tyChk Try.prog 188 ⟨1, 8, [.i .i64], .int .i64⟩ = true := by kernel_rfl
theorem ty190 : tyChk Try.prog 190 ⟨1, 8, [.f], .other⟩ = true := by kernel_rfl
theorem ty191 : tyChk Try.prog 191 ⟨1, 8, [.f], .other⟩ = true := by kernel_rfl
theorem ty192 : tyChk Try.prog 192 ⟨1, 8, [.f], .other⟩ = true := by kernel_rfl
theorem ty193 : tyChk Try.prog 193 ⟨1, 8, [.f], .other⟩ = true := by kernel_rfl
theorem ty194 : tyChk Try.prog 194 ⟨1, 8, [.f], .other⟩ = true := by kernel_rfl
theorem ty195 : tyChk Try.prog 195 ⟨1, 4, [.i .u32], .int .u32⟩ = true := by kernel_rfl
theorem ty196 : tyChk Try.prog 196 ⟨1, 8, [.f], .other⟩ = true := by kernel_rfl
theorem ty197 : tyChk Try.prog 197 ⟨1, 8, [.i .u64], .int .u64⟩ = true := by kernel_rfl
theorem ty198 : tyChk Try.prog 198 ⟨1, 8, [.i .u64], .int .u64⟩ = true := by kernel_rfl
theorem ty199 : tyChk Try.prog 199 ⟨1, 8, [.f], .other⟩ = true := by kernel_rfl
theorem ty200 : tyChk Try.prog 200 ⟨1, 8, [.f], .other⟩ = true := by kernel_rfl
theorem ty201 : tyChk Try.prog 201 ⟨1, 8, [.f], .other⟩ = true := by kernel_rfl
theorem ty202 : tyChk Try.prog 202 ⟨1, 8, [.p], .other⟩ = true := by kernel_rfl
theorem ty203 : tyChk Try.prog 203 ⟨1, 8, [.f], .other⟩ = true := by kernel_rfl
theorem ty204 : tyChk Try.prog 204 ⟨1, 8, [.p], .other⟩ = true := by kernel_rfl
theorem ty205 : tyChk Try.prog 205 ⟨1, 8, [.f], .other⟩ = true := by kernel_rfl
theorem ty206 : tyChk Try.prog 206 ⟨1, 8, [.f], .other⟩ = true := by kernel_rfl
theorem ty212 : tyChk Try.prog 212 ⟨1, 8, [.f], .other⟩ = true := by kernel_rfl
theorem ty215 : tyChk Try.prog 215 ⟨1, 8, [.f], .other⟩ = true := by kernel_rfl
theorem ty216 : tyChk Try.prog 216 ⟨1, 8, [.p], .other⟩ = true := by kernel_rfl
theorem te45 : eqChk Try.prog 45 [.int .i64, .int .i64, .bool] = true := by kernel_rfl
theorem te46 : eqChk Try.prog 46 [.int .i64, .int .i64, .bool] = true := by kernel_rfl
theorem te84 : eqChk Try.prog 84 [.int .i64, .bool] = true := by kernel_rfl
theorem te85 : eqChk Try.prog 85 [.int .i64, .bool] = true := by kernel_rfl
theorem te90 : eqChkA Try.prog 90 [.int .i64, .int .i64] = true := by kernel_rfl
theorem te115 : eqChkA Try.prog 115 [.int .i64, .int .i64] = true := by kernel_rfl
theorem te118 : eqChk Try.prog 118 [.int .i64, .bool] = true := by kernel_rfl
theorem te119 : eqChk Try.prog 119 [.int .i64, .bool] = true := by kernel_rfl
def tkey : TypeId → Option KK
  | 84 => some .v
  | 85 => some .v
  | 90 => some .p
  | 115 => some .p
  | 118 => some .v
  | 119 => some .v
  | _ => none
theorem tk84 : voteChk Try.prog 84 = true := by kernel_rfl
theorem tk85 : voteChk Try.prog 85 = true := by kernel_rfl
theorem tk90 : pairChk Try.prog 90 = true := by kernel_rfl
theorem tk115 : pairChk Try.prog 115 = true := by kernel_rfl
theorem tk118 : voteChk Try.prog 118 = true := by kernel_rfl
theorem tk119 : voteChk Try.prog 119 = true := by kernel_rfl
def T : Tab := ⟨tis, teq, tkey⟩
@[go_sem] theorem T_ti (t : TypeId) : T.ti t = tis t := rfl
@[go_sem] theorem T_eq (t : TypeId) : T.eq t = teq t := rfl
attribute [go_sem] tis teq
@[go_sem] theorem T_key (t : TypeId) : T.key t = tkey t := rfl
attribute [go_sem] tkey
theorem T_ok : TabOK Try.prog T := by
  refine ⟨fun t i h => ?_, fun t cs h xs ys w hx hy => ?_, fun t kd h => ?_⟩
  · simp only [T] at h
    unfold tis at h
    split at h
    · cases h; exact ty1
    · cases h; exact ty2
    · cases h; exact ty3
    · cases h; exact ty4
    · cases h; exact ty5
    · cases h; exact ty9
    · cases h; exact ty12
    · cases h; exact ty20
    · cases h; exact ty21
    · cases h; exact ty22
    · cases h; exact ty23
    · cases h; exact ty24
    · cases h; exact ty25
    · cases h; exact ty26
    · cases h; exact ty27
    · cases h; exact ty28
    · cases h; exact ty30
    · cases h; exact ty32
    · cases h; exact ty33
    · cases h; exact ty35
    · cases h; exact ty37
    · cases h; exact ty38
    · cases h; exact ty39
    · cases h; exact ty40
    · cases h; exact ty42
    · cases h; exact ty44
    · cases h; exact ty45
    · cases h; exact ty46
    · cases h; exact ty48
    · cases h; exact ty50
    · cases h; exact ty51
    · cases h; exact ty52
    · cases h; exact ty53
    · cases h; exact ty55
    · cases h; exact ty57
    · cases h; exact ty59
    · cases h; exact ty61
    · cases h; exact ty62
    · cases h; exact ty63
    · cases h; exact ty64
    · cases h; exact ty65
    · cases h; exact ty66
    · cases h; exact ty68
    · cases h; exact ty70
    · cases h; exact ty71
    · cases h; exact ty72
    · cases h; exact ty73
    · cases h; exact ty74
    · cases h; exact ty76
    · cases h; exact ty78
    · cases h; exact ty79
    · cases h; exact ty80
    · cases h; exact ty81
    · cases h; exact ty82
    · cases h; exact ty83
    · cases h; exact ty84
    · cases h; exact ty85
    · cases h; exact ty87
    · cases h; exact ty88
    · cases h; exact ty89
    · cases h; exact ty90
    · cases h; exact ty91
    · cases h; exact ty92
    · cases h; exact ty93
    · cases h; exact ty94
    · cases h; exact ty96
    · cases h; exact ty97
    · cases h; exact ty98
    · cases h; exact ty99
    · cases h; exact ty100
    · cases h; exact ty101
    · cases h; exact ty102
    · cases h; exact ty103
    · cases h; exact ty104
    · cases h; exact ty105
    · cases h; exact ty106
    · cases h; exact ty108
    · cases h; exact ty109
    · cases h; exact ty110
    · cases h; exact ty111
    · cases h; exact ty112
    · cases h; exact ty113
    · cases h; exact ty114
    · cases h; exact ty115
    · cases h; exact ty116
    · cases h; exact ty117
    · cases h; exact ty118
    · cases h; exact ty119
    · cases h; exact ty120
    · cases h; exact ty121
    · cases h; exact ty122
    · cases h; exact ty123
    · cases h; exact ty124
    · cases h; exact ty125
    · cases h; exact ty126
    · cases h; exact ty127
    · cases h; exact ty128
    · cases h; exact ty129
    · cases h; exact ty130
    · cases h; exact ty131
    · cases h; exact ty132
    · cases h; exact ty133
    · cases h; exact ty134
    · cases h; exact ty135
    · cases h; exact ty136
    · cases h; exact ty137
    · cases h; exact ty138
    · cases h; exact ty139
    · cases h; exact ty140
    · cases h; exact ty141
    · cases h; exact ty142
    · cases h; exact ty143
    · cases h; exact ty145
    · cases h; exact ty146
    · cases h; exact ty147
    · cases h; exact ty149
    · cases h; exact ty150
    · cases h; exact ty151
    · cases h; exact ty152
    · cases h; exact ty153
    · cases h; exact ty154
    · cases h; exact ty155
    · cases h; exact ty156
    · cases h; exact ty157
    · cases h; exact ty158
    · cases h; exact ty159
    · cases h; exact ty160
    · cases h; exact ty161
    · cases h; exact ty162
    · cases h; exact ty163
    · cases h; exact ty164
    · cases h; exact ty165
    · cases h; exact ty166
    · cases h; exact ty167
    · cases h; exact ty168
    · cases h; exact ty169
    · cases h; exact ty170
    · cases h; exact ty171
    · cases h; exact ty172
    · cases h; exact ty173
    · cases h; exact ty174
    · cases h; exact ty175
    · cases h; exact ty176
    · cases h; exact ty177
    · cases h; exact ty178
    · cases h; exact ty179
    · cases h; exact ty180
    · cases h; exact ty181
    · cases h; exact ty182
    · cases h; exact ty183
    · cases h; exact ty184
    · cases h; exact ty185
    · cases h; exact ty186
    · cases h; exact ty187
    · cases h; exact ty188
    · cases h; exact ty190
    · cases h; exact ty191
    · cases h; exact ty192
    · cases h; exact ty193
    · cases h; exact ty194
    · cases h; exact ty195
    · cases h; exact ty196
    · cases h; exact ty197
    · cases h; exact ty198
    · cases h; exact ty199
    · cases h; exact ty200
    · cases h; exact ty201
    · cases h; exact ty202
    · cases h; exact ty203
    · cases h; exact ty204
    · cases h; exact ty205
    · cases h; exact ty206
    · cases h; exact ty212
    · cases h; exact ty215
    · cases h; exact ty216
    · cases h
  · simp only [T] at h
    unfold teq at h
    split at h
    · cases h; exact eq_of_chk te45 xs ys w hx hy
    · cases h; exact eq_of_chk te46 xs ys w hx hy
    · cases h; exact eq_of_chk te84 xs ys w hx hy
    · cases h; exact eq_of_chk te85 xs ys w hx hy
    · cases h; exact eq_of_chkA te90 xs ys w hx hy
    · cases h; exact eq_of_chkA te115 xs ys w hx hy
    · cases h; exact eq_of_chk te118 xs ys w hx hy
    · cases h; exact eq_of_chk te119 xs ys w hx hy
    · cases h
  · simp only [T] at h
    unfold tkey at h
    split at h
    · cases h; exact keyOK_v tk84 te84
    · cases h; exact keyOK_v tk85 te85
    · cases h; exact keyOK_p tk90 te90
    · cases h; exact keyOK_p tk115 te115
    · cases h; exact keyOK_v tk118 te118
    · cases h; exact keyOK_v tk119 te119
    · cases h
end Go.Proofs.Ytnajladibkpeaaa
