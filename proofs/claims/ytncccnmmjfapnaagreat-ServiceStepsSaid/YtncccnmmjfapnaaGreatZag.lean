/-
 Texts of the walk, merged: Tt.
-/
import Derived.Test.YtncccnmmjfapnaaGreatZaf
import Derived.Test.YtncccnmmjfapnaaGreatProg
set_option linter.unusedVariables false
set_option linter.unusedSimpArgs false
set_option maxRecDepth 100000
set_option maxHeartbeats 4000000
namespace Go.Proofs.YtncccnmmjfapnaaGreat
open Go.Gx
abbrev ff:TI:=⟨1,8,[.f],.other⟩
def tab:List (TypeId × TI):=[
 (3,⟨1,8,[.i .i64],.int .i64⟩),
 (4,⟨1,1,[.b],.bool⟩),
 (5,⟨1,1,[.i .u8],.int .u8⟩),
 (9,⟨1,16,[.s],.other⟩),
 (23,⟨2,16,[.i .i64,.i .i64],.struct [(0,1,false),(1,1,false)]⟩),
 (24,⟨1,8,[.i .u64],.int .u64⟩),
 (26,⟨5,40,[.i .i64,.i .i64,.i .i64,.i .i64,.i .u64],.struct [(0,2,true),(2,1,false),(3,1,false),(4,1,false)]⟩),
 (27,⟨1,24,[.sl],.slice 116⟩),
 (28,⟨1,24,[.sl],.slice 147⟩),
 (29,⟨1,24,[.sl],.slice 150⟩),
 (31,⟨3,72,[.sl,.sl,.sl],.struct [(0,1,false),(1,1,false),(2,1,false)]⟩),
 (32,⟨1,24,[.sl],.slice 45⟩),
 (33,⟨1,24,[.sl],.slice 55⟩),
 (34,⟨1,24,[.sl],.slice 59⟩),
 (35,⟨1,24,[.sl],.slice 57⟩),
 (36,⟨1,24,[.sl],.slice 61⟩),
 (38,⟨4,96,[.sl,.sl,.sl,.sl],.struct [(0,1,false),(1,1,false),(2,1,false),(3,1,false)]⟩),
 (39,⟨1,24,[.sl],.slice 114⟩),
 (40,⟨1,24,[.sl],.slice 100⟩),
 (41,⟨1,24,[.sl],.slice 73⟩),
 (43,⟨17,312,[.i .i64,.i .i64,.i .i64,.i .i64,.i .u64,.i .i64,.sl,.sl,.sl,.sl,.sl,.sl,.sl,.sl,.sl,.sl,.sl],.struct [(0,5,true),(5,1,false),(6,3,true),(9,1,false),(10,4,true),(14,1,false),(15,1,false),(16,1,false)]⟩),
 (45,⟨2,16,[.i .u64,.i .u64],.struct [(0,1,false),(1,1,false)]⟩),
 (48,⟨1,8,[.i .i64],.int .i64⟩),
 (49,⟨1,24,[.sl],.slice 132⟩),
 (51,⟨3,40,[.i .i64,.i .i64,.sl],.struct [(0,1,false),(1,1,false),(2,1,false)]⟩),
 (55,⟨8,64,[.i .i64,.i .i64,.i .i64,.i .i64,.i .i64,.i .i64,.i .i64,.i .u8],.struct [(0,1,false),(1,1,false),(2,1,false),(3,1,false),(4,1,false),(5,1,false),(6,1,false),(7,1,false)]⟩),
 (57,⟨4,32,[.i .i64,.i .i64,.i .i64,.i .i64],.struct [(0,1,false),(1,1,false),(2,1,false),(3,1,false)]⟩),
 (59,⟨3,24,[.i .i64,.i .i64,.i .i64],.struct [(0,1,false),(1,1,false),(2,1,false)]⟩),
 (61,⟨5,40,[.i .i64,.i .i64,.i .i64,.i .i64,.i .i64],.struct [(0,1,false),(1,1,false),(2,1,false),(3,1,false),(4,1,false)]⟩),
 (62,⟨1,24,[.sl],.slice 3⟩),
 (64,⟨6,64,[.i .i64,.i .i64,.i .i64,.i .i64,.i .i64,.sl],.struct [(0,1,false),(1,1,false),(2,1,false),(3,1,false),(4,1,false),(5,1,false)]⟩),
 (66,⟨34,288,[.i .u8,.i .i64,.i .i64,.i .i64,.b,.i .u64,.i .u64,.i .u64,.i .i64,.i .i64,.i .i64,.i .i64,.i .i64,.i .i64,.i .i64,.i .u8,.i .i64,.i .i64,.i .i64,.i .i64,.i .i64,.i .i64,.i .i64,.i .i64,.i .i64,.i .i64,.i .i64,.i .i64,.i .i64,.i .i64,.i .i64,.i .i64,.i .i64,.sl],.struct [(0,1,false),(1,1,false),(2,1,false),(3,1,false),(4,1,false),(5,2,true),(7,1,false),(8,8,true),(16,4,true),(20,3,true),(23,5,true),(28,6,true)]⟩),
 (73,⟨7,56,[.i .i64,.i .i64,.i .i64,.i .u64,.i .u64,.i .u64,.i .u64],.struct [(0,1,false),(1,1,false),(2,1,false),(3,1,false),(4,1,false),(5,1,false),(6,1,false)]⟩),
 (75,⟨6,48,[.i .u8,.i .i64,.i .i64,.i .i64,.i .i64,.i .i64],.struct [(0,1,false),(1,1,false),(2,1,false),(3,1,false),(4,1,false),(5,1,false)]⟩),
 (100,⟨4,32,[.i .i64,.i .i64,.i .u64,.i .u64],.struct [(0,1,false),(1,1,false),(2,1,false),(3,1,false)]⟩),
 (114,⟨3,24,[.i .i64,.i .i64,.b],.struct [(0,1,false),(1,1,false),(2,1,false)]⟩),
 (116,⟨2,16,[.i .i64,.b],.struct [(0,1,false),(1,1,false)]⟩),
 (124,⟨1,24,[.sl],.slice 126⟩),
 (126,⟨3,24,[.i .i64,.i .u64,.i .u64],.struct [(0,1,false),(1,2,true)]⟩),
 (128,⟨4,32,[.i .i64,.b,.i .i64,.i .i64],.struct [(0,1,false),(1,1,false),(2,1,false),(3,1,false)]⟩),
 (132,⟨5,40,[.i .i64,.i .i64,.b,.i .i64,.i .i64],.struct [(0,1,false),(1,4,true)]⟩),
 (133,⟨1,24,[.sl],.slice 220⟩),
 (134,⟨8,192,[.sl,.sl,.sl,.sl,.sl,.sl,.sl,.sl],.array 8 1 false⟩),
 (136,⟨9,216,[.sl,.sl,.sl,.sl,.sl,.sl,.sl,.sl,.sl],.struct [(0,1,false),(1,8,true)]⟩),
 (140,⟨2,32,[.sl,.i .i64],.struct [(0,1,false),(1,1,false)]⟩),
 (145,⟨1,24,[.sl],.slice 24⟩),
 (147,⟨3,24,[.i .i64,.i .i64,.b],.struct [(0,1,false),(1,1,false),(2,1,false)]⟩),
 (148,⟨1,24,[.sl],.slice 253⟩),
 (150,⟨3,40,[.i .i64,.i .i64,.sl],.struct [(0,1,false),(1,1,false),(2,1,false)]⟩),
 (166,⟨1,8,[.p],.other⟩),
 (168,⟨17,312,[.i .i64,.i .i64,.i .i64,.i .i64,.i .u64,.i .i64,.sl,.sl,.sl,.sl,.sl,.sl,.sl,.sl,.sl,.sl,.sl],.struct [(0,17,true)]⟩),
 (170,⟨1,8,[.p],.other⟩),
 (173,⟨1,8,[.m],.map 3 3⟩),
 (175,⟨4,80,[.sl,.sl,.sl,.m],.struct [(0,3,true),(3,1,false)]⟩),
 (179,⟨3,24,[.i .i64,.i .i64,.i .i64],.struct [(0,1,false),(1,1,false),(2,1,false)]⟩),
 (181,⟨6,48,[.i .i64,.i .i64,.i .i64,.i .i64,.i .i64,.i .i64],.array 6 1 false⟩),
 (183,⟨2,16,[.i .i64,.i .i64],.struct [(0,1,false),(1,1,false)]⟩),
 (184,⟨12,96,[.i .i64,.i .i64,.i .i64,.i .i64,.i .i64,.i .i64,.i .i64,.i .i64,.i .i64,.i .i64,.i .i64,.i .i64],.array 6 2 true⟩),
 (197,⟨3,24,[.i .i64,.i .i64,.i .i64],.array 3 1 false⟩),
 (220,⟨3,32,[.i .u8,.i .u8,.sl],.struct [(0,1,false),(1,1,false),(2,1,false)]⟩),
 (222,⟨2,2,[.i .u8,.i .u8],.struct [(0,1,false),(1,1,false)]⟩),
 (225,⟨1,8,[.m],.map 3 4⟩),
 (237,ff),
 (239,ff),
 (241,ff),
 (253,⟨2,16,[.i .i64,.b],.struct [(0,1,false),(1,1,false)]⟩),
 (265,⟨15,120,[.f,.f,.f,.f,.f,.f,.f,.f,.f,.f,.f,.f,.f,.f,.f],.array 15 1 false⟩),
 (280,⟨1,24,[.sl],.slice 48⟩),
 (282,ff),
 (284,ff),
 (286,ff),
 (288,ff),
 (297,⟨2,16,[.i .i64,.i .i64],.array 2 1 false⟩),
 (298,ff),
 (317,⟨1,8,[.i .u64],.int .u64⟩),
 (332,ff),
 (344,⟨5,40,[.i .i64,.i .i64,.i .u64,.i .u64,.i .u64],.struct [(0,4,true),(4,1,false)]⟩),
 (349,ff),
 (355,⟨1,8,[.i .u64],.int .u64⟩),
 (394,ff),
 (395,⟨4,32,[.f,.f,.f,.f],.array 4 1 false⟩),
 (435,⟨1,2,[.i .u16],.int .u16⟩),
 (438,⟨1,24,[.sl],.slice 4⟩)]
def eH (t:TypeId):Option TI:=tab.lookup t
def teq:TypeId->Option (List CK)
 | 26=>some [.int .i64,.int .i64,.int .i64,.int .i64,.int .u64]
 | 45=>some [.int .u64,.int .u64]
 | 55=>some [.int .i64,.int .i64,.int .i64,.int .i64,.int .i64,.int .i64,.int .i64,.int .u8]
 | 57=>some [.int .i64,.int .i64,.int .i64,.int .i64]
 | 59=>some [.int .i64,.int .i64,.int .i64]
 | 61=>some [.int .i64,.int .i64,.int .i64,.int .i64,.int .i64]
 | 73=>some [.int .i64,.int .i64,.int .i64,.int .u64,.int .u64,.int .u64,.int .u64]
 | 100=>some [.int .i64,.int .i64,.int .u64,.int .u64]
 | 114=>some [.int .i64,.int .i64,.bool]
 | 116=>some [.int .i64,.bool]
 | 126=>some [.int .i64,.int .u64,.int .u64]
 | 132=>some [.int .i64,.int .i64,.bool,.int .i64,.int .i64]
 | 147=>some [.int .i64,.int .i64,.bool]
 | 197=>some [.int .i64,.int .i64,.int .i64]
 | 222=>some [.int .u8,.int .u8]
 | 253=>some [.int .i64,.bool]
 | 297=>some [.int .i64,.int .i64]
 | _=>none
theorem bBy:tab.all (λp=>dQ Tryz.prog p.1 p.2)=true:=κ
@[go_sem]theorem ti3:eH 3=some ⟨1,8,[.i .i64],.int .i64⟩:=κ
@[go_sem]theorem ti4:eH 4=some ⟨1,1,[.b],.bool⟩:=κ
@[go_sem]theorem ti5:eH 5=some ⟨1,1,[.i .u8],.int .u8⟩:=κ
@[go_sem]theorem ti9:eH 9=some ⟨1,16,[.s],.other⟩:=κ
@[go_sem]theorem bL0:eH 23=some ⟨2,16,[.i .i64,.i .i64],.struct [(0,1,false),(1,1,false)]⟩:=κ
@[go_sem]theorem bJs:eH 24=some ⟨1,8,[.i .u64],.int .u64⟩:=κ
@[go_sem]theorem bL1:eH 26=some ⟨5,40,[.i .i64,.i .i64,.i .i64,.i .i64,.i .u64],.struct [(0,2,true),(2,1,false),(3,1,false),(4,1,false)]⟩:=κ
@[go_sem]theorem bJt:eH 27=some ⟨1,24,[.sl],.slice 116⟩:=κ
@[go_sem]theorem bL2:eH 28=some ⟨1,24,[.sl],.slice 147⟩:=κ
@[go_sem]theorem bL3:eH 29=some ⟨1,24,[.sl],.slice 150⟩:=κ
@[go_sem]theorem bL4:eH 31=some ⟨3,72,[.sl,.sl,.sl],.struct [(0,1,false),(1,1,false),(2,1,false)]⟩:=κ
@[go_sem]theorem bJu:eH 32=some ⟨1,24,[.sl],.slice 45⟩:=κ
@[go_sem]theorem bL5:eH 33=some ⟨1,24,[.sl],.slice 55⟩:=κ
@[go_sem]theorem bL6:eH 34=some ⟨1,24,[.sl],.slice 59⟩:=κ
@[go_sem]theorem bL7:eH 35=some ⟨1,24,[.sl],.slice 57⟩:=κ
@[go_sem]theorem bJv:eH 36=some ⟨1,24,[.sl],.slice 61⟩:=κ
@[go_sem]theorem bL8:eH 38=some ⟨4,96,[.sl,.sl,.sl,.sl],.struct [(0,1,false),(1,1,false),(2,1,false),(3,1,false)]⟩:=κ
@[go_sem]theorem bJw:eH 39=some ⟨1,24,[.sl],.slice 114⟩:=κ
@[go_sem]theorem bJx:eH 40=some ⟨1,24,[.sl],.slice 100⟩:=κ
@[go_sem]theorem bJy:eH 41=some ⟨1,24,[.sl],.slice 73⟩:=κ
@[go_sem]theorem bL9:eH 43=some ⟨17,312,[.i .i64,.i .i64,.i .i64,.i .i64,.i .u64,.i .i64,.sl,.sl,.sl,.sl,.sl,.sl,.sl,.sl,.sl,.sl,.sl],.struct [(0,5,true),(5,1,false),(6,3,true),(9,1,false),(10,4,true),(14,1,false),(15,1,false),(16,1,false)]⟩:=κ
@[go_sem]theorem bGq:eH 45=some ⟨2,16,[.i .u64,.i .u64],.struct [(0,1,false),(1,1,false)]⟩:=κ
@[go_sem]theorem bMa:eH 48=some ⟨1,8,[.i .i64],.int .i64⟩:=κ
@[go_sem]theorem bMb:eH 49=some ⟨1,24,[.sl],.slice 132⟩:=κ
@[go_sem]theorem bMc:eH 51=some ⟨3,40,[.i .i64,.i .i64,.sl],.struct [(0,1,false),(1,1,false),(2,1,false)]⟩:=κ
@[go_sem]theorem bMd:eH 55=some ⟨8,64,[.i .i64,.i .i64,.i .i64,.i .i64,.i .i64,.i .i64,.i .i64,.i .u8],.struct [(0,1,false),(1,1,false),(2,1,false),(3,1,false),(4,1,false),(5,1,false),(6,1,false),(7,1,false)]⟩:=κ
@[go_sem]theorem bMe:eH 57=some ⟨4,32,[.i .i64,.i .i64,.i .i64,.i .i64],.struct [(0,1,false),(1,1,false),(2,1,false),(3,1,false)]⟩:=κ
@[go_sem]theorem bMf:eH 59=some ⟨3,24,[.i .i64,.i .i64,.i .i64],.struct [(0,1,false),(1,1,false),(2,1,false)]⟩:=κ
@[go_sem]theorem bGr:eH 61=some ⟨5,40,[.i .i64,.i .i64,.i .i64,.i .i64,.i .i64],.struct [(0,1,false),(1,1,false),(2,1,false),(3,1,false),(4,1,false)]⟩:=κ
@[go_sem]theorem bMg:eH 62=some ⟨1,24,[.sl],.slice 3⟩:=κ
@[go_sem]theorem bMh:eH 64=some ⟨6,64,[.i .i64,.i .i64,.i .i64,.i .i64,.i .i64,.sl],.struct [(0,1,false),(1,1,false),(2,1,false),(3,1,false),(4,1,false),(5,1,false)]⟩:=κ
@[go_sem]theorem bMi:eH 66=some ⟨34,288,[.i .u8,.i .i64,.i .i64,.i .i64,.b,.i .u64,.i .u64,.i .u64,.i .i64,.i .i64,.i .i64,.i .i64,.i .i64,.i .i64,.i .i64,.i .u8,.i .i64,.i .i64,.i .i64,.i .i64,.i .i64,.i .i64,.i .i64,.i .i64,.i .i64,.i .i64,.i .i64,.i .i64,.i .i64,.i .i64,.i .i64,.i .i64,.i .i64,.sl],.struct [(0,1,false),(1,1,false),(2,1,false),(3,1,false),(4,1,false),(5,2,true),(7,1,false),(8,8,true),(16,4,true),(20,3,true),(23,5,true),(28,6,true)]⟩:=κ
@[go_sem]theorem bGs:eH 73=some ⟨7,56,[.i .i64,.i .i64,.i .i64,.i .u64,.i .u64,.i .u64,.i .u64],.struct [(0,1,false),(1,1,false),(2,1,false),(3,1,false),(4,1,false),(5,1,false),(6,1,false)]⟩:=κ
@[go_sem]theorem bMj:eH 75=some ⟨6,48,[.i .u8,.i .i64,.i .i64,.i .i64,.i .i64,.i .i64],.struct [(0,1,false),(1,1,false),(2,1,false),(3,1,false),(4,1,false),(5,1,false)]⟩:=κ
@[go_sem]theorem aYz:eH 100=some ⟨4,32,[.i .i64,.i .i64,.i .u64,.i .u64],.struct [(0,1,false),(1,1,false),(2,1,false),(3,1,false)]⟩:=κ
@[go_sem]theorem aY0:eH 114=some ⟨3,24,[.i .i64,.i .i64,.b],.struct [(0,1,false),(1,1,false),(2,1,false)]⟩:=κ
@[go_sem]theorem aY1:eH 116=some ⟨2,16,[.i .i64,.b],.struct [(0,1,false),(1,1,false)]⟩:=κ
@[go_sem]theorem bKe:eH 124=some ⟨1,24,[.sl],.slice 126⟩:=κ
@[go_sem]theorem bKf:eH 126=some ⟨3,24,[.i .i64,.i .u64,.i .u64],.struct [(0,1,false),(1,2,true)]⟩:=κ
@[go_sem]theorem bKg:eH 128=some ⟨4,32,[.i .i64,.b,.i .i64,.i .i64],.struct [(0,1,false),(1,1,false),(2,1,false),(3,1,false)]⟩:=κ
@[go_sem]theorem bKh:eH 132=some ⟨5,40,[.i .i64,.i .i64,.b,.i .i64,.i .i64],.struct [(0,1,false),(1,4,true)]⟩:=κ
@[go_sem]theorem bKi:eH 133=some ⟨1,24,[.sl],.slice 220⟩:=κ
@[go_sem]theorem bKj:eH 134=some ⟨8,192,[.sl,.sl,.sl,.sl,.sl,.sl,.sl,.sl],.array 8 1 false⟩:=κ
@[go_sem]theorem bKk:eH 136=some ⟨9,216,[.sl,.sl,.sl,.sl,.sl,.sl,.sl,.sl,.sl],.struct [(0,1,false),(1,8,true)]⟩:=κ
@[go_sem]theorem bKl:eH 140=some ⟨2,32,[.sl,.i .i64],.struct [(0,1,false),(1,1,false)]⟩:=κ
@[go_sem]theorem bKm:eH 145=some ⟨1,24,[.sl],.slice 24⟩:=κ
@[go_sem]theorem bKn:eH 147=some ⟨3,24,[.i .i64,.i .i64,.b],.struct [(0,1,false),(1,1,false),(2,1,false)]⟩:=κ
@[go_sem]theorem bKo:eH 148=some ⟨1,24,[.sl],.slice 253⟩:=κ
@[go_sem]theorem bKp:eH 150=some ⟨3,40,[.i .i64,.i .i64,.sl],.struct [(0,1,false),(1,1,false),(2,1,false)]⟩:=κ
@[go_sem]theorem bKq:eH 166=some ⟨1,8,[.p],.other⟩:=κ
@[go_sem]theorem bKr:eH 168=some ⟨17,312,[.i .i64,.i .i64,.i .i64,.i .i64,.i .u64,.i .i64,.sl,.sl,.sl,.sl,.sl,.sl,.sl,.sl,.sl,.sl,.sl],.struct [(0,17,true)]⟩:=κ
@[go_sem]theorem bKs:eH 170=some ⟨1,8,[.p],.other⟩:=κ
@[go_sem]theorem bKt:eH 173=some ⟨1,8,[.m],.map 3 3⟩:=κ
@[go_sem]theorem bKu:eH 175=some ⟨4,80,[.sl,.sl,.sl,.m],.struct [(0,3,true),(3,1,false)]⟩:=κ
@[go_sem]theorem bKv:eH 179=some ⟨3,24,[.i .i64,.i .i64,.i .i64],.struct [(0,1,false),(1,1,false),(2,1,false)]⟩:=κ
@[go_sem]theorem bKw:eH 181=some ⟨6,48,[.i .i64,.i .i64,.i .i64,.i .i64,.i .i64,.i .i64],.array 6 1 false⟩:=κ
@[go_sem]theorem bKx:eH 183=some ⟨2,16,[.i .i64,.i .i64],.struct [(0,1,false),(1,1,false)]⟩:=κ
@[go_sem]theorem bKy:eH 184=some ⟨12,96,[.i .i64,.i .i64,.i .i64,.i .i64,.i .i64,.i .i64,.i .i64,.i .i64,.i .i64,.i .i64,.i .i64,.i .i64],.array 6 2 true⟩:=κ
@[go_sem]theorem bKz:eH 197=some ⟨3,24,[.i .i64,.i .i64,.i .i64],.array 3 1 false⟩:=κ
@[go_sem]theorem bK0:eH 220=some ⟨3,32,[.i .u8,.i .u8,.sl],.struct [(0,1,false),(1,1,false),(2,1,false)]⟩:=κ
@[go_sem]theorem bK1:eH 222=some ⟨2,2,[.i .u8,.i .u8],.struct [(0,1,false),(1,1,false)]⟩:=κ
@[go_sem]theorem bK2:eH 225=some ⟨1,8,[.m],.map 3 4⟩:=κ
@[go_sem]theorem bK3:eH 237=some ff:=κ
@[go_sem]theorem bK4:eH 239=some ff:=κ
@[go_sem]theorem bK5:eH 241=some ff:=κ
@[go_sem]theorem bK6:eH 253=some ⟨2,16,[.i .i64,.b],.struct [(0,1,false),(1,1,false)]⟩:=κ
@[go_sem]theorem bK7:eH 265=some ⟨15,120,[.f,.f,.f,.f,.f,.f,.f,.f,.f,.f,.f,.f,.f,.f,.f],.array 15 1 false⟩:=κ
@[go_sem]theorem bK8:eH 280=some ⟨1,24,[.sl],.slice 48⟩:=κ
@[go_sem]theorem bK9:eH 282=some ff:=κ
@[go_sem]theorem bLa:eH 284=some ff:=κ
@[go_sem]theorem bLb:eH 286=some ff:=κ
@[go_sem]theorem bLc:eH 288=some ff:=κ
@[go_sem]theorem bLd:eH 297=some ⟨2,16,[.i .i64,.i .i64],.array 2 1 false⟩:=κ
@[go_sem]theorem bLe:eH 298=some ff:=κ
@[go_sem]theorem bLf:eH 317=some ⟨1,8,[.i .u64],.int .u64⟩:=κ
@[go_sem]theorem bLg:eH 332=some ff:=κ
@[go_sem]theorem bLh:eH 344=some ⟨5,40,[.i .i64,.i .i64,.i .u64,.i .u64,.i .u64],.struct [(0,4,true),(4,1,false)]⟩:=κ
@[go_sem]theorem bLi:eH 349=some ff:=κ
@[go_sem]theorem bLj:eH 355=some ⟨1,8,[.i .u64],.int .u64⟩:=κ
@[go_sem]theorem bLk:eH 394=some ff:=κ
@[go_sem]theorem bLl:eH 395=some ⟨4,32,[.f,.f,.f,.f],.array 4 1 false⟩:=κ
@[go_sem]theorem bLm:eH 435=some ⟨1,2,[.i .u16],.int .u16⟩:=κ
@[go_sem]theorem bLn:eH 438=some ⟨1,24,[.sl],.slice 4⟩:=κ
theorem bJl:xQ Tryz.prog 26 [.int .i64,.int .i64,.int .i64,.int .i64,.int .u64] [2,1,1,1]=true:=κ
theorem bJm:kU Tryz.prog 45 [.int .u64,.int .u64]=true:=κ
theorem bJn:kU Tryz.prog 55 [.int .i64,.int .i64,.int .i64,.int .i64,.int .i64,.int .i64,.int .i64,.int .u8]=true:=κ
theorem bJo:kU Tryz.prog 57 [.int .i64,.int .i64,.int .i64,.int .i64]=true:=κ
theorem bJp:kU Tryz.prog 59 [.int .i64,.int .i64,.int .i64]=true:=κ
theorem bJq:kU Tryz.prog 61 [.int .i64,.int .i64,.int .i64,.int .i64,.int .i64]=true:=κ
theorem bJr:kU Tryz.prog 73 [.int .i64,.int .i64,.int .i64,.int .u64,.int .u64,.int .u64,.int .u64]=true:=κ
theorem bGe:kU Tryz.prog 100 [.int .i64,.int .i64,.int .u64,.int .u64]=true:=κ
theorem bGf:kU Tryz.prog 114 [.int .i64,.int .i64,.bool]=true:=κ
theorem bGg:kU Tryz.prog 116 [.int .i64,.bool]=true:=κ
theorem bGh:xQ Tryz.prog 126 [.int .i64,.int .u64,.int .u64] [1,2]=true:=κ
theorem bGi:xQ Tryz.prog 132 [.int .i64,.int .i64,.bool,.int .i64,.int .i64] [1,4]=true:=κ
theorem bGj:kU Tryz.prog 147 [.int .i64,.int .i64,.bool]=true:=κ
theorem bGk:aC9 Tryz.prog 197 [.int .i64,.int .i64,.int .i64]=true:=κ
theorem bGl:kU Tryz.prog 222 [.int .u8,.int .u8]=true:=κ
theorem bGm:kU Tryz.prog 253 [.int .i64,.bool]=true:=κ
theorem bGn:aC9 Tryz.prog 297 [.int .i64,.int .i64]=true:=κ
theorem qP {α:Type} {t:Nat} {i:α}:∀{l:List (Nat × α)},l.lookup t=some i->(t,i)∈l
 | [],h=>by cases h
 | (a,b)::l,h=>by
   simp only [List.lookup] at h;split at h
   ·rename_i e
    cases h
    have:t=a:=by simpa using e
    subst this;exact List.mem_cons_self
   ·exact List.mem_cons_of_mem _ (qP h)
def T:Tab:=⟨eH,teq⟩
@[go_sem]theorem bLq (t:TypeId):T.ti t=eH t:=rfl
@[go_sem]theorem bLp (t:TypeId):T.eq t=teq t:=rfl
attribute [go_sem] teq
theorem aD:aX Tryz.prog T:=by
 refine⟨λt i h=>List.all_eq_true.1 bBy (t,i) (qP h),λt cs h xs ys w hx hy=>?_⟩
 ·simp only [T] at h;unfold teq at h;split at h
  ·cases h;exact rH bJl xs ys w hx hy
  ·cases h;exact dT bJm xs ys w hx hy
  ·cases h;exact dT bJn xs ys w hx hy
  ·cases h;exact dT bJo xs ys w hx hy
  ·cases h;exact dT bJp xs ys w hx hy
  ·cases h;exact dT bJq xs ys w hx hy
  ·cases h;exact dT bJr xs ys w hx hy
  ·cases h;exact dT bGe xs ys w hx hy
  ·cases h;exact dT bGf xs ys w hx hy
  ·cases h;exact dT bGg xs ys w hx hy
  ·cases h;exact rH bGh xs ys w hx hy
  ·cases h;exact rH bGi xs ys w hx hy
  ·cases h;exact dT bGj xs ys w hx hy
  ·cases h;exact xS bGk xs ys w hx hy
  ·cases h;exact dT bGl xs ys w hx hy
  ·cases h;exact dT bGm xs ys w hx hy
  ·cases h;exact xS bGn xs ys w hx hy
  ·cases h
end Go.Proofs.YtncccnmmjfapnaaGreat
theorem Go.Gx.nb {n m:Nat} (h:Nat.ble n m=true):n<=m:=Nat.le_of_ble_eq_true h
section
open Go Go.Gx Go.RowKit Go.Proofs Go.Proofs.YtncccnmmjfapnaaGreat
theorem π {f:FuncId}{fn:Func}(hf:Tryz.prog.funcs[f]?=some fn){c:Code}{args:List SV}{φ:SV->Prop}{N:Nat}{rs:List ResultVar}(h:GC Tryz.prog T ⟨N,0,gG⟩ c [] (mQ T rs fun s M=>fU M s φ) (kT args) lH 0)(hb:fn.body=some c:=by exact rfl)(hn:(fn.name=="runtime.NumGoroutine")=false:=by kernel_rfl)(hlen:args.length<=fn.ntmps:=by exact nb rfl)(hN:fn.ntmps=N:=by exact rfl)(hrs:fn.results.toList=rs:=by exact rfl):Pure Tryz.prog f args φ:=aIt aD hf hb hn hlen hN hrs h
theorem γ {f:FuncId}{fn:Func}(hf:Tryz.prog.funcs[f]?=some fn){c:Code}{args:List SV}{Rs Rs':List Reg}{S:SV}{N:Nat}{rs:List ResultVar}(h:GC Tryz.prog T ⟨N,0,gG⟩ c [] (mQ T rs fun s M=>∃ρl,vQ M s ρl S Rs') (kT args) (bD Rs) Rs.length)(hb:fn.body=some c:=by exact rfl)(hn:(fn.name=="runtime.NumGoroutine")=false:=by kernel_rfl)(hlen:args.length<=fn.ntmps:=by exact nb rfl)(hN:fn.ntmps=N:=by exact rfl)(hrs:fn.results.toList=rs:=by exact rfl):Own Tryz.prog f Rs args S Rs':=aNg aD hf hb hn hlen hN hrs h
theorem χ {f:FuncId}{fn:Func}(hf:Tryz.prog.funcs[f]?=some fn){c:Code}{args:List SV}{Rs Rs':List Reg}{S:SV}{N:Nat}{rs:List ResultVar}(h:GC Tryz.prog T ⟨N,0,gG⟩ c [] (mQ T rs fun s M=>(∃ρl,vQ M s ρl S Rs')\/(s=.r (.v (.slice none 0 0))/\∃e k get,S=.sl 0 k 0 0 none/\Rs'=[.vec e k 0 get])) (kT args) (bD Rs) Rs.length)(hb:fn.body=some c:=by exact rfl)(hn:(fn.name=="runtime.NumGoroutine")=false:=by kernel_rfl)(hlen:args.length<=fn.ntmps:=by exact nb rfl)(hN:fn.ntmps=N:=by exact rfl)(hrs:fn.results.toList=rs:=by exact rfl):Own Tryz.prog f Rs args S Rs':=aIn aD hf hb hn hlen hN hrs h
end
