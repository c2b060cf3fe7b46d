/-
  Texts of the walk, merged: Tt.
-/
import Derived.Test.YtncccnmmjfapnaaGreatZaf
import Derived.Test.YtncccnmmjfapnaaGreatProg
set_option linter.unusedVariables false
set_option linter.unusedSimpArgs false
set_option maxRecDepth 100000
set_option maxHeartbeats 4000000
namespace Go.Proofs.YtncccnmmjfapnaaGreat
open Go.Gx
def tab:List (TypeId × TI):=[
 (1,⟨1,8,[.f],.other⟩),
 (2,⟨1,8,[.i .i64],.int .i64⟩),
 (3,⟨1,8,[.i .i64],.int .i64⟩),
 (4,⟨1,1,[.b],.bool⟩),
 (5,⟨1,1,[.i .u8],.int .u8⟩),
 (9,⟨1,16,[.s],.other⟩),
 (12,⟨1,8,[.i .u64],.int .u64⟩),
 (20,⟨1,16,[.ifc],.other⟩),
 (21,⟨1,4,[.i .i32],.int .i32⟩),
 (22,⟨2,16,[.i .i64,.i .i64],.struct [(0,1,false),(1,1,false)]⟩),
 (23,⟨2,16,[.i .i64,.i .i64],.struct [(0,1,false),(1,1,false)]⟩),
 (24,⟨1,8,[.i .u64],.int .u64⟩),
 (25,⟨5,40,[.i .i64,.i .i64,.i .i64,.i .i64,.i .u64],.struct [(0,2,true),(2,1,false),(3,1,false),(4,1,false)]⟩),
 (26,⟨5,40,[.i .i64,.i .i64,.i .i64,.i .i64,.i .u64],.struct [(0,2,true),(2,1,false),(3,1,false),(4,1,false)]⟩),
 (27,⟨1,24,[.sl],.slice 116⟩),
 (28,⟨1,24,[.sl],.slice 147⟩),
 (29,⟨1,24,[.sl],.slice 150⟩),
 (30,⟨3,72,[.sl,.sl,.sl],.struct [(0,1,false),(1,1,false),(2,1,false)]⟩),
 (31,⟨3,72,[.sl,.sl,.sl],.struct [(0,1,false),(1,1,false),(2,1,false)]⟩),
 (32,⟨1,24,[.sl],.slice 45⟩),
 (33,⟨1,24,[.sl],.slice 55⟩),
 (34,⟨1,24,[.sl],.slice 59⟩),
 (35,⟨1,24,[.sl],.slice 57⟩),
 (36,⟨1,24,[.sl],.slice 61⟩),
 (37,⟨4,96,[.sl,.sl,.sl,.sl],.struct [(0,1,false),(1,1,false),(2,1,false),(3,1,false)]⟩),
 (38,⟨4,96,[.sl,.sl,.sl,.sl],.struct [(0,1,false),(1,1,false),(2,1,false),(3,1,false)]⟩),
 (39,⟨1,24,[.sl],.slice 114⟩),
 (40,⟨1,24,[.sl],.slice 100⟩),
 (41,⟨1,24,[.sl],.slice 73⟩),
 (42,⟨17,312,[.i .i64,.i .i64,.i .i64,.i .i64,.i .u64,.i .i64,.sl,.sl,.sl,.sl,.sl,.sl,.sl,.sl,.sl,.sl,.sl],.struct [(0,5,true),(5,1,false),(6,3,true),(9,1,false),(10,4,true),(14,1,false),(15,1,false),(16,1,false)]⟩),
 (43,⟨17,312,[.i .i64,.i .i64,.i .i64,.i .i64,.i .u64,.i .i64,.sl,.sl,.sl,.sl,.sl,.sl,.sl,.sl,.sl,.sl,.sl],.struct [(0,5,true),(5,1,false),(6,3,true),(9,1,false),(10,4,true),(14,1,false),(15,1,false),(16,1,false)]⟩),
 (44,⟨2,16,[.i .u64,.i .u64],.struct [(0,1,false),(1,1,false)]⟩),
 (45,⟨2,16,[.i .u64,.i .u64],.struct [(0,1,false),(1,1,false)]⟩),
 (46,⟨1,8,[.f],.other⟩),
 (47,⟨1,8,[.f],.other⟩),
 (48,⟨1,8,[.i .i64],.int .i64⟩),
 (49,⟨1,24,[.sl],.slice 132⟩),
 (50,⟨3,40,[.i .i64,.i .i64,.sl],.struct [(0,1,false),(1,1,false),(2,1,false)]⟩),
 (51,⟨3,40,[.i .i64,.i .i64,.sl],.struct [(0,1,false),(1,1,false),(2,1,false)]⟩),
 (53,⟨1,8,[.f],.other⟩),
 (54,⟨8,64,[.i .i64,.i .i64,.i .i64,.i .i64,.i .i64,.i .i64,.i .i64,.i .u8],.struct [(0,1,false),(1,1,false),(2,1,false),(3,1,false),(4,1,false),(5,1,false),(6,1,false),(7,1,false)]⟩),
 (55,⟨8,64,[.i .i64,.i .i64,.i .i64,.i .i64,.i .i64,.i .i64,.i .i64,.i .u8],.struct [(0,1,false),(1,1,false),(2,1,false),(3,1,false),(4,1,false),(5,1,false),(6,1,false),(7,1,false)]⟩),
 (56,⟨4,32,[.i .i64,.i .i64,.i .i64,.i .i64],.struct [(0,1,false),(1,1,false),(2,1,false),(3,1,false)]⟩),
 (57,⟨4,32,[.i .i64,.i .i64,.i .i64,.i .i64],.struct [(0,1,false),(1,1,false),(2,1,false),(3,1,false)]⟩),
 (58,⟨3,24,[.i .i64,.i .i64,.i .i64],.struct [(0,1,false),(1,1,false),(2,1,false)]⟩),
 (59,⟨3,24,[.i .i64,.i .i64,.i .i64],.struct [(0,1,false),(1,1,false),(2,1,false)]⟩),
 (60,⟨5,40,[.i .i64,.i .i64,.i .i64,.i .i64,.i .i64],.struct [(0,1,false),(1,1,false),(2,1,false),(3,1,false),(4,1,false)]⟩),
 (61,⟨5,40,[.i .i64,.i .i64,.i .i64,.i .i64,.i .i64],.struct [(0,1,false),(1,1,false),(2,1,false),(3,1,false),(4,1,false)]⟩),
 (62,⟨1,24,[.sl],.slice 3⟩),
 (63,⟨6,64,[.i .i64,.i .i64,.i .i64,.i .i64,.i .i64,.sl],.struct [(0,1,false),(1,1,false),(2,1,false),(3,1,false),(4,1,false),(5,1,false)]⟩),
 (64,⟨6,64,[.i .i64,.i .i64,.i .i64,.i .i64,.i .i64,.sl],.struct [(0,1,false),(1,1,false),(2,1,false),(3,1,false),(4,1,false),(5,1,false)]⟩),
 (65,⟨34,288,[.i .u8,.i .i64,.i .i64,.i .i64,.b,.i .u64,.i .u64,.i .u64,.i .i64,.i .i64,.i .i64,.i .i64,.i .i64,.i .i64,.i .i64,.i .u8,.i .i64,.i .i64,.i .i64,.i .i64,.i .i64,.i .i64,.i .i64,.i .i64,.i .i64,.i .i64,.i .i64,.i .i64,.i .i64,.i .i64,.i .i64,.i .i64,.i .i64,.sl],.struct [(0,1,false),(1,1,false),(2,1,false),(3,1,false),(4,1,false),(5,2,true),(7,1,false),(8,8,true),(16,4,true),(20,3,true),(23,5,true),(28,6,true)]⟩),
 (66,⟨34,288,[.i .u8,.i .i64,.i .i64,.i .i64,.b,.i .u64,.i .u64,.i .u64,.i .i64,.i .i64,.i .i64,.i .i64,.i .i64,.i .i64,.i .i64,.i .u8,.i .i64,.i .i64,.i .i64,.i .i64,.i .i64,.i .i64,.i .i64,.i .i64,.i .i64,.i .i64,.i .i64,.i .i64,.i .i64,.i .i64,.i .i64,.i .i64,.i .i64,.sl],.struct [(0,1,false),(1,1,false),(2,1,false),(3,1,false),(4,1,false),(5,2,true),(7,1,false),(8,8,true),(16,4,true),(20,3,true),(23,5,true),(28,6,true)]⟩),
 (68,⟨1,8,[.f],.other⟩),
 (69,⟨1,8,[.f],.other⟩),
 (71,⟨1,8,[.f],.other⟩),
 (72,⟨7,56,[.i .i64,.i .i64,.i .i64,.i .u64,.i .u64,.i .u64,.i .u64],.struct [(0,1,false),(1,1,false),(2,1,false),(3,1,false),(4,1,false),(5,1,false),(6,1,false)]⟩),
 (73,⟨7,56,[.i .i64,.i .i64,.i .i64,.i .u64,.i .u64,.i .u64,.i .u64],.struct [(0,1,false),(1,1,false),(2,1,false),(3,1,false),(4,1,false),(5,1,false),(6,1,false)]⟩),
 (74,⟨6,48,[.i .u8,.i .i64,.i .i64,.i .i64,.i .i64,.i .i64],.struct [(0,1,false),(1,1,false),(2,1,false),(3,1,false),(4,1,false),(5,1,false)]⟩),
 (75,⟨6,48,[.i .u8,.i .i64,.i .i64,.i .i64,.i .i64,.i .i64],.struct [(0,1,false),(1,1,false),(2,1,false),(3,1,false),(4,1,false),(5,1,false)]⟩),
 (77,⟨1,8,[.f],.other⟩),
 (78,⟨1,8,[.f],.other⟩),
 (79,⟨1,8,[.f],.other⟩),
 (80,⟨1,8,[.f],.other⟩),
 (82,⟨1,8,[.f],.other⟩),
 (84,⟨1,8,[.f],.other⟩),
 (85,⟨1,8,[.f],.other⟩),
 (86,⟨1,8,[.f],.other⟩),
 (87,⟨1,8,[.f],.other⟩),
 (88,⟨1,8,[.f],.other⟩),
 (89,⟨1,8,[.f],.other⟩),
 (90,⟨1,8,[.f],.other⟩),
 (91,⟨1,8,[.f],.other⟩),
 (92,⟨1,8,[.f],.other⟩),
 (93,⟨1,8,[.f],.other⟩),
 (94,⟨1,24,[.sl],.slice 66⟩),
 (95,⟨1,8,[.f],.other⟩),
 (96,⟨1,24,[.sl],.slice 51⟩),
 (98,⟨1,8,[.f],.other⟩),
 (99,⟨4,32,[.i .i64,.i .i64,.i .u64,.i .u64],.struct [(0,1,false),(1,1,false),(2,1,false),(3,1,false)]⟩),
 (100,⟨4,32,[.i .i64,.i .i64,.i .u64,.i .u64],.struct [(0,1,false),(1,1,false),(2,1,false),(3,1,false)]⟩),
 (102,⟨1,8,[.f],.other⟩),
 (104,⟨1,8,[.f],.other⟩),
 (105,⟨1,8,[.f],.other⟩),
 (107,⟨1,8,[.f],.other⟩),
 (108,⟨1,8,[.f],.other⟩),
 (109,⟨1,8,[.f],.other⟩),
 (111,⟨1,8,[.f],.other⟩),
 (112,⟨1,8,[.f],.other⟩),
 (113,⟨3,24,[.i .i64,.i .i64,.b],.struct [(0,1,false),(1,1,false),(2,1,false)]⟩),
 (114,⟨3,24,[.i .i64,.i .i64,.b],.struct [(0,1,false),(1,1,false),(2,1,false)]⟩),
 (115,⟨2,16,[.i .i64,.b],.struct [(0,1,false),(1,1,false)]⟩),
 (116,⟨2,16,[.i .i64,.b],.struct [(0,1,false),(1,1,false)]⟩),
 (117,⟨1,8,[.f],.other⟩),
 (118,⟨1,8,[.f],.other⟩),
 (119,⟨1,8,[.f],.other⟩),
 (120,⟨1,8,[.f],.other⟩),
 (122,⟨1,8,[.f],.other⟩),
 (123,⟨1,8,[.f],.other⟩),
 (124,⟨1,24,[.sl],.slice 126⟩),
 (125,⟨3,24,[.i .i64,.i .u64,.i .u64],.struct [(0,1,false),(1,2,true)]⟩),
 (126,⟨3,24,[.i .i64,.i .u64,.i .u64],.struct [(0,1,false),(1,2,true)]⟩),
 (127,⟨4,32,[.i .i64,.b,.i .i64,.i .i64],.struct [(0,1,false),(1,1,false),(2,1,false),(3,1,false)]⟩),
 (128,⟨4,32,[.i .i64,.b,.i .i64,.i .i64],.struct [(0,1,false),(1,1,false),(2,1,false),(3,1,false)]⟩),
 (130,⟨1,8,[.f],.other⟩),
 (131,⟨5,40,[.i .i64,.i .i64,.b,.i .i64,.i .i64],.struct [(0,1,false),(1,4,true)]⟩),
 (132,⟨5,40,[.i .i64,.i .i64,.b,.i .i64,.i .i64],.struct [(0,1,false),(1,4,true)]⟩),
 (133,⟨1,24,[.sl],.slice 220⟩),
 (134,⟨8,192,[.sl,.sl,.sl,.sl,.sl,.sl,.sl,.sl],.array 8 1 false⟩),
 (135,⟨9,216,[.sl,.sl,.sl,.sl,.sl,.sl,.sl,.sl,.sl],.struct [(0,1,false),(1,8,true)]⟩),
 (136,⟨9,216,[.sl,.sl,.sl,.sl,.sl,.sl,.sl,.sl,.sl],.struct [(0,1,false),(1,8,true)]⟩),
 (138,⟨1,8,[.f],.other⟩),
 (139,⟨2,32,[.sl,.i .i64],.struct [(0,1,false),(1,1,false)]⟩),
 (140,⟨2,32,[.sl,.i .i64],.struct [(0,1,false),(1,1,false)]⟩),
 (142,⟨1,8,[.f],.other⟩),
 (143,⟨1,8,[.f],.other⟩),
 (144,⟨1,8,[.f],.other⟩),
 (145,⟨1,24,[.sl],.slice 24⟩),
 (146,⟨3,24,[.i .i64,.i .i64,.b],.struct [(0,1,false),(1,1,false),(2,1,false)]⟩),
 (147,⟨3,24,[.i .i64,.i .i64,.b],.struct [(0,1,false),(1,1,false),(2,1,false)]⟩),
 (148,⟨1,24,[.sl],.slice 253⟩),
 (149,⟨3,40,[.i .i64,.i .i64,.sl],.struct [(0,1,false),(1,1,false),(2,1,false)]⟩),
 (150,⟨3,40,[.i .i64,.i .i64,.sl],.struct [(0,1,false),(1,1,false),(2,1,false)]⟩),
 (152,⟨1,8,[.f],.other⟩),
 (153,⟨1,8,[.f],.other⟩),
 (154,⟨1,8,[.f],.other⟩),
 (155,⟨1,8,[.f],.other⟩),
 (157,⟨1,8,[.f],.other⟩),
 (159,⟨1,8,[.f],.other⟩),
 (160,⟨1,8,[.f],.other⟩),
 (161,⟨1,8,[.f],.other⟩),
 (162,⟨1,8,[.f],.other⟩),
 (163,⟨1,8,[.f],.other⟩),
 (164,⟨1,8,[.f],.other⟩),
 (165,⟨1,8,[.f],.other⟩),
 (166,⟨1,8,[.p],.other⟩),
 (167,⟨17,312,[.i .i64,.i .i64,.i .i64,.i .i64,.i .u64,.i .i64,.sl,.sl,.sl,.sl,.sl,.sl,.sl,.sl,.sl,.sl,.sl],.struct [(0,17,true)]⟩),
 (168,⟨17,312,[.i .i64,.i .i64,.i .i64,.i .i64,.i .u64,.i .i64,.sl,.sl,.sl,.sl,.sl,.sl,.sl,.sl,.sl,.sl,.sl],.struct [(0,17,true)]⟩),
 (169,⟨1,8,[.f],.other⟩),
 (170,⟨1,8,[.p],.other⟩),
 (172,⟨1,8,[.f],.other⟩),
 (173,⟨1,8,[.m],.map 3 3⟩),
 (174,⟨4,80,[.sl,.sl,.sl,.m],.struct [(0,3,true),(3,1,false)]⟩),
 (175,⟨4,80,[.sl,.sl,.sl,.m],.struct [(0,3,true),(3,1,false)]⟩),
 (176,⟨1,8,[.f],.other⟩),
 (177,⟨1,8,[.f],.other⟩),
 (178,⟨3,24,[.i .i64,.i .i64,.i .i64],.struct [(0,1,false),(1,1,false),(2,1,false)]⟩),
 (179,⟨3,24,[.i .i64,.i .i64,.i .i64],.struct [(0,1,false),(1,1,false),(2,1,false)]⟩),
 (180,⟨1,8,[.f],.other⟩),
 (181,⟨6,48,[.i .i64,.i .i64,.i .i64,.i .i64,.i .i64,.i .i64],.array 6 1 false⟩),
 (182,⟨2,16,[.i .i64,.i .i64],.struct [(0,1,false),(1,1,false)]⟩),
 (183,⟨2,16,[.i .i64,.i .i64],.struct [(0,1,false),(1,1,false)]⟩),
 (184,⟨12,96,[.i .i64,.i .i64,.i .i64,.i .i64,.i .i64,.i .i64,.i .i64,.i .i64,.i .i64,.i .i64,.i .i64,.i .i64],.array 6 2 true⟩),
 (185,⟨1,8,[.f],.other⟩),
 (186,⟨1,8,[.f],.other⟩),
 (187,⟨1,8,[.f],.other⟩),
 (188,⟨1,8,[.f],.other⟩),
 (189,⟨1,8,[.f],.other⟩),
 (190,⟨1,8,[.f],.other⟩),
 (191,⟨1,8,[.f],.other⟩),
 (192,⟨1,8,[.f],.other⟩),
 (193,⟨1,8,[.f],.other⟩),
 (194,⟨1,8,[.f],.other⟩),
 (195,⟨1,8,[.f],.other⟩),
 (196,⟨1,8,[.f],.other⟩),
 (197,⟨3,24,[.i .i64,.i .i64,.i .i64],.array 3 1 false⟩),
 (198,⟨1,8,[.f],.other⟩),
 (199,⟨1,8,[.f],.other⟩),
 (200,⟨1,8,[.f],.other⟩),
 (201,⟨1,8,[.f],.other⟩),
 (202,⟨1,8,[.f],.other⟩),
 (203,⟨1,8,[.f],.other⟩),
 (204,⟨1,8,[.f],.other⟩),
 (205,⟨1,8,[.f],.other⟩),
 (206,⟨1,8,[.f],.other⟩),
 (207,⟨1,8,[.f],.other⟩),
 (208,⟨1,8,[.f],.other⟩),
 (209,⟨1,8,[.f],.other⟩),
 (211,⟨1,8,[.f],.other⟩),
 (212,⟨1,8,[.f],.other⟩),
 (213,⟨1,8,[.f],.other⟩),
 (214,⟨1,8,[.f],.other⟩),
 (215,⟨1,8,[.f],.other⟩),
 (216,⟨1,8,[.f],.other⟩),
 (217,⟨1,8,[.f],.other⟩),
 (218,⟨1,8,[.f],.other⟩),
 (219,⟨3,32,[.i .u8,.i .u8,.sl],.struct [(0,1,false),(1,1,false),(2,1,false)]⟩),
 (220,⟨3,32,[.i .u8,.i .u8,.sl],.struct [(0,1,false),(1,1,false),(2,1,false)]⟩),
 (221,⟨2,2,[.i .u8,.i .u8],.struct [(0,1,false),(1,1,false)]⟩),
 (222,⟨2,2,[.i .u8,.i .u8],.struct [(0,1,false),(1,1,false)]⟩),
 (223,⟨1,8,[.f],.other⟩),
 (224,⟨1,8,[.f],.other⟩),
 (225,⟨1,8,[.m],.map 3 4⟩),
 (227,⟨1,8,[.f],.other⟩),
 (228,⟨1,8,[.f],.other⟩),
 (229,⟨1,8,[.f],.other⟩),
 (231,⟨1,8,[.f],.other⟩),
 (232,⟨1,8,[.f],.other⟩),
 (233,⟨1,8,[.f],.other⟩),
 (234,⟨1,8,[.f],.other⟩),
 (235,⟨1,8,[.f],.other⟩),
 (236,⟨1,8,[.f],.other⟩),
 (237,⟨1,8,[.f],.other⟩),
 (238,⟨1,8,[.f],.other⟩),
 (239,⟨1,8,[.f],.other⟩),
 (240,⟨1,8,[.f],.other⟩),
 (241,⟨1,8,[.f],.other⟩),
 (242,⟨1,8,[.f],.other⟩),
 (243,⟨1,8,[.f],.other⟩),
 (244,⟨1,8,[.f],.other⟩),
 (245,⟨1,8,[.p],.other⟩),
 (246,⟨1,8,[.f],.other⟩),
 (247,⟨1,8,[.f],.other⟩),
 (248,⟨1,8,[.f],.other⟩),
 (249,⟨1,8,[.f],.other⟩),
 (250,⟨1,8,[.f],.other⟩),
 (251,⟨1,8,[.f],.other⟩),
 (252,⟨2,16,[.i .i64,.b],.struct [(0,1,false),(1,1,false)]⟩),
 (253,⟨2,16,[.i .i64,.b],.struct [(0,1,false),(1,1,false)]⟩),
 (254,⟨1,8,[.f],.other⟩),
 (255,⟨1,8,[.f],.other⟩),
 (256,⟨1,8,[.f],.other⟩),
 (257,⟨1,8,[.f],.other⟩),
 (258,⟨1,8,[.f],.other⟩),
 (259,⟨1,8,[.f],.other⟩),
 (260,⟨1,8,[.f],.other⟩),
 (261,⟨1,8,[.f],.other⟩),
 (263,⟨1,8,[.f],.other⟩),
 (264,⟨1,8,[.f],.other⟩),
 (265,⟨15,120,[.f,.f,.f,.f,.f,.f,.f,.f,.f,.f,.f,.f,.f,.f,.f],.array 15 1 false⟩),
 (266,⟨1,8,[.f],.other⟩),
 (267,⟨1,8,[.f],.other⟩),
 (268,⟨1,8,[.f],.other⟩),
 (269,⟨1,8,[.f],.other⟩),
 (270,⟨1,8,[.f],.other⟩),
 (271,⟨1,8,[.f],.other⟩),
 (273,⟨1,8,[.f],.other⟩),
 (274,⟨1,8,[.f],.other⟩),
 (275,⟨1,8,[.f],.other⟩),
 (276,⟨1,8,[.f],.other⟩),
 (277,⟨1,8,[.f],.other⟩),
 (278,⟨1,8,[.f],.other⟩),
 (279,⟨1,8,[.f],.other⟩),
 (280,⟨1,24,[.sl],.slice 48⟩),
 (281,⟨1,8,[.f],.other⟩),
 (282,⟨1,8,[.f],.other⟩),
 (283,⟨1,8,[.f],.other⟩),
 (284,⟨1,8,[.f],.other⟩),
 (285,⟨1,8,[.f],.other⟩),
 (286,⟨1,8,[.f],.other⟩),
 (287,⟨1,8,[.f],.other⟩),
 (288,⟨1,8,[.f],.other⟩),
 (289,⟨1,8,[.f],.other⟩),
 (290,⟨1,8,[.f],.other⟩),
 (291,⟨1,8,[.f],.other⟩),
 (292,⟨1,8,[.f],.other⟩),
 (293,⟨1,8,[.f],.other⟩),
 (294,⟨1,8,[.f],.other⟩),
 (295,⟨1,8,[.f],.other⟩),
 (296,⟨2,16,[.i .i64,.i .i64],.array 2 1 false⟩),
 (297,⟨2,16,[.i .i64,.i .i64],.array 2 1 false⟩),
 (298,⟨1,8,[.f],.other⟩),
 (299,⟨1,8,[.f],.other⟩),
 (300,⟨1,8,[.f],.other⟩),
 (301,⟨1,8,[.f],.other⟩),
 (302,⟨1,8,[.f],.other⟩),
 (303,⟨1,8,[.f],.other⟩),
 (304,⟨1,8,[.f],.other⟩),
 (305,⟨1,8,[.f],.other⟩),
 (306,⟨1,8,[.f],.other⟩),
 (307,⟨1,8,[.f],.other⟩),
 (308,⟨1,8,[.f],.other⟩),
 (309,⟨1,8,[.f],.other⟩),
 (310,⟨1,8,[.f],.other⟩),
 (311,⟨1,8,[.f],.other⟩),
 (312,⟨1,8,[.f],.other⟩),
 (313,⟨1,8,[.f],.other⟩),
 (314,⟨1,8,[.f],.other⟩),
 (315,⟨1,8,[.f],.other⟩),
 (316,⟨1,8,[.f],.other⟩),
 (317,⟨1,8,[.i .u64],.int .u64⟩),
 (318,⟨1,8,[.f],.other⟩),
 (319,⟨1,8,[.f],.other⟩),
 (320,⟨1,8,[.f],.other⟩),
 (321,⟨1,8,[.f],.other⟩),
 (322,⟨1,8,[.f],.other⟩),
 (323,⟨1,8,[.f],.other⟩),
 (324,⟨1,8,[.f],.other⟩),
 (325,⟨1,8,[.f],.other⟩),
 (326,⟨1,8,[.f],.other⟩),
 (327,⟨1,8,[.f],.other⟩),
 (328,⟨1,8,[.f],.other⟩),
 (329,⟨1,8,[.f],.other⟩),
 (330,⟨1,8,[.f],.other⟩),
 (331,⟨1,8,[.f],.other⟩),
 (332,⟨1,8,[.f],.other⟩),
 (333,⟨1,8,[.f],.other⟩),
 (334,⟨1,8,[.f],.other⟩),
 (335,⟨1,8,[.f],.other⟩),
 (336,⟨1,8,[.f],.other⟩),
 (337,⟨1,8,[.f],.other⟩),
 (338,⟨1,8,[.f],.other⟩),
 (339,⟨1,8,[.f],.other⟩),
 (340,⟨1,8,[.f],.other⟩),
 (341,⟨1,8,[.f],.other⟩),
 (342,⟨1,8,[.p],.other⟩),
 (343,⟨5,40,[.i .i64,.i .i64,.i .u64,.i .u64,.i .u64],.struct [(0,4,true),(4,1,false)]⟩),
 (344,⟨5,40,[.i .i64,.i .i64,.i .u64,.i .u64,.i .u64],.struct [(0,4,true),(4,1,false)]⟩),
 (345,⟨1,8,[.f],.other⟩),
 (346,⟨1,8,[.f],.other⟩),
 (347,⟨1,8,[.f],.other⟩),
 (348,⟨1,8,[.f],.other⟩),
 (349,⟨1,8,[.f],.other⟩),
 (350,⟨1,8,[.f],.other⟩),
 (351,⟨1,8,[.f],.other⟩),
 (352,⟨1,8,[.f],.other⟩),
 (353,⟨1,8,[.f],.other⟩),
 (354,⟨1,8,[.f],.other⟩),
 (355,⟨1,8,[.i .u64],.int .u64⟩),
 (356,⟨1,8,[.f],.other⟩),
 (357,⟨1,8,[.f],.other⟩),
 (358,⟨1,8,[.f],.other⟩),
 (359,⟨1,8,[.f],.other⟩),
 (360,⟨1,8,[.f],.other⟩),
 (361,⟨1,8,[.f],.other⟩),
 (362,⟨1,8,[.f],.other⟩),
 (363,⟨1,8,[.f],.other⟩),
 (365,⟨1,8,[.f],.other⟩),
 (367,⟨1,8,[.f],.other⟩),
 (369,⟨1,8,[.f],.other⟩),
 (370,⟨1,8,[.f],.other⟩),
 (371,⟨1,8,[.f],.other⟩),
 (373,⟨1,8,[.f],.other⟩),
 (374,⟨1,8,[.f],.other⟩),
 (376,⟨1,8,[.f],.other⟩),
 (377,⟨1,8,[.f],.other⟩),
 (378,⟨1,8,[.f],.other⟩),
 (380,⟨1,8,[.f],.other⟩),
 (381,⟨1,8,[.f],.other⟩),
 (382,⟨1,8,[.f],.other⟩),
 (384,⟨1,8,[.f],.other⟩),
 (385,⟨1,8,[.f],.other⟩),
 (387,⟨1,8,[.f],.other⟩),
 (389,⟨1,8,[.f],.other⟩),
 (391,⟨1,8,[.f],.other⟩),
 (392,⟨1,8,[.f],.other⟩),
 (393,⟨1,8,[.f],.other⟩),
 (394,⟨1,8,[.f],.other⟩),
 (395,⟨4,32,[.f,.f,.f,.f],.array 4 1 false⟩),
 (396,⟨1,8,[.f],.other⟩),
 (397,⟨1,8,[.f],.other⟩),
 (398,⟨1,8,[.f],.other⟩),
 (399,⟨1,8,[.f],.other⟩),
 (400,⟨1,8,[.f],.other⟩),
 (401,⟨1,8,[.f],.other⟩),
 (402,⟨1,8,[.f],.other⟩),
 (403,⟨1,8,[.f],.other⟩),
 (405,⟨1,8,[.f],.other⟩),
 (407,⟨1,8,[.f],.other⟩),
 (409,⟨1,8,[.f],.other⟩),
 (410,⟨1,8,[.f],.other⟩),
 (412,⟨1,8,[.f],.other⟩),
 (413,⟨1,8,[.f],.other⟩),
 (414,⟨1,8,[.f],.other⟩),
 (416,⟨1,8,[.f],.other⟩),
 (417,⟨1,8,[.f],.other⟩),
 (419,⟨1,8,[.f],.other⟩),
 (420,⟨1,8,[.f],.other⟩),
 (421,⟨1,8,[.f],.other⟩),
 (422,⟨1,8,[.f],.other⟩),
 (423,⟨1,8,[.f],.other⟩),
 (425,⟨1,8,[.f],.other⟩),
 (426,⟨1,8,[.f],.other⟩),
 (427,⟨1,8,[.f],.other⟩),
 (428,⟨1,8,[.f],.other⟩),
 (429,⟨1,8,[.f],.other⟩),
 (430,⟨1,8,[.f],.other⟩),
 (431,⟨1,8,[.f],.other⟩),
 (432,⟨1,8,[.f],.other⟩),
 (433,⟨1,8,[.f],.other⟩),
 (434,⟨1,8,[.f],.other⟩),
 (435,⟨1,2,[.i .u16],.int .u16⟩),
 (436,⟨1,8,[.f],.other⟩),
 (437,⟨1,8,[.f],.other⟩),
 (438,⟨1,24,[.sl],.slice 4⟩),
 (439,⟨1,8,[.f],.other⟩),
 (440,⟨1,8,[.f],.other⟩),
 (441,⟨1,8,[.f],.other⟩),
 (442,⟨1,8,[.f],.other⟩),
 (443,⟨1,8,[.f],.other⟩),
 (444,⟨1,8,[.f],.other⟩),
 (445,⟨1,8,[.f],.other⟩),
 (447,⟨1,8,[.f],.other⟩),
 (448,⟨1,8,[.f],.other⟩),
 (449,⟨1,8,[.f],.other⟩),
 (450,⟨1,8,[.f],.other⟩),
 (451,⟨1,8,[.f],.other⟩),
 (452,⟨1,8,[.f],.other⟩),
 (453,⟨1,8,[.f],.other⟩),
 (454,⟨1,8,[.f],.other⟩),
 (455,⟨1,8,[.f],.other⟩),
 (456,⟨1,8,[.i .i64],.int .i64⟩),
 (458,⟨1,8,[.f],.other⟩),
 (459,⟨1,8,[.f],.other⟩),
 (460,⟨1,8,[.f],.other⟩),
 (461,⟨1,8,[.f],.other⟩),
 (462,⟨1,8,[.f],.other⟩),
 (463,⟨1,4,[.i .u32],.int .u32⟩),
 (464,⟨1,8,[.f],.other⟩),
 (465,⟨1,8,[.f],.other⟩),
 (466,⟨1,8,[.f],.other⟩),
 (467,⟨1,8,[.f],.other⟩),
 (468,⟨1,8,[.f],.other⟩),
 (469,⟨1,8,[.f],.other⟩),
 (470,⟨1,8,[.f],.other⟩),
 (471,⟨1,8,[.f],.other⟩),
 (472,⟨1,8,[.f],.other⟩),
 (473,⟨1,8,[.f],.other⟩),
 (474,⟨1,8,[.f],.other⟩),
 (475,⟨1,8,[.f],.other⟩),
 (476,⟨1,8,[.f],.other⟩),
 (477,⟨1,8,[.f],.other⟩),
 (478,⟨1,8,[.f],.other⟩),
 (479,⟨1,8,[.f],.other⟩),
 (481,⟨1,8,[.f],.other⟩),
 (483,⟨1,8,[.f],.other⟩),
 (484,⟨1,8,[.f],.other⟩),
 (486,⟨1,8,[.f],.other⟩),
 (488,⟨1,8,[.f],.other⟩),
 (489,⟨1,8,[.f],.other⟩),
 (490,⟨1,8,[.f],.other⟩),
 (491,⟨1,8,[.f],.other⟩),
 (492,⟨1,8,[.f],.other⟩),
 (493,⟨1,8,[.f],.other⟩),
 (494,⟨1,8,[.f],.other⟩),
 (495,⟨1,8,[.i .u64],.int .u64⟩),
 (496,⟨1,8,[.f],.other⟩),
 (497,⟨1,8,[.f],.other⟩),
 (498,⟨1,8,[.p],.other⟩),
 (499,⟨1,8,[.f],.other⟩),
 (500,⟨1,8,[.f],.other⟩),
 (501,⟨1,8,[.f],.other⟩),
 (502,⟨1,8,[.f],.other⟩),
 (503,⟨1,8,[.f],.other⟩),
 (504,⟨1,8,[.f],.other⟩),
 (506,⟨1,8,[.f],.other⟩),
 (507,⟨1,8,[.f],.other⟩),
 (508,⟨1,8,[.f],.other⟩),
 (509,⟨1,8,[.f],.other⟩),
 (510,⟨1,8,[.f],.other⟩),
 (511,⟨1,8,[.f],.other⟩),
 (512,⟨1,8,[.f],.other⟩),
 (513,⟨1,8,[.f],.other⟩),
 (514,⟨1,8,[.p],.other⟩),
 (515,⟨1,8,[.f],.other⟩),
 (516,⟨1,8,[.f],.other⟩),
 (517,⟨1,8,[.f],.other⟩),
 (518,⟨1,8,[.f],.other⟩),
 (519,⟨1,8,[.f],.other⟩),
 (520,⟨1,8,[.f],.other⟩),
 (521,⟨1,8,[.f],.other⟩),
 (522,⟨1,8,[.f],.other⟩),
 (523,⟨1,8,[.f],.other⟩),
 (529,⟨1,8,[.f],.other⟩),
 (532,⟨1,8,[.f],.other⟩),
 (533,⟨1,8,[.p],.other⟩)]
def tis (t:TypeId):Option TI:=tab.lookup t
def teq:TypeId→Option (List CK)
 | 22=>some [.int .i64,.int .i64]
 | 23=>some [.int .i64,.int .i64]
 | 25=>some [.int .i64,.int .i64,.int .i64,.int .i64,.int .u64]
 | 26=>some [.int .i64,.int .i64,.int .i64,.int .i64,.int .u64]
 | 44=>some [.int .u64,.int .u64]
 | 45=>some [.int .u64,.int .u64]
 | 54=>some [.int .i64,.int .i64,.int .i64,.int .i64,.int .i64,.int .i64,.int .i64,.int .u8]
 | 55=>some [.int .i64,.int .i64,.int .i64,.int .i64,.int .i64,.int .i64,.int .i64,.int .u8]
 | 56=>some [.int .i64,.int .i64,.int .i64,.int .i64]
 | 57=>some [.int .i64,.int .i64,.int .i64,.int .i64]
 | 58=>some [.int .i64,.int .i64,.int .i64]
 | 59=>some [.int .i64,.int .i64,.int .i64]
 | 60=>some [.int .i64,.int .i64,.int .i64,.int .i64,.int .i64]
 | 61=>some [.int .i64,.int .i64,.int .i64,.int .i64,.int .i64]
 | 72=>some [.int .i64,.int .i64,.int .i64,.int .u64,.int .u64,.int .u64,.int .u64]
 | 73=>some [.int .i64,.int .i64,.int .i64,.int .u64,.int .u64,.int .u64,.int .u64]
 | 74=>some [.int .u8,.int .i64,.int .i64,.int .i64,.int .i64,.int .i64]
 | 75=>some [.int .u8,.int .i64,.int .i64,.int .i64,.int .i64,.int .i64]
 | 99=>some [.int .i64,.int .i64,.int .u64,.int .u64]
 | 100=>some [.int .i64,.int .i64,.int .u64,.int .u64]
 | 113=>some [.int .i64,.int .i64,.bool]
 | 114=>some [.int .i64,.int .i64,.bool]
 | 115=>some [.int .i64,.bool]
 | 116=>some [.int .i64,.bool]
 | 125=>some [.int .i64,.int .u64,.int .u64]
 | 126=>some [.int .i64,.int .u64,.int .u64]
 | 127=>some [.int .i64,.bool,.int .i64,.int .i64]
 | 128=>some [.int .i64,.bool,.int .i64,.int .i64]
 | 131=>some [.int .i64,.int .i64,.bool,.int .i64,.int .i64]
 | 132=>some [.int .i64,.int .i64,.bool,.int .i64,.int .i64]
 | 146=>some [.int .i64,.int .i64,.bool]
 | 147=>some [.int .i64,.int .i64,.bool]
 | 178=>some [.int .i64,.int .i64,.int .i64]
 | 179=>some [.int .i64,.int .i64,.int .i64]
 | 181=>some [.int .i64,.int .i64,.int .i64,.int .i64,.int .i64,.int .i64]
 | 182=>some [.int .i64,.int .i64]
 | 183=>some [.int .i64,.int .i64]
 | 197=>some [.int .i64,.int .i64,.int .i64]
 | 221=>some [.int .u8,.int .u8]
 | 222=>some [.int .u8,.int .u8]
 | 252=>some [.int .i64,.bool]
 | 253=>some [.int .i64,.bool]
 | 296=>some [.int .i64,.int .i64]
 | 297=>some [.int .i64,.int .i64]
 | 343=>some [.int .i64,.int .i64,.int .u64,.int .u64,.int .u64]
 | 344=>some [.int .i64,.int .i64,.int .u64,.int .u64,.int .u64]
 | _=>none
theorem tab_ok:tab.all (λp=>tyChk Tryz.prog p.1 p.2)=true:=by kernel_rfl
@[go_sem]theorem ti3:tis 3=some ⟨1,8,[.i .i64],.int .i64⟩:=by kernel_rfl
@[go_sem]theorem ti4:tis 4=some ⟨1,1,[.b],.bool⟩:=by kernel_rfl
@[go_sem]theorem ti5:tis 5=some ⟨1,1,[.i .u8],.int .u8⟩:=by kernel_rfl
@[go_sem]theorem ti23:tis 23=some ⟨2,16,[.i .i64,.i .i64],.struct [(0,1,false),(1,1,false)]⟩:=by kernel_rfl
@[go_sem]theorem ti24:tis 24=some ⟨1,8,[.i .u64],.int .u64⟩:=by kernel_rfl
@[go_sem]theorem ti26:tis 26=some ⟨5,40,[.i .i64,.i .i64,.i .i64,.i .i64,.i .u64],.struct [(0,2,true),(2,1,false),(3,1,false),(4,1,false)]⟩:=by kernel_rfl
@[go_sem]theorem ti27:tis 27=some ⟨1,24,[.sl],.slice 116⟩:=by kernel_rfl
@[go_sem]theorem ti28:tis 28=some ⟨1,24,[.sl],.slice 147⟩:=by kernel_rfl
@[go_sem]theorem ti29:tis 29=some ⟨1,24,[.sl],.slice 150⟩:=by kernel_rfl
@[go_sem]theorem ti31:tis 31=some ⟨3,72,[.sl,.sl,.sl],.struct [(0,1,false),(1,1,false),(2,1,false)]⟩:=by kernel_rfl
@[go_sem]theorem ti32:tis 32=some ⟨1,24,[.sl],.slice 45⟩:=by kernel_rfl
@[go_sem]theorem ti33:tis 33=some ⟨1,24,[.sl],.slice 55⟩:=by kernel_rfl
@[go_sem]theorem ti34:tis 34=some ⟨1,24,[.sl],.slice 59⟩:=by kernel_rfl
@[go_sem]theorem ti35:tis 35=some ⟨1,24,[.sl],.slice 57⟩:=by kernel_rfl
@[go_sem]theorem ti36:tis 36=some ⟨1,24,[.sl],.slice 61⟩:=by kernel_rfl
@[go_sem]theorem ti38:tis 38=some ⟨4,96,[.sl,.sl,.sl,.sl],.struct [(0,1,false),(1,1,false),(2,1,false),(3,1,false)]⟩:=by kernel_rfl
@[go_sem]theorem ti39:tis 39=some ⟨1,24,[.sl],.slice 114⟩:=by kernel_rfl
@[go_sem]theorem ti40:tis 40=some ⟨1,24,[.sl],.slice 100⟩:=by kernel_rfl
@[go_sem]theorem ti41:tis 41=some ⟨1,24,[.sl],.slice 73⟩:=by kernel_rfl
@[go_sem]theorem ti43:tis 43=some ⟨17,312,[.i .i64,.i .i64,.i .i64,.i .i64,.i .u64,.i .i64,.sl,.sl,.sl,.sl,.sl,.sl,.sl,.sl,.sl,.sl,.sl],.struct [(0,5,true),(5,1,false),(6,3,true),(9,1,false),(10,4,true),(14,1,false),(15,1,false),(16,1,false)]⟩:=by kernel_rfl
@[go_sem]theorem ti45:tis 45=some ⟨2,16,[.i .u64,.i .u64],.struct [(0,1,false),(1,1,false)]⟩:=by kernel_rfl
@[go_sem]theorem ti48:tis 48=some ⟨1,8,[.i .i64],.int .i64⟩:=by kernel_rfl
@[go_sem]theorem ti55:tis 55=some ⟨8,64,[.i .i64,.i .i64,.i .i64,.i .i64,.i .i64,.i .i64,.i .i64,.i .u8],.struct [(0,1,false),(1,1,false),(2,1,false),(3,1,false),(4,1,false),(5,1,false),(6,1,false),(7,1,false)]⟩:=by kernel_rfl
@[go_sem]theorem ti57:tis 57=some ⟨4,32,[.i .i64,.i .i64,.i .i64,.i .i64],.struct [(0,1,false),(1,1,false),(2,1,false),(3,1,false)]⟩:=by kernel_rfl
@[go_sem]theorem ti59:tis 59=some ⟨3,24,[.i .i64,.i .i64,.i .i64],.struct [(0,1,false),(1,1,false),(2,1,false)]⟩:=by kernel_rfl
@[go_sem]theorem ti61:tis 61=some ⟨5,40,[.i .i64,.i .i64,.i .i64,.i .i64,.i .i64],.struct [(0,1,false),(1,1,false),(2,1,false),(3,1,false),(4,1,false)]⟩:=by kernel_rfl
@[go_sem]theorem ti62:tis 62=some ⟨1,24,[.sl],.slice 3⟩:=by kernel_rfl
@[go_sem]theorem ti64:tis 64=some ⟨6,64,[.i .i64,.i .i64,.i .i64,.i .i64,.i .i64,.sl],.struct [(0,1,false),(1,1,false),(2,1,false),(3,1,false),(4,1,false),(5,1,false)]⟩:=by kernel_rfl
@[go_sem]theorem ti66:tis 66=some ⟨34,288,[.i .u8,.i .i64,.i .i64,.i .i64,.b,.i .u64,.i .u64,.i .u64,.i .i64,.i .i64,.i .i64,.i .i64,.i .i64,.i .i64,.i .i64,.i .u8,.i .i64,.i .i64,.i .i64,.i .i64,.i .i64,.i .i64,.i .i64,.i .i64,.i .i64,.i .i64,.i .i64,.i .i64,.i .i64,.i .i64,.i .i64,.i .i64,.i .i64,.sl],.struct [(0,1,false),(1,1,false),(2,1,false),(3,1,false),(4,1,false),(5,2,true),(7,1,false),(8,8,true),(16,4,true),(20,3,true),(23,5,true),(28,6,true)]⟩:=by kernel_rfl
@[go_sem]theorem ti73:tis 73=some ⟨7,56,[.i .i64,.i .i64,.i .i64,.i .u64,.i .u64,.i .u64,.i .u64],.struct [(0,1,false),(1,1,false),(2,1,false),(3,1,false),(4,1,false),(5,1,false),(6,1,false)]⟩:=by kernel_rfl
@[go_sem]theorem ti100:tis 100=some ⟨4,32,[.i .i64,.i .i64,.i .u64,.i .u64],.struct [(0,1,false),(1,1,false),(2,1,false),(3,1,false)]⟩:=by kernel_rfl
@[go_sem]theorem ti114:tis 114=some ⟨3,24,[.i .i64,.i .i64,.b],.struct [(0,1,false),(1,1,false),(2,1,false)]⟩:=by kernel_rfl
@[go_sem]theorem ti116:tis 116=some ⟨2,16,[.i .i64,.b],.struct [(0,1,false),(1,1,false)]⟩:=by kernel_rfl
@[go_sem]theorem ti145:tis 145=some ⟨1,24,[.sl],.slice 24⟩:=by kernel_rfl
@[go_sem]theorem ti147:tis 147=some ⟨3,24,[.i .i64,.i .i64,.b],.struct [(0,1,false),(1,1,false),(2,1,false)]⟩:=by kernel_rfl
@[go_sem]theorem ti148:tis 148=some ⟨1,24,[.sl],.slice 253⟩:=by kernel_rfl
@[go_sem]theorem ti150:tis 150=some ⟨3,40,[.i .i64,.i .i64,.sl],.struct [(0,1,false),(1,1,false),(2,1,false)]⟩:=by kernel_rfl
@[go_sem]theorem ti166:tis 166=some ⟨1,8,[.p],.other⟩:=by kernel_rfl
@[go_sem]theorem ti168:tis 168=some ⟨17,312,[.i .i64,.i .i64,.i .i64,.i .i64,.i .u64,.i .i64,.sl,.sl,.sl,.sl,.sl,.sl,.sl,.sl,.sl,.sl,.sl],.struct [(0,17,true)]⟩:=by kernel_rfl
@[go_sem]theorem ti173:tis 173=some ⟨1,8,[.m],.map 3 3⟩:=by kernel_rfl
@[go_sem]theorem ti175:tis 175=some ⟨4,80,[.sl,.sl,.sl,.m],.struct [(0,3,true),(3,1,false)]⟩:=by kernel_rfl
@[go_sem]theorem ti197:tis 197=some ⟨3,24,[.i .i64,.i .i64,.i .i64],.array 3 1 false⟩:=by kernel_rfl
@[go_sem]theorem ti237:tis 237=some ⟨1,8,[.f],.other⟩:=by kernel_rfl
@[go_sem]theorem ti239:tis 239=some ⟨1,8,[.f],.other⟩:=by kernel_rfl
@[go_sem]theorem ti241:tis 241=some ⟨1,8,[.f],.other⟩:=by kernel_rfl
@[go_sem]theorem ti253:tis 253=some ⟨2,16,[.i .i64,.b],.struct [(0,1,false),(1,1,false)]⟩:=by kernel_rfl
@[go_sem]theorem ti280:tis 280=some ⟨1,24,[.sl],.slice 48⟩:=by kernel_rfl
@[go_sem]theorem ti282:tis 282=some ⟨1,8,[.f],.other⟩:=by kernel_rfl
@[go_sem]theorem ti284:tis 284=some ⟨1,8,[.f],.other⟩:=by kernel_rfl
@[go_sem]theorem ti286:tis 286=some ⟨1,8,[.f],.other⟩:=by kernel_rfl
@[go_sem]theorem ti288:tis 288=some ⟨1,8,[.f],.other⟩:=by kernel_rfl
@[go_sem]theorem ti297:tis 297=some ⟨2,16,[.i .i64,.i .i64],.array 2 1 false⟩:=by kernel_rfl
@[go_sem]theorem ti317:tis 317=some ⟨1,8,[.i .u64],.int .u64⟩:=by kernel_rfl
@[go_sem]theorem ti332:tis 332=some ⟨1,8,[.f],.other⟩:=by kernel_rfl
@[go_sem]theorem ti344:tis 344=some ⟨5,40,[.i .i64,.i .i64,.i .u64,.i .u64,.i .u64],.struct [(0,4,true),(4,1,false)]⟩:=by kernel_rfl
@[go_sem]theorem ti349:tis 349=some ⟨1,8,[.f],.other⟩:=by kernel_rfl
@[go_sem]theorem ti438:tis 438=some ⟨1,24,[.sl],.slice 4⟩:=by kernel_rfl
theorem te22:eqChk Tryz.prog 22 [.int .i64,.int .i64]=true:=by kernel_rfl
theorem te23:eqChk Tryz.prog 23 [.int .i64,.int .i64]=true:=by kernel_rfl
theorem te25:eqChkS Tryz.prog 25 [.int .i64,.int .i64,.int .i64,.int .i64,.int .u64] [2,1,1,1]=true:=by kernel_rfl
theorem te26:eqChkS Tryz.prog 26 [.int .i64,.int .i64,.int .i64,.int .i64,.int .u64] [2,1,1,1]=true:=by kernel_rfl
theorem te44:eqChk Tryz.prog 44 [.int .u64,.int .u64]=true:=by kernel_rfl
theorem te45:eqChk Tryz.prog 45 [.int .u64,.int .u64]=true:=by kernel_rfl
theorem te54:eqChk Tryz.prog 54 [.int .i64,.int .i64,.int .i64,.int .i64,.int .i64,.int .i64,.int .i64,.int .u8]=true:=by kernel_rfl
theorem te55:eqChk Tryz.prog 55 [.int .i64,.int .i64,.int .i64,.int .i64,.int .i64,.int .i64,.int .i64,.int .u8]=true:=by kernel_rfl
theorem te56:eqChk Tryz.prog 56 [.int .i64,.int .i64,.int .i64,.int .i64]=true:=by kernel_rfl
theorem te57:eqChk Tryz.prog 57 [.int .i64,.int .i64,.int .i64,.int .i64]=true:=by kernel_rfl
theorem te58:eqChk Tryz.prog 58 [.int .i64,.int .i64,.int .i64]=true:=by kernel_rfl
theorem te59:eqChk Tryz.prog 59 [.int .i64,.int .i64,.int .i64]=true:=by kernel_rfl
theorem te60:eqChk Tryz.prog 60 [.int .i64,.int .i64,.int .i64,.int .i64,.int .i64]=true:=by kernel_rfl
theorem te61:eqChk Tryz.prog 61 [.int .i64,.int .i64,.int .i64,.int .i64,.int .i64]=true:=by kernel_rfl
theorem te72:eqChk Tryz.prog 72 [.int .i64,.int .i64,.int .i64,.int .u64,.int .u64,.int .u64,.int .u64]=true:=by kernel_rfl
theorem te73:eqChk Tryz.prog 73 [.int .i64,.int .i64,.int .i64,.int .u64,.int .u64,.int .u64,.int .u64]=true:=by kernel_rfl
theorem te74:eqChk Tryz.prog 74 [.int .u8,.int .i64,.int .i64,.int .i64,.int .i64,.int .i64]=true:=by kernel_rfl
theorem te75:eqChk Tryz.prog 75 [.int .u8,.int .i64,.int .i64,.int .i64,.int .i64,.int .i64]=true:=by kernel_rfl
theorem te99:eqChk Tryz.prog 99 [.int .i64,.int .i64,.int .u64,.int .u64]=true:=by kernel_rfl
theorem te100:eqChk Tryz.prog 100 [.int .i64,.int .i64,.int .u64,.int .u64]=true:=by kernel_rfl
theorem te113:eqChk Tryz.prog 113 [.int .i64,.int .i64,.bool]=true:=by kernel_rfl
theorem te114:eqChk Tryz.prog 114 [.int .i64,.int .i64,.bool]=true:=by kernel_rfl
theorem te115:eqChk Tryz.prog 115 [.int .i64,.bool]=true:=by kernel_rfl
theorem te116:eqChk Tryz.prog 116 [.int .i64,.bool]=true:=by kernel_rfl
theorem te125:eqChkS Tryz.prog 125 [.int .i64,.int .u64,.int .u64] [1,2]=true:=by kernel_rfl
theorem te126:eqChkS Tryz.prog 126 [.int .i64,.int .u64,.int .u64] [1,2]=true:=by kernel_rfl
theorem te127:eqChk Tryz.prog 127 [.int .i64,.bool,.int .i64,.int .i64]=true:=by kernel_rfl
theorem te128:eqChk Tryz.prog 128 [.int .i64,.bool,.int .i64,.int .i64]=true:=by kernel_rfl
theorem te131:eqChkS Tryz.prog 131 [.int .i64,.int .i64,.bool,.int .i64,.int .i64] [1,4]=true:=by kernel_rfl
theorem te132:eqChkS Tryz.prog 132 [.int .i64,.int .i64,.bool,.int .i64,.int .i64] [1,4]=true:=by kernel_rfl
theorem te146:eqChk Tryz.prog 146 [.int .i64,.int .i64,.bool]=true:=by kernel_rfl
theorem te147:eqChk Tryz.prog 147 [.int .i64,.int .i64,.bool]=true:=by kernel_rfl
theorem te178:eqChk Tryz.prog 178 [.int .i64,.int .i64,.int .i64]=true:=by kernel_rfl
theorem te179:eqChk Tryz.prog 179 [.int .i64,.int .i64,.int .i64]=true:=by kernel_rfl
theorem te181:eqChkA Tryz.prog 181 [.int .i64,.int .i64,.int .i64,.int .i64,.int .i64,.int .i64]=true:=by kernel_rfl
theorem te182:eqChk Tryz.prog 182 [.int .i64,.int .i64]=true:=by kernel_rfl
theorem te183:eqChk Tryz.prog 183 [.int .i64,.int .i64]=true:=by kernel_rfl
theorem te197:eqChkA Tryz.prog 197 [.int .i64,.int .i64,.int .i64]=true:=by kernel_rfl
theorem te221:eqChk Tryz.prog 221 [.int .u8,.int .u8]=true:=by kernel_rfl
theorem te222:eqChk Tryz.prog 222 [.int .u8,.int .u8]=true:=by kernel_rfl
theorem te252:eqChk Tryz.prog 252 [.int .i64,.bool]=true:=by kernel_rfl
theorem te253:eqChk Tryz.prog 253 [.int .i64,.bool]=true:=by kernel_rfl
theorem te296:eqChkA Tryz.prog 296 [.int .i64,.int .i64]=true:=by kernel_rfl
theorem te297:eqChkA Tryz.prog 297 [.int .i64,.int .i64]=true:=by kernel_rfl
theorem te343:eqChkS Tryz.prog 343 [.int .i64,.int .i64,.int .u64,.int .u64,.int .u64] [4,1]=true:=by kernel_rfl
theorem te344:eqChkS Tryz.prog 344 [.int .i64,.int .i64,.int .u64,.int .u64,.int .u64] [4,1]=true:=by kernel_rfl
theorem mem_of_lookup {α:Type} {t:Nat} {i:α}:∀{l:List (Nat × α)},l.lookup t=some i→(t,i)∈l
 | [],h=>by cases h
 | (a,b)::l,h=>by
   simp only [List.lookup] at h
   split at h
   ·rename_i e
    cases h
    have:t=a:=by simpa using e
    subst this;exact List.mem_cons_self
   ·exact List.mem_cons_of_mem _ (mem_of_lookup h)
def T:Tab:=⟨tis,teq⟩
@[go_sem]theorem T_ti (t:TypeId):T.ti t=tis t:=rfl
@[go_sem]theorem T_eq (t:TypeId):T.eq t=teq t:=rfl
attribute [go_sem] teq
theorem T_ok:TabOK Tryz.prog T:=by
 refine⟨λt i h=>List.all_eq_true.1 tab_ok (t,i) (mem_of_lookup h),λt cs h xs ys w hx hy=>?_⟩
 ·simp only [T] at h
  unfold teq at h
  split at h
  ·cases h;exact eq_of_chk te22 xs ys w hx hy
  ·cases h;exact eq_of_chk te23 xs ys w hx hy
  ·cases h;exact eq_of_chkS te25 xs ys w hx hy
  ·cases h;exact eq_of_chkS te26 xs ys w hx hy
  ·cases h;exact eq_of_chk te44 xs ys w hx hy
  ·cases h;exact eq_of_chk te45 xs ys w hx hy
  ·cases h;exact eq_of_chk te54 xs ys w hx hy
  ·cases h;exact eq_of_chk te55 xs ys w hx hy
  ·cases h;exact eq_of_chk te56 xs ys w hx hy
  ·cases h;exact eq_of_chk te57 xs ys w hx hy
  ·cases h;exact eq_of_chk te58 xs ys w hx hy
  ·cases h;exact eq_of_chk te59 xs ys w hx hy
  ·cases h;exact eq_of_chk te60 xs ys w hx hy
  ·cases h;exact eq_of_chk te61 xs ys w hx hy
  ·cases h;exact eq_of_chk te72 xs ys w hx hy
  ·cases h;exact eq_of_chk te73 xs ys w hx hy
  ·cases h;exact eq_of_chk te74 xs ys w hx hy
  ·cases h;exact eq_of_chk te75 xs ys w hx hy
  ·cases h;exact eq_of_chk te99 xs ys w hx hy
  ·cases h;exact eq_of_chk te100 xs ys w hx hy
  ·cases h;exact eq_of_chk te113 xs ys w hx hy
  ·cases h;exact eq_of_chk te114 xs ys w hx hy
  ·cases h;exact eq_of_chk te115 xs ys w hx hy
  ·cases h;exact eq_of_chk te116 xs ys w hx hy
  ·cases h;exact eq_of_chkS te125 xs ys w hx hy
  ·cases h;exact eq_of_chkS te126 xs ys w hx hy
  ·cases h;exact eq_of_chk te127 xs ys w hx hy
  ·cases h;exact eq_of_chk te128 xs ys w hx hy
  ·cases h;exact eq_of_chkS te131 xs ys w hx hy
  ·cases h;exact eq_of_chkS te132 xs ys w hx hy
  ·cases h;exact eq_of_chk te146 xs ys w hx hy
  ·cases h;exact eq_of_chk te147 xs ys w hx hy
  ·cases h;exact eq_of_chk te178 xs ys w hx hy
  ·cases h;exact eq_of_chk te179 xs ys w hx hy
  ·cases h;exact eq_of_chkA te181 xs ys w hx hy
  ·cases h;exact eq_of_chk te182 xs ys w hx hy
  ·cases h;exact eq_of_chk te183 xs ys w hx hy
  ·cases h;exact eq_of_chkA te197 xs ys w hx hy
  ·cases h;exact eq_of_chk te221 xs ys w hx hy
  ·cases h;exact eq_of_chk te222 xs ys w hx hy
  ·cases h;exact eq_of_chk te252 xs ys w hx hy
  ·cases h;exact eq_of_chk te253 xs ys w hx hy
  ·cases h;exact eq_of_chkA te296 xs ys w hx hy
  ·cases h;exact eq_of_chkA te297 xs ys w hx hy
  ·cases h;exact eq_of_chkS te343 xs ys w hx hy
  ·cases h;exact eq_of_chkS te344 xs ys w hx hy
  ·cases h
end Go.Proofs.YtncccnmmjfapnaaGreat
theorem Go.Gx.nb {n m:Nat} (h:Nat.ble n m=true):n≤m:=Nat.le_of_ble_eq_true h
