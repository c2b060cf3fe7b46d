/-
 Texts of the walk, merged: Tt.
-/
import Derived.Test.YtncccnmmjfapnaaGreatZaf
import Derived.Test.YtncccnmmjfapnaaGreatProg
set_option linter.unusedVariables false
set_option linter.unusedSimpArgs false
set_option maxRecDepth 100000
set_option maxHeartbeats 4000000
namespace Go.Proofs.YtncccnmmjfapnaaGreat
open Go.Gx
abbrev ff:TI:=⟨1,8,[.f],.other⟩
def tab:List (TypeId × TI):=[
 (1,ff),
 (2,⟨1,8,[.i .i64],.int .i64⟩),
 (3,⟨1,8,[.i .i64],.int .i64⟩),
 (4,⟨1,1,[.b],.bool⟩),
 (5,⟨1,1,[.i .u8],.int .u8⟩),
 (9,⟨1,16,[.s],.other⟩),
 (12,⟨1,8,[.i .u64],.int .u64⟩),
 (20,⟨1,16,[.ifc],.other⟩),
 (21,⟨1,4,[.i .i32],.int .i32⟩),
 (22,⟨2,16,[.i .i64,.i .i64],.struct [(0,1,false),(1,1,false)]⟩),
 (23,⟨2,16,[.i .i64,.i .i64],.struct [(0,1,false),(1,1,false)]⟩),
 (24,⟨1,8,[.i .u64],.int .u64⟩),
 (25,⟨5,40,[.i .i64,.i .i64,.i .i64,.i .i64,.i .u64],.struct [(0,2,true),(2,1,false),(3,1,false),(4,1,false)]⟩),
 (26,⟨5,40,[.i .i64,.i .i64,.i .i64,.i .i64,.i .u64],.struct [(0,2,true),(2,1,false),(3,1,false),(4,1,false)]⟩),
 (27,⟨1,24,[.sl],.slice 116⟩),
 (28,⟨1,24,[.sl],.slice 147⟩),
 (29,⟨1,24,[.sl],.slice 150⟩),
 (30,⟨3,72,[.sl,.sl,.sl],.struct [(0,1,false),(1,1,false),(2,1,false)]⟩),
 (31,⟨3,72,[.sl,.sl,.sl],.struct [(0,1,false),(1,1,false),(2,1,false)]⟩),
 (32,⟨1,24,[.sl],.slice 45⟩),
 (33,⟨1,24,[.sl],.slice 55⟩),
 (34,⟨1,24,[.sl],.slice 59⟩),
 (35,⟨1,24,[.sl],.slice 57⟩),
 (36,⟨1,24,[.sl],.slice 61⟩),
 (37,⟨4,96,[.sl,.sl,.sl,.sl],.struct [(0,1,false),(1,1,false),(2,1,false),(3,1,false)]⟩),
 (38,⟨4,96,[.sl,.sl,.sl,.sl],.struct [(0,1,false),(1,1,false),(2,1,false),(3,1,false)]⟩),
 (39,⟨1,24,[.sl],.slice 114⟩),
 (40,⟨1,24,[.sl],.slice 100⟩),
 (41,⟨1,24,[.sl],.slice 73⟩),
 (42,⟨17,312,[.i .i64,.i .i64,.i .i64,.i .i64,.i .u64,.i .i64,.sl,.sl,.sl,.sl,.sl,.sl,.sl,.sl,.sl,.sl,.sl],.struct [(0,5,true),(5,1,false),(6,3,true),(9,1,false),(10,4,true),(14,1,false),(15,1,false),(16,1,false)]⟩),
 (43,⟨17,312,[.i .i64,.i .i64,.i .i64,.i .i64,.i .u64,.i .i64,.sl,.sl,.sl,.sl,.sl,.sl,.sl,.sl,.sl,.sl,.sl],.struct [(0,5,true),(5,1,false),(6,3,true),(9,1,false),(10,4,true),(14,1,false),(15,1,false),(16,1,false)]⟩),
 (44,⟨2,16,[.i .u64,.i .u64],.struct [(0,1,false),(1,1,false)]⟩),
 (45,⟨2,16,[.i .u64,.i .u64],.struct [(0,1,false),(1,1,false)]⟩),
 (46,ff),
 (47,ff),
 (48,⟨1,8,[.i .i64],.int .i64⟩),
 (49,⟨1,24,[.sl],.slice 132⟩),
 (50,⟨3,40,[.i .i64,.i .i64,.sl],.struct [(0,1,false),(1,1,false),(2,1,false)]⟩),
 (51,⟨3,40,[.i .i64,.i .i64,.sl],.struct [(0,1,false),(1,1,false),(2,1,false)]⟩),
 (53,ff),
 (54,⟨8,64,[.i .i64,.i .i64,.i .i64,.i .i64,.i .i64,.i .i64,.i .i64,.i .u8],.struct [(0,1,false),(1,1,false),(2,1,false),(3,1,false),(4,1,false),(5,1,false),(6,1,false),(7,1,false)]⟩),
 (55,⟨8,64,[.i .i64,.i .i64,.i .i64,.i .i64,.i .i64,.i .i64,.i .i64,.i .u8],.struct [(0,1,false),(1,1,false),(2,1,false),(3,1,false),(4,1,false),(5,1,false),(6,1,false),(7,1,false)]⟩),
 (56,⟨4,32,[.i .i64,.i .i64,.i .i64,.i .i64],.struct [(0,1,false),(1,1,false),(2,1,false),(3,1,false)]⟩),
 (57,⟨4,32,[.i .i64,.i .i64,.i .i64,.i .i64],.struct [(0,1,false),(1,1,false),(2,1,false),(3,1,false)]⟩),
 (58,⟨3,24,[.i .i64,.i .i64,.i .i64],.struct [(0,1,false),(1,1,false),(2,1,false)]⟩),
 (59,⟨3,24,[.i .i64,.i .i64,.i .i64],.struct [(0,1,false),(1,1,false),(2,1,false)]⟩),
 (60,⟨5,40,[.i .i64,.i .i64,.i .i64,.i .i64,.i .i64],.struct [(0,1,false),(1,1,false),(2,1,false),(3,1,false),(4,1,false)]⟩),
 (61,⟨5,40,[.i .i64,.i .i64,.i .i64,.i .i64,.i .i64],.struct [(0,1,false),(1,1,false),(2,1,false),(3,1,false),(4,1,false)]⟩),
 (62,⟨1,24,[.sl],.slice 3⟩),
 (63,⟨6,64,[.i .i64,.i .i64,.i .i64,.i .i64,.i .i64,.sl],.struct [(0,1,false),(1,1,false),(2,1,false),(3,1,false),(4,1,false),(5,1,false)]⟩),
 (64,⟨6,64,[.i .i64,.i .i64,.i .i64,.i .i64,.i .i64,.sl],.struct [(0,1,false),(1,1,false),(2,1,false),(3,1,false),(4,1,false),(5,1,false)]⟩),
 (65,⟨34,288,[.i .u8,.i .i64,.i .i64,.i .i64,.b,.i .u64,.i .u64,.i .u64,.i .i64,.i .i64,.i .i64,.i .i64,.i .i64,.i .i64,.i .i64,.i .u8,.i .i64,.i .i64,.i .i64,.i .i64,.i .i64,.i .i64,.i .i64,.i .i64,.i .i64,.i .i64,.i .i64,.i .i64,.i .i64,.i .i64,.i .i64,.i .i64,.i .i64,.sl],.struct [(0,1,false),(1,1,false),(2,1,false),(3,1,false),(4,1,false),(5,2,true),(7,1,false),(8,8,true),(16,4,true),(20,3,true),(23,5,true),(28,6,true)]⟩),
 (66,⟨34,288,[.i .u8,.i .i64,.i .i64,.i .i64,.b,.i .u64,.i .u64,.i .u64,.i .i64,.i .i64,.i .i64,.i .i64,.i .i64,.i .i64,.i .i64,.i .u8,.i .i64,.i .i64,.i .i64,.i .i64,.i .i64,.i .i64,.i .i64,.i .i64,.i .i64,.i .i64,.i .i64,.i .i64,.i .i64,.i .i64,.i .i64,.i .i64,.i .i64,.sl],.struct [(0,1,false),(1,1,false),(2,1,false),(3,1,false),(4,1,false),(5,2,true),(7,1,false),(8,8,true),(16,4,true),(20,3,true),(23,5,true),(28,6,true)]⟩),
 (68,ff),
 (69,ff),
 (71,ff),
 (72,⟨7,56,[.i .i64,.i .i64,.i .i64,.i .u64,.i .u64,.i .u64,.i .u64],.struct [(0,1,false),(1,1,false),(2,1,false),(3,1,false),(4,1,false),(5,1,false),(6,1,false)]⟩),
 (73,⟨7,56,[.i .i64,.i .i64,.i .i64,.i .u64,.i .u64,.i .u64,.i .u64],.struct [(0,1,false),(1,1,false),(2,1,false),(3,1,false),(4,1,false),(5,1,false),(6,1,false)]⟩),
 (74,⟨6,48,[.i .u8,.i .i64,.i .i64,.i .i64,.i .i64,.i .i64],.struct [(0,1,false),(1,1,false),(2,1,false),(3,1,false),(4,1,false),(5,1,false)]⟩),
 (75,⟨6,48,[.i .u8,.i .i64,.i .i64,.i .i64,.i .i64,.i .i64],.struct [(0,1,false),(1,1,false),(2,1,false),(3,1,false),(4,1,false),(5,1,false)]⟩),
 (77,ff),
 (78,ff),
 (79,ff),
 (80,ff),
 (82,ff),
 (84,ff),
 (85,ff),
 (86,ff),
 (87,ff),
 (88,ff),
 (89,ff),
 (90,ff),
 (91,ff),
 (92,ff),
 (93,ff),
 (94,⟨1,24,[.sl],.slice 66⟩),
 (95,ff),
 (96,⟨1,24,[.sl],.slice 51⟩),
 (98,ff),
 (99,⟨4,32,[.i .i64,.i .i64,.i .u64,.i .u64],.struct [(0,1,false),(1,1,false),(2,1,false),(3,1,false)]⟩),
 (100,⟨4,32,[.i .i64,.i .i64,.i .u64,.i .u64],.struct [(0,1,false),(1,1,false),(2,1,false),(3,1,false)]⟩),
 (102,ff),
 (104,ff),
 (105,ff),
 (107,ff),
 (108,ff),
 (109,ff),
 (111,ff),
 (112,ff),
 (113,⟨3,24,[.i .i64,.i .i64,.b],.struct [(0,1,false),(1,1,false),(2,1,false)]⟩),
 (114,⟨3,24,[.i .i64,.i .i64,.b],.struct [(0,1,false),(1,1,false),(2,1,false)]⟩),
 (115,⟨2,16,[.i .i64,.b],.struct [(0,1,false),(1,1,false)]⟩),
 (116,⟨2,16,[.i .i64,.b],.struct [(0,1,false),(1,1,false)]⟩),
 (117,ff),
 (118,ff),
 (119,ff),
 (120,ff),
 (122,ff),
 (123,ff),
 (124,⟨1,24,[.sl],.slice 126⟩),
 (125,⟨3,24,[.i .i64,.i .u64,.i .u64],.struct [(0,1,false),(1,2,true)]⟩),
 (126,⟨3,24,[.i .i64,.i .u64,.i .u64],.struct [(0,1,false),(1,2,true)]⟩),
 (127,⟨4,32,[.i .i64,.b,.i .i64,.i .i64],.struct [(0,1,false),(1,1,false),(2,1,false),(3,1,false)]⟩),
 (128,⟨4,32,[.i .i64,.b,.i .i64,.i .i64],.struct [(0,1,false),(1,1,false),(2,1,false),(3,1,false)]⟩),
 (130,ff),
 (131,⟨5,40,[.i .i64,.i .i64,.b,.i .i64,.i .i64],.struct [(0,1,false),(1,4,true)]⟩),
 (132,⟨5,40,[.i .i64,.i .i64,.b,.i .i64,.i .i64],.struct [(0,1,false),(1,4,true)]⟩),
 (133,⟨1,24,[.sl],.slice 220⟩),
 (134,⟨8,192,[.sl,.sl,.sl,.sl,.sl,.sl,.sl,.sl],.array 8 1 false⟩),
 (135,⟨9,216,[.sl,.sl,.sl,.sl,.sl,.sl,.sl,.sl,.sl],.struct [(0,1,false),(1,8,true)]⟩),
 (136,⟨9,216,[.sl,.sl,.sl,.sl,.sl,.sl,.sl,.sl,.sl],.struct [(0,1,false),(1,8,true)]⟩),
 (138,ff),
 (139,⟨2,32,[.sl,.i .i64],.struct [(0,1,false),(1,1,false)]⟩),
 (140,⟨2,32,[.sl,.i .i64],.struct [(0,1,false),(1,1,false)]⟩),
 (142,ff),
 (143,ff),
 (144,ff),
 (145,⟨1,24,[.sl],.slice 24⟩),
 (146,⟨3,24,[.i .i64,.i .i64,.b],.struct [(0,1,false),(1,1,false),(2,1,false)]⟩),
 (147,⟨3,24,[.i .i64,.i .i64,.b],.struct [(0,1,false),(1,1,false),(2,1,false)]⟩),
 (148,⟨1,24,[.sl],.slice 253⟩),
 (149,⟨3,40,[.i .i64,.i .i64,.sl],.struct [(0,1,false),(1,1,false),(2,1,false)]⟩),
 (150,⟨3,40,[.i .i64,.i .i64,.sl],.struct [(0,1,false),(1,1,false),(2,1,false)]⟩),
 (152,ff),
 (153,ff),
 (154,ff),
 (155,ff),
 (157,ff),
 (159,ff),
 (160,ff),
 (161,ff),
 (162,ff),
 (163,ff),
 (164,ff),
 (165,ff),
 (166,⟨1,8,[.p],.other⟩),
 (167,⟨17,312,[.i .i64,.i .i64,.i .i64,.i .i64,.i .u64,.i .i64,.sl,.sl,.sl,.sl,.sl,.sl,.sl,.sl,.sl,.sl,.sl],.struct [(0,17,true)]⟩),
 (168,⟨17,312,[.i .i64,.i .i64,.i .i64,.i .i64,.i .u64,.i .i64,.sl,.sl,.sl,.sl,.sl,.sl,.sl,.sl,.sl,.sl,.sl],.struct [(0,17,true)]⟩),
 (169,ff),
 (170,⟨1,8,[.p],.other⟩),
 (172,ff),
 (173,⟨1,8,[.m],.map 3 3⟩),
 (174,⟨4,80,[.sl,.sl,.sl,.m],.struct [(0,3,true),(3,1,false)]⟩),
 (175,⟨4,80,[.sl,.sl,.sl,.m],.struct [(0,3,true),(3,1,false)]⟩),
 (176,ff),
 (177,ff),
 (178,⟨3,24,[.i .i64,.i .i64,.i .i64],.struct [(0,1,false),(1,1,false),(2,1,false)]⟩),
 (179,⟨3,24,[.i .i64,.i .i64,.i .i64],.struct [(0,1,false),(1,1,false),(2,1,false)]⟩),
 (180,ff),
 (181,⟨6,48,[.i .i64,.i .i64,.i .i64,.i .i64,.i .i64,.i .i64],.array 6 1 false⟩),
 (182,⟨2,16,[.i .i64,.i .i64],.struct [(0,1,false),(1,1,false)]⟩),
 (183,⟨2,16,[.i .i64,.i .i64],.struct [(0,1,false),(1,1,false)]⟩),
 (184,⟨12,96,[.i .i64,.i .i64,.i .i64,.i .i64,.i .i64,.i .i64,.i .i64,.i .i64,.i .i64,.i .i64,.i .i64,.i .i64],.array 6 2 true⟩),
 (185,ff),
 (186,ff),
 (187,ff),
 (188,ff),
 (189,ff),
 (190,ff),
 (191,ff),
 (192,ff),
 (193,ff),
 (194,ff),
 (195,ff),
 (196,ff),
 (197,⟨3,24,[.i .i64,.i .i64,.i .i64],.array 3 1 false⟩),
 (198,ff),
 (199,ff),
 (200,ff),
 (201,ff),
 (202,ff),
 (203,ff),
 (204,ff),
 (205,ff),
 (206,ff),
 (207,ff),
 (208,ff),
 (209,ff),
 (211,ff),
 (212,ff),
 (213,ff),
 (214,ff),
 (215,ff),
 (216,ff),
 (217,ff),
 (218,ff),
 (219,⟨3,32,[.i .u8,.i .u8,.sl],.struct [(0,1,false),(1,1,false),(2,1,false)]⟩),
 (220,⟨3,32,[.i .u8,.i .u8,.sl],.struct [(0,1,false),(1,1,false),(2,1,false)]⟩),
 (221,⟨2,2,[.i .u8,.i .u8],.struct [(0,1,false),(1,1,false)]⟩),
 (222,⟨2,2,[.i .u8,.i .u8],.struct [(0,1,false),(1,1,false)]⟩),
 (223,ff),
 (224,ff),
 (225,⟨1,8,[.m],.map 3 4⟩),
 (227,ff),
 (228,ff),
 (229,ff),
 (231,ff),
 (232,ff),
 (233,ff),
 (234,ff),
 (235,ff),
 (236,ff),
 (237,ff),
 (238,ff),
 (239,ff),
 (240,ff),
 (241,ff),
 (242,ff),
 (243,ff),
 (244,ff),
 (245,⟨1,8,[.p],.other⟩),
 (246,ff),
 (247,ff),
 (248,ff),
 (249,ff),
 (250,ff),
 (251,ff),
 (252,⟨2,16,[.i .i64,.b],.struct [(0,1,false),(1,1,false)]⟩),
 (253,⟨2,16,[.i .i64,.b],.struct [(0,1,false),(1,1,false)]⟩),
 (254,ff),
 (255,ff),
 (256,ff),
 (257,ff),
 (258,ff),
 (259,ff),
 (260,ff),
 (261,ff),
 (263,ff),
 (264,ff),
 (265,⟨15,120,[.f,.f,.f,.f,.f,.f,.f,.f,.f,.f,.f,.f,.f,.f,.f],.array 15 1 false⟩),
 (266,ff),
 (267,ff),
 (268,ff),
 (269,ff),
 (270,ff),
 (271,ff),
 (273,ff),
 (274,ff),
 (275,ff),
 (276,ff),
 (277,ff),
 (278,ff),
 (279,ff),
 (280,⟨1,24,[.sl],.slice 48⟩),
 (281,ff),
 (282,ff),
 (283,ff),
 (284,ff),
 (285,ff),
 (286,ff),
 (287,ff),
 (288,ff),
 (289,ff),
 (290,ff),
 (291,ff),
 (292,ff),
 (293,ff),
 (294,ff),
 (295,ff),
 (296,⟨2,16,[.i .i64,.i .i64],.array 2 1 false⟩),
 (297,⟨2,16,[.i .i64,.i .i64],.array 2 1 false⟩),
 (298,ff),
 (299,ff),
 (300,ff),
 (301,ff),
 (302,ff),
 (303,ff),
 (304,ff),
 (305,ff),
 (306,ff),
 (307,ff),
 (308,ff),
 (309,ff),
 (310,ff),
 (311,ff),
 (312,ff),
 (313,ff),
 (314,ff),
 (315,ff),
 (316,ff),
 (317,⟨1,8,[.i .u64],.int .u64⟩),
 (318,ff),
 (319,ff),
 (320,ff),
 (321,ff),
 (322,ff),
 (323,ff),
 (324,ff),
 (325,ff),
 (326,ff),
 (327,ff),
 (328,ff),
 (329,ff),
 (330,ff),
 (331,ff),
 (332,ff),
 (333,ff),
 (334,ff),
 (335,ff),
 (336,ff),
 (337,ff),
 (338,ff),
 (339,ff),
 (340,ff),
 (341,ff),
 (342,⟨1,8,[.p],.other⟩),
 (343,⟨5,40,[.i .i64,.i .i64,.i .u64,.i .u64,.i .u64],.struct [(0,4,true),(4,1,false)]⟩),
 (344,⟨5,40,[.i .i64,.i .i64,.i .u64,.i .u64,.i .u64],.struct [(0,4,true),(4,1,false)]⟩),
 (345,ff),
 (346,ff),
 (347,ff),
 (348,ff),
 (349,ff),
 (350,ff),
 (351,ff),
 (352,ff),
 (353,ff),
 (354,ff),
 (355,⟨1,8,[.i .u64],.int .u64⟩),
 (356,ff),
 (357,ff),
 (358,ff),
 (359,ff),
 (360,ff),
 (361,ff),
 (362,ff),
 (363,ff),
 (365,ff),
 (367,ff),
 (369,ff),
 (370,ff),
 (371,ff),
 (373,ff),
 (374,ff),
 (376,ff),
 (377,ff),
 (378,ff),
 (380,ff),
 (381,ff),
 (382,ff),
 (384,ff),
 (385,ff),
 (387,ff),
 (389,ff),
 (391,ff),
 (392,ff),
 (393,ff),
 (394,ff),
 (395,⟨4,32,[.f,.f,.f,.f],.array 4 1 false⟩),
 (396,ff),
 (397,ff),
 (398,ff),
 (399,ff),
 (400,ff),
 (401,ff),
 (402,ff),
 (403,ff),
 (405,ff),
 (407,ff),
 (409,ff),
 (410,ff),
 (412,ff),
 (413,ff),
 (414,ff),
 (416,ff),
 (417,ff),
 (419,ff),
 (420,ff),
 (421,ff),
 (422,ff),
 (423,ff),
 (425,ff),
 (426,ff),
 (427,ff),
 (428,ff),
 (429,ff),
 (430,ff),
 (431,ff),
 (432,ff),
 (433,ff),
 (434,ff),
 (435,⟨1,2,[.i .u16],.int .u16⟩),
 (436,ff),
 (437,ff),
 (438,⟨1,24,[.sl],.slice 4⟩),
 (439,ff),
 (440,ff),
 (441,ff),
 (442,ff),
 (443,ff),
 (444,ff),
 (445,ff),
 (447,ff),
 (448,ff),
 (449,ff),
 (450,ff),
 (451,ff),
 (452,ff),
 (453,ff),
 (454,ff),
 (455,ff),
 (456,⟨1,8,[.i .i64],.int .i64⟩),
 (458,ff),
 (459,ff),
 (460,ff),
 (461,ff),
 (462,ff),
 (463,⟨1,4,[.i .u32],.int .u32⟩),
 (464,ff),
 (465,ff),
 (466,ff),
 (467,ff),
 (468,ff),
 (469,ff),
 (470,ff),
 (471,ff),
 (472,ff),
 (473,ff),
 (474,ff),
 (475,ff),
 (476,ff),
 (477,ff),
 (478,ff),
 (479,ff),
 (481,ff),
 (483,ff),
 (484,ff),
 (486,ff),
 (488,ff),
 (489,ff),
 (490,ff),
 (491,ff),
 (492,ff),
 (493,ff),
 (494,ff),
 (495,⟨1,8,[.i .u64],.int .u64⟩),
 (496,ff),
 (497,ff),
 (498,⟨1,8,[.p],.other⟩),
 (499,ff),
 (500,ff),
 (501,ff),
 (502,ff),
 (503,ff),
 (504,ff),
 (506,ff),
 (507,ff),
 (508,ff),
 (509,ff),
 (510,ff),
 (511,ff),
 (512,ff),
 (513,ff),
 (514,⟨1,8,[.p],.other⟩),
 (515,ff),
 (516,ff),
 (517,ff),
 (518,ff),
 (519,ff),
 (520,ff),
 (521,ff),
 (522,ff),
 (523,ff),
 (529,ff),
 (532,ff),
 (533,⟨1,8,[.p],.other⟩)]
def dV (t:TypeId):Option TI:=tab.lookup t
def teq:TypeId->Option (List CK)
 | 22=>some [.int .i64,.int .i64]
 | 23=>some [.int .i64,.int .i64]
 | 25=>some [.int .i64,.int .i64,.int .i64,.int .i64,.int .u64]
 | 26=>some [.int .i64,.int .i64,.int .i64,.int .i64,.int .u64]
 | 44=>some [.int .u64,.int .u64]
 | 45=>some [.int .u64,.int .u64]
 | 54=>some [.int .i64,.int .i64,.int .i64,.int .i64,.int .i64,.int .i64,.int .i64,.int .u8]
 | 55=>some [.int .i64,.int .i64,.int .i64,.int .i64,.int .i64,.int .i64,.int .i64,.int .u8]
 | 56=>some [.int .i64,.int .i64,.int .i64,.int .i64]
 | 57=>some [.int .i64,.int .i64,.int .i64,.int .i64]
 | 58=>some [.int .i64,.int .i64,.int .i64]
 | 59=>some [.int .i64,.int .i64,.int .i64]
 | 60=>some [.int .i64,.int .i64,.int .i64,.int .i64,.int .i64]
 | 61=>some [.int .i64,.int .i64,.int .i64,.int .i64,.int .i64]
 | 72=>some [.int .i64,.int .i64,.int .i64,.int .u64,.int .u64,.int .u64,.int .u64]
 | 73=>some [.int .i64,.int .i64,.int .i64,.int .u64,.int .u64,.int .u64,.int .u64]
 | 74=>some [.int .u8,.int .i64,.int .i64,.int .i64,.int .i64,.int .i64]
 | 75=>some [.int .u8,.int .i64,.int .i64,.int .i64,.int .i64,.int .i64]
 | 99=>some [.int .i64,.int .i64,.int .u64,.int .u64]
 | 100=>some [.int .i64,.int .i64,.int .u64,.int .u64]
 | 113=>some [.int .i64,.int .i64,.bool]
 | 114=>some [.int .i64,.int .i64,.bool]
 | 115=>some [.int .i64,.bool]
 | 116=>some [.int .i64,.bool]
 | 125=>some [.int .i64,.int .u64,.int .u64]
 | 126=>some [.int .i64,.int .u64,.int .u64]
 | 127=>some [.int .i64,.bool,.int .i64,.int .i64]
 | 128=>some [.int .i64,.bool,.int .i64,.int .i64]
 | 131=>some [.int .i64,.int .i64,.bool,.int .i64,.int .i64]
 | 132=>some [.int .i64,.int .i64,.bool,.int .i64,.int .i64]
 | 146=>some [.int .i64,.int .i64,.bool]
 | 147=>some [.int .i64,.int .i64,.bool]
 | 178=>some [.int .i64,.int .i64,.int .i64]
 | 179=>some [.int .i64,.int .i64,.int .i64]
 | 181=>some [.int .i64,.int .i64,.int .i64,.int .i64,.int .i64,.int .i64]
 | 182=>some [.int .i64,.int .i64]
 | 183=>some [.int .i64,.int .i64]
 | 197=>some [.int .i64,.int .i64,.int .i64]
 | 221=>some [.int .u8,.int .u8]
 | 222=>some [.int .u8,.int .u8]
 | 252=>some [.int .i64,.bool]
 | 253=>some [.int .i64,.bool]
 | 296=>some [.int .i64,.int .i64]
 | 297=>some [.int .i64,.int .i64]
 | 343=>some [.int .i64,.int .i64,.int .u64,.int .u64,.int .u64]
 | 344=>some [.int .i64,.int .i64,.int .u64,.int .u64,.int .u64]
 | _=>none
theorem aZr:tab.all (λp=>dJ Tryz.prog p.1 p.2)=true:=κ
@[go_sem]theorem ti3:dV 3=some ⟨1,8,[.i .i64],.int .i64⟩:=κ
@[go_sem]theorem ti4:dV 4=some ⟨1,1,[.b],.bool⟩:=κ
@[go_sem]theorem ti5:dV 5=some ⟨1,1,[.i .u8],.int .u8⟩:=κ
@[go_sem]theorem ti9:dV 9=some ⟨1,16,[.s],.other⟩:=κ
@[go_sem]theorem bMy:dV 23=some ⟨2,16,[.i .i64,.i .i64],.struct [(0,1,false),(1,1,false)]⟩:=κ
@[go_sem]theorem bMf:dV 24=some ⟨1,8,[.i .u64],.int .u64⟩:=κ
@[go_sem]theorem bMk:dV 26=some ⟨5,40,[.i .i64,.i .i64,.i .i64,.i .i64,.i .u64],.struct [(0,2,true),(2,1,false),(3,1,false),(4,1,false)]⟩:=κ
@[go_sem]theorem bMn:dV 27=some ⟨1,24,[.sl],.slice 116⟩:=κ
@[go_sem]theorem bMo:dV 28=some ⟨1,24,[.sl],.slice 147⟩:=κ
@[go_sem]theorem bL8:dV 29=some ⟨1,24,[.sl],.slice 150⟩:=κ
@[go_sem]theorem bLz:dV 31=some ⟨3,72,[.sl,.sl,.sl],.struct [(0,1,false),(1,1,false),(2,1,false)]⟩:=κ
@[go_sem]theorem bLv:dV 32=some ⟨1,24,[.sl],.slice 45⟩:=κ
@[go_sem]theorem bMz:dV 33=some ⟨1,24,[.sl],.slice 55⟩:=κ
@[go_sem]theorem bMd:dV 34=some ⟨1,24,[.sl],.slice 59⟩:=κ
@[go_sem]theorem bMj:dV 35=some ⟨1,24,[.sl],.slice 57⟩:=κ
@[go_sem]theorem bLw:dV 36=some ⟨1,24,[.sl],.slice 61⟩:=κ
@[go_sem]theorem bMa:dV 38=some ⟨4,96,[.sl,.sl,.sl,.sl],.struct [(0,1,false),(1,1,false),(2,1,false),(3,1,false)]⟩:=κ
@[go_sem]theorem bL3:dV 39=some ⟨1,24,[.sl],.slice 114⟩:=κ
@[go_sem]theorem bMt:dV 40=some ⟨1,24,[.sl],.slice 100⟩:=κ
@[go_sem]theorem bMr:dV 41=some ⟨1,24,[.sl],.slice 73⟩:=κ
@[go_sem]theorem bMi:dV 43=some ⟨17,312,[.i .i64,.i .i64,.i .i64,.i .i64,.i .u64,.i .i64,.sl,.sl,.sl,.sl,.sl,.sl,.sl,.sl,.sl,.sl,.sl],.struct [(0,5,true),(5,1,false),(6,3,true),(9,1,false),(10,4,true),(14,1,false),(15,1,false),(16,1,false)]⟩:=κ
@[go_sem]theorem bLy:dV 45=some ⟨2,16,[.i .u64,.i .u64],.struct [(0,1,false),(1,1,false)]⟩:=κ
@[go_sem]theorem bMu:dV 48=some ⟨1,8,[.i .i64],.int .i64⟩:=κ
@[go_sem]theorem bL7:dV 49=some ⟨1,24,[.sl],.slice 132⟩:=κ
@[go_sem]theorem bMm:dV 51=some ⟨3,40,[.i .i64,.i .i64,.sl],.struct [(0,1,false),(1,1,false),(2,1,false)]⟩:=κ
@[go_sem]theorem bLu:dV 55=some ⟨8,64,[.i .i64,.i .i64,.i .i64,.i .i64,.i .i64,.i .i64,.i .i64,.i .u8],.struct [(0,1,false),(1,1,false),(2,1,false),(3,1,false),(4,1,false),(5,1,false),(6,1,false),(7,1,false)]⟩:=κ
@[go_sem]theorem bMg:dV 57=some ⟨4,32,[.i .i64,.i .i64,.i .i64,.i .i64],.struct [(0,1,false),(1,1,false),(2,1,false),(3,1,false)]⟩:=κ
@[go_sem]theorem bMs:dV 59=some ⟨3,24,[.i .i64,.i .i64,.i .i64],.struct [(0,1,false),(1,1,false),(2,1,false)]⟩:=κ
@[go_sem]theorem bMv:dV 61=some ⟨5,40,[.i .i64,.i .i64,.i .i64,.i .i64,.i .i64],.struct [(0,1,false),(1,1,false),(2,1,false),(3,1,false),(4,1,false)]⟩:=κ
@[go_sem]theorem bL2:dV 62=some ⟨1,24,[.sl],.slice 3⟩:=κ
@[go_sem]theorem bLt:dV 64=some ⟨6,64,[.i .i64,.i .i64,.i .i64,.i .i64,.i .i64,.sl],.struct [(0,1,false),(1,1,false),(2,1,false),(3,1,false),(4,1,false),(5,1,false)]⟩:=κ
@[go_sem]theorem bMl:dV 66=some ⟨34,288,[.i .u8,.i .i64,.i .i64,.i .i64,.b,.i .u64,.i .u64,.i .u64,.i .i64,.i .i64,.i .i64,.i .i64,.i .i64,.i .i64,.i .i64,.i .u8,.i .i64,.i .i64,.i .i64,.i .i64,.i .i64,.i .i64,.i .i64,.i .i64,.i .i64,.i .i64,.i .i64,.i .i64,.i .i64,.i .i64,.i .i64,.i .i64,.i .i64,.sl],.struct [(0,1,false),(1,1,false),(2,1,false),(3,1,false),(4,1,false),(5,2,true),(7,1,false),(8,8,true),(16,4,true),(20,3,true),(23,5,true),(28,6,true)]⟩:=κ
@[go_sem]theorem bL0:dV 73=some ⟨7,56,[.i .i64,.i .i64,.i .i64,.i .u64,.i .u64,.i .u64,.i .u64],.struct [(0,1,false),(1,1,false),(2,1,false),(3,1,false),(4,1,false),(5,1,false),(6,1,false)]⟩:=κ
@[go_sem]theorem bMc:dV 75=some ⟨6,48,[.i .u8,.i .i64,.i .i64,.i .i64,.i .i64,.i .i64],.struct [(0,1,false),(1,1,false),(2,1,false),(3,1,false),(4,1,false),(5,1,false)]⟩:=κ
@[go_sem]theorem bMw:dV 94=some ⟨1,24,[.sl],.slice 66⟩:=κ
@[go_sem]theorem bMe:dV 96=some ⟨1,24,[.sl],.slice 51⟩:=κ
@[go_sem]theorem bKo:dV 100=some ⟨4,32,[.i .i64,.i .i64,.i .u64,.i .u64],.struct [(0,1,false),(1,1,false),(2,1,false),(3,1,false)]⟩:=κ
@[go_sem]theorem bKf:dV 114=some ⟨3,24,[.i .i64,.i .i64,.b],.struct [(0,1,false),(1,1,false),(2,1,false)]⟩:=κ
@[go_sem]theorem bKu:dV 116=some ⟨2,16,[.i .i64,.b],.struct [(0,1,false),(1,1,false)]⟩:=κ
@[go_sem]theorem bLe:dV 124=some ⟨1,24,[.sl],.slice 126⟩:=κ
@[go_sem]theorem bKb:dV 126=some ⟨3,24,[.i .i64,.i .u64,.i .u64],.struct [(0,1,false),(1,2,true)]⟩:=κ
@[go_sem]theorem bKe:dV 128=some ⟨4,32,[.i .i64,.b,.i .i64,.i .i64],.struct [(0,1,false),(1,1,false),(2,1,false),(3,1,false)]⟩:=κ
@[go_sem]theorem bKy:dV 132=some ⟨5,40,[.i .i64,.i .i64,.b,.i .i64,.i .i64],.struct [(0,1,false),(1,4,true)]⟩:=κ
@[go_sem]theorem bKc:dV 133=some ⟨1,24,[.sl],.slice 220⟩:=κ
@[go_sem]theorem bLd:dV 134=some ⟨8,192,[.sl,.sl,.sl,.sl,.sl,.sl,.sl,.sl],.array 8 1 false⟩:=κ
@[go_sem]theorem bKl:dV 136=some ⟨9,216,[.sl,.sl,.sl,.sl,.sl,.sl,.sl,.sl,.sl],.struct [(0,1,false),(1,8,true)]⟩:=κ
@[go_sem]theorem bK4:dV 140=some ⟨2,32,[.sl,.i .i64],.struct [(0,1,false),(1,1,false)]⟩:=κ
@[go_sem]theorem bLk:dV 145=some ⟨1,24,[.sl],.slice 24⟩:=κ
@[go_sem]theorem bKx:dV 147=some ⟨3,24,[.i .i64,.i .i64,.b],.struct [(0,1,false),(1,1,false),(2,1,false)]⟩:=κ
@[go_sem]theorem bLi:dV 148=some ⟨1,24,[.sl],.slice 253⟩:=κ
@[go_sem]theorem bKm:dV 150=some ⟨3,40,[.i .i64,.i .i64,.sl],.struct [(0,1,false),(1,1,false),(2,1,false)]⟩:=κ
@[go_sem]theorem bKq:dV 168=some ⟨17,312,[.i .i64,.i .i64,.i .i64,.i .i64,.i .u64,.i .i64,.sl,.sl,.sl,.sl,.sl,.sl,.sl,.sl,.sl,.sl,.sl],.struct [(0,17,true)]⟩:=κ
@[go_sem]theorem bKk:dV 170=some ⟨1,8,[.p],.other⟩:=κ
@[go_sem]theorem bKa:dV 173=some ⟨1,8,[.m],.map 3 3⟩:=κ
@[go_sem]theorem bLa:dV 175=some ⟨4,80,[.sl,.sl,.sl,.m],.struct [(0,3,true),(3,1,false)]⟩:=κ
@[go_sem]theorem bLg:dV 179=some ⟨3,24,[.i .i64,.i .i64,.i .i64],.struct [(0,1,false),(1,1,false),(2,1,false)]⟩:=κ
@[go_sem]theorem bKr:dV 181=some ⟨6,48,[.i .i64,.i .i64,.i .i64,.i .i64,.i .i64,.i .i64],.array 6 1 false⟩:=κ
@[go_sem]theorem bLf:dV 183=some ⟨2,16,[.i .i64,.i .i64],.struct [(0,1,false),(1,1,false)]⟩:=κ
@[go_sem]theorem bKw:dV 184=some ⟨12,96,[.i .i64,.i .i64,.i .i64,.i .i64,.i .i64,.i .i64,.i .i64,.i .i64,.i .i64,.i .i64,.i .i64,.i .i64],.array 6 2 true⟩:=κ
@[go_sem]theorem bK5:dV 197=some ⟨3,24,[.i .i64,.i .i64,.i .i64],.array 3 1 false⟩:=κ
@[go_sem]theorem bLm:dV 220=some ⟨3,32,[.i .u8,.i .u8,.sl],.struct [(0,1,false),(1,1,false),(2,1,false)]⟩:=κ
@[go_sem]theorem bKi:dV 222=some ⟨2,2,[.i .u8,.i .u8],.struct [(0,1,false),(1,1,false)]⟩:=κ
@[go_sem]theorem bK0:dV 225=some ⟨1,8,[.m],.map 3 4⟩:=κ
@[go_sem]theorem bKg:dV 237=some ff:=κ
@[go_sem]theorem bKj:dV 239=some ff:=κ
@[go_sem]theorem bLb:dV 241=some ff:=κ
@[go_sem]theorem bKz:dV 253=some ⟨2,16,[.i .i64,.b],.struct [(0,1,false),(1,1,false)]⟩:=κ
@[go_sem]theorem bK1:dV 265=some ⟨15,120,[.f,.f,.f,.f,.f,.f,.f,.f,.f,.f,.f,.f,.f,.f,.f],.array 15 1 false⟩:=κ
@[go_sem]theorem bLr:dV 297=some ⟨2,16,[.i .i64,.i .i64],.array 2 1 false⟩:=κ
@[go_sem]theorem bKn:dV 298=some ff:=κ
@[go_sem]theorem bKv:dV 317=some ⟨1,8,[.i .u64],.int .u64⟩:=κ
@[go_sem]theorem bK8:dV 332=some ff:=κ
@[go_sem]theorem bLl:dV 344=some ⟨5,40,[.i .i64,.i .i64,.i .u64,.i .u64,.i .u64],.struct [(0,4,true),(4,1,false)]⟩:=κ
@[go_sem]theorem bK7:dV 349=some ff:=κ
@[go_sem]theorem bJ9:dV 355=some ⟨1,8,[.i .u64],.int .u64⟩:=κ
@[go_sem]theorem bK9:dV 394=some ff:=κ
@[go_sem]theorem bLh:dV 395=some ⟨4,32,[.f,.f,.f,.f],.array 4 1 false⟩:=κ
@[go_sem]theorem bLc:dV 435=some ⟨1,2,[.i .u16],.int .u16⟩:=κ
@[go_sem]theorem bK2:dV 438=some ⟨1,24,[.sl],.slice 4⟩:=κ
theorem bI2:cR Tryz.prog 22 [.int .i64,.int .i64]=true:=κ
theorem bJ2:cR Tryz.prog 23 [.int .i64,.int .i64]=true:=κ
theorem bI9:lF Tryz.prog 25 [.int .i64,.int .i64,.int .i64,.int .i64,.int .u64] [2,1,1,1]=true:=κ
theorem bIv:lF Tryz.prog 26 [.int .i64,.int .i64,.int .i64,.int .i64,.int .u64] [2,1,1,1]=true:=κ
theorem bIy:cR Tryz.prog 44 [.int .u64,.int .u64]=true:=κ
theorem bJj:cR Tryz.prog 45 [.int .u64,.int .u64]=true:=κ
theorem bJo:cR Tryz.prog 54 [.int .i64,.int .i64,.int .i64,.int .i64,.int .i64,.int .i64,.int .i64,.int .u8]=true:=κ
theorem bI7:cR Tryz.prog 55 [.int .i64,.int .i64,.int .i64,.int .i64,.int .i64,.int .i64,.int .i64,.int .u8]=true:=κ
theorem bI1:cR Tryz.prog 56 [.int .i64,.int .i64,.int .i64,.int .i64]=true:=κ
theorem bI8:cR Tryz.prog 57 [.int .i64,.int .i64,.int .i64,.int .i64]=true:=κ
theorem bJ8:cR Tryz.prog 58 [.int .i64,.int .i64,.int .i64]=true:=κ
theorem bJp:cR Tryz.prog 59 [.int .i64,.int .i64,.int .i64]=true:=κ
theorem bJ0:cR Tryz.prog 60 [.int .i64,.int .i64,.int .i64,.int .i64,.int .i64]=true:=κ
theorem bIr:cR Tryz.prog 61 [.int .i64,.int .i64,.int .i64,.int .i64,.int .i64]=true:=κ
theorem bIt:cR Tryz.prog 72 [.int .i64,.int .i64,.int .i64,.int .u64,.int .u64,.int .u64,.int .u64]=true:=κ
theorem bI6:cR Tryz.prog 73 [.int .i64,.int .i64,.int .i64,.int .u64,.int .u64,.int .u64,.int .u64]=true:=κ
theorem bJb:cR Tryz.prog 74 [.int .u8,.int .i64,.int .i64,.int .i64,.int .i64,.int .i64]=true:=κ
theorem bIu:cR Tryz.prog 75 [.int .u8,.int .i64,.int .i64,.int .i64,.int .i64,.int .i64]=true:=κ
theorem bJh:cR Tryz.prog 99 [.int .i64,.int .i64,.int .u64,.int .u64]=true:=κ
theorem bFd:cR Tryz.prog 100 [.int .i64,.int .i64,.int .u64,.int .u64]=true:=κ
theorem bG5:cR Tryz.prog 113 [.int .i64,.int .i64,.bool]=true:=κ
theorem bEp:cR Tryz.prog 114 [.int .i64,.int .i64,.bool]=true:=κ
theorem bDq:cR Tryz.prog 115 [.int .i64,.bool]=true:=κ
theorem bDr:cR Tryz.prog 116 [.int .i64,.bool]=true:=κ
theorem bG8:lF Tryz.prog 125 [.int .i64,.int .u64,.int .u64] [1,2]=true:=κ
theorem bHg:lF Tryz.prog 126 [.int .i64,.int .u64,.int .u64] [1,2]=true:=κ
theorem bEt:cR Tryz.prog 127 [.int .i64,.bool,.int .i64,.int .i64]=true:=κ
theorem bE1:cR Tryz.prog 128 [.int .i64,.bool,.int .i64,.int .i64]=true:=κ
theorem bFy:lF Tryz.prog 131 [.int .i64,.int .i64,.bool,.int .i64,.int .i64] [1,4]=true:=κ
theorem bFr:lF Tryz.prog 132 [.int .i64,.int .i64,.bool,.int .i64,.int .i64] [1,4]=true:=κ
theorem bHa:cR Tryz.prog 146 [.int .i64,.int .i64,.bool]=true:=κ
theorem bFk:cR Tryz.prog 147 [.int .i64,.int .i64,.bool]=true:=κ
theorem bEr:cR Tryz.prog 178 [.int .i64,.int .i64,.int .i64]=true:=κ
theorem bFg:cR Tryz.prog 179 [.int .i64,.int .i64,.int .i64]=true:=κ
theorem bD8:tZ Tryz.prog 181 [.int .i64,.int .i64,.int .i64,.int .i64,.int .i64,.int .i64]=true:=κ
theorem bFs:cR Tryz.prog 182 [.int .i64,.int .i64]=true:=κ
theorem bE9:cR Tryz.prog 183 [.int .i64,.int .i64]=true:=κ
theorem bFo:tZ Tryz.prog 197 [.int .i64,.int .i64,.int .i64]=true:=κ
theorem bD9:cR Tryz.prog 221 [.int .u8,.int .u8]=true:=κ
theorem bDy:cR Tryz.prog 222 [.int .u8,.int .u8]=true:=κ
theorem bEe:cR Tryz.prog 252 [.int .i64,.bool]=true:=κ
theorem bGp:cR Tryz.prog 253 [.int .i64,.bool]=true:=κ
theorem bEc:tZ Tryz.prog 296 [.int .i64,.int .i64]=true:=κ
theorem bD4:tZ Tryz.prog 297 [.int .i64,.int .i64]=true:=κ
theorem bFi:lF Tryz.prog 343 [.int .i64,.int .i64,.int .u64,.int .u64,.int .u64] [4,1]=true:=κ
theorem bF5:lF Tryz.prog 344 [.int .i64,.int .i64,.int .u64,.int .u64,.int .u64] [4,1]=true:=κ
theorem qX {α:Type} {t:Nat} {i:α}:∀{l:List (Nat × α)},l.lookup t=some i->(t,i)∈l
 | [],h=>by cases h
 | (a,b)::l,h=>by
   simp only [List.lookup] at h;split at h
   ·rename_i e
    cases h
    have:t=a:=by simpa using e
    subst this;exact List.mem_cons_self
   ·exact List.mem_cons_of_mem _ (qX h)
def T:Tab:=⟨dV,teq⟩
@[go_sem]theorem bMq (t:TypeId):T.ti t=dV t:=rfl
@[go_sem]theorem bMx (t:TypeId):T.eq t=teq t:=rfl
attribute [go_sem] teq
theorem aD:aX Tryz.prog T:=by
 refine⟨λt i h=>List.all_eq_true.1 aZr (t,i) (qX h),λt cs h xs ys w hx hy=>?_⟩
 ·simp only [T] at h;unfold teq at h;split at h
  ·cases h;exact aU bI2 xs ys w hx hy
  ·cases h;exact aU bJ2 xs ys w hx hy
  ·cases h;exact eO bI9 xs ys w hx hy
  ·cases h;exact eO bIv xs ys w hx hy
  ·cases h;exact aU bIy xs ys w hx hy
  ·cases h;exact aU bJj xs ys w hx hy
  ·cases h;exact aU bJo xs ys w hx hy
  ·cases h;exact aU bI7 xs ys w hx hy
  ·cases h;exact aU bI1 xs ys w hx hy
  ·cases h;exact aU bI8 xs ys w hx hy
  ·cases h;exact aU bJ8 xs ys w hx hy
  ·cases h;exact aU bJp xs ys w hx hy
  ·cases h;exact aU bJ0 xs ys w hx hy
  ·cases h;exact aU bIr xs ys w hx hy
  ·cases h;exact aU bIt xs ys w hx hy
  ·cases h;exact aU bI6 xs ys w hx hy
  ·cases h;exact aU bJb xs ys w hx hy
  ·cases h;exact aU bIu xs ys w hx hy
  ·cases h;exact aU bJh xs ys w hx hy
  ·cases h;exact aU bFd xs ys w hx hy
  ·cases h;exact aU bG5 xs ys w hx hy
  ·cases h;exact aU bEp xs ys w hx hy
  ·cases h;exact aU bDq xs ys w hx hy
  ·cases h;exact aU bDr xs ys w hx hy
  ·cases h;exact eO bG8 xs ys w hx hy
  ·cases h;exact eO bHg xs ys w hx hy
  ·cases h;exact aU bEt xs ys w hx hy
  ·cases h;exact aU bE1 xs ys w hx hy
  ·cases h;exact eO bFy xs ys w hx hy
  ·cases h;exact eO bFr xs ys w hx hy
  ·cases h;exact aU bHa xs ys w hx hy
  ·cases h;exact aU bFk xs ys w hx hy
  ·cases h;exact aU bEr xs ys w hx hy
  ·cases h;exact aU bFg xs ys w hx hy
  ·cases h;exact nE bD8 xs ys w hx hy
  ·cases h;exact aU bFs xs ys w hx hy
  ·cases h;exact aU bE9 xs ys w hx hy
  ·cases h;exact nE bFo xs ys w hx hy
  ·cases h;exact aU bD9 xs ys w hx hy
  ·cases h;exact aU bDy xs ys w hx hy
  ·cases h;exact aU bEe xs ys w hx hy
  ·cases h;exact aU bGp xs ys w hx hy
  ·cases h;exact nE bEc xs ys w hx hy
  ·cases h;exact nE bD4 xs ys w hx hy
  ·cases h;exact eO bFi xs ys w hx hy
  ·cases h;exact eO bF5 xs ys w hx hy
  ·cases h
end Go.Proofs.YtncccnmmjfapnaaGreat
theorem Go.Gx.nb {n m:Nat} (h:Nat.ble n m=true):n<=m:=Nat.le_of_ble_eq_true h
section
open Go Go.Gx Go.RowKit Go.Proofs Go.Proofs.YtncccnmmjfapnaaGreat
theorem π {f:FuncId}{fn:Func}(hf:Tryz.prog.funcs[f]?=some fn){c:Code}{args:List SV}{φ:SV->Prop}{N:Nat}{rs:List ResultVar}(h:GC Tryz.prog T ⟨N,0,fS⟩ c [] (uR T rs fun s M=>gZ M s φ) (qH args) aEk 0)(hb:fn.body=some c:=by exact rfl)(hn:(fn.name=="runtime.NumGoroutine")=false:=by kernel_rfl)(hlen:args.length<=fn.ntmps:=by exact nb rfl)(hN:fn.ntmps=N:=by exact rfl)(hrs:fn.results.toList=rs:=by exact rfl):Pure Tryz.prog f args φ:=aH3 aD hf hb hn hlen hN hrs h
theorem γ {f:FuncId}{fn:Func}(hf:Tryz.prog.funcs[f]?=some fn){c:Code}{args:List SV}{Rs Rs':List Reg}{S:SV}{N:Nat}{rs:List ResultVar}(h:GC Tryz.prog T ⟨N,0,fS⟩ c [] (uR T rs fun s M=>∃ρl,aEg M s ρl S Rs') (qH args) (bU Rs) Rs.length)(hb:fn.body=some c:=by exact rfl)(hn:(fn.name=="runtime.NumGoroutine")=false:=by kernel_rfl)(hlen:args.length<=fn.ntmps:=by exact nb rfl)(hN:fn.ntmps=N:=by exact rfl)(hrs:fn.results.toList=rs:=by exact rfl):Own Tryz.prog f Rs args S Rs':=aNv aD hf hb hn hlen hN hrs h
theorem χ {f:FuncId}{fn:Func}(hf:Tryz.prog.funcs[f]?=some fn){c:Code}{args:List SV}{Rs Rs':List Reg}{S:SV}{N:Nat}{rs:List ResultVar}(h:GC Tryz.prog T ⟨N,0,fS⟩ c [] (uR T rs fun s M=>(∃ρl,aEg M s ρl S Rs')\/(s=.r (.v (.slice none 0 0))/\∃e k get,S=.sl 0 k 0 0 none/\Rs'=[.vec e k 0 get])) (qH args) (bU Rs) Rs.length)(hb:fn.body=some c:=by exact rfl)(hn:(fn.name=="runtime.NumGoroutine")=false:=by kernel_rfl)(hlen:args.length<=fn.ntmps:=by exact nb rfl)(hN:fn.ntmps=N:=by exact rfl)(hrs:fn.results.toList=rs:=by exact rfl):Own Tryz.prog f Rs args S Rs':=aJ8 aD hf hb hn hlen hN hrs h
end
