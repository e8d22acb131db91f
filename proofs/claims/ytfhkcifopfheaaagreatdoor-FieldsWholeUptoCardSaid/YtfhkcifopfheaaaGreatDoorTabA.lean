import Derived.Test.YtfhkcifopfheaaaGreatDoorCtC
import Derived.Test.YtfhkcifopfheaaaGreatDoorLib
import Derived.Test.YtfhkcifopfheaaaGreatDoorRows
set_option linter.unusedVariables false
set_option linter.unusedSimpArgs false
namespace Go.CT.Sch
open Go.Proofs
def F1:Nat:=1
def F2:Nat:=2
def F3:Nat:=3
def F4:Nat:=4
def F5:Nat:=5
def F9:Nat:=9
def F12:Nat:=12
def F13:Nat:=13
def F14:Nat:=14
def F15:Nat:=15
def F16:Nat:=16
def F17:Nat:=17
def F18:Nat:=18
def F19:Nat:=19
def F20:Nat:=20
def F21:Nat:=21
def F22:Nat:=22
def F23:Nat:=23
def F24:Nat:=24
def F25:Nat:=25
def F26:Nat:=26
def F27:Nat:=27
def F28:Nat:=28
def F29:Nat:=29
def F30:Nat:=30
def F31:Nat:=31
def F32:Nat:=32
def F33:Nat:=33
def F34:Nat:=34
def F35:Nat:=35
def F36:Nat:=36
def F37:Nat:=37
def F38:Nat:=38
def F39:Nat:=39
def F40:Nat:=40
def F41:Nat:=41
def F42:Nat:=42
def F43:Nat:=43
def F44:Nat:=44
def F45:Nat:=45
def F46:Nat:=46
def F47:Nat:=47
def F48:Nat:=48
def F49:Nat:=49
def F50:Nat:=50
def F51:Nat:=51
def F52:Nat:=52
def F53:Nat:=53
def F54:Nat:=54
def F55:Nat:=55
def F56:Nat:=56
def F57:Nat:=57
def F58:Nat:=58
def F59:Nat:=59
def F60:Nat:=60
def F61:Nat:=61
def F62:Nat:=62
def F63:Nat:=63
def F64:Nat:=64
def F65:Nat:=65
def F66:Nat:=66
def F67:Nat:=67
def F68:Nat:=68
def F69:Nat:=69
def F70:Nat:=70
def F71:Nat:=71
def F72:Nat:=72
def F73:Nat:=73
def F74:Nat:=74
def F75:Nat:=75
def F76:Nat:=76
def F77:Nat:=77
def F78:Nat:=78
def F79:Nat:=79
def F80:Nat:=80
def F81:Nat:=81
def F82:Nat:=82
def F83:Nat:=83
def F84:Nat:=84
def F85:Nat:=85
def F86:Nat:=86
def F87:Nat:=87
def F88:Nat:=88
def F89:Nat:=89
def F90:Nat:=90
def F91:Nat:=91
def F92:Nat:=92
def F93:Nat:=93
def F94:Nat:=94
def F96:Nat:=96
def F97:Nat:=97
def F98:Nat:=98
def F99:Nat:=99
def Axi:Nat:=100
def Ayn:Nat:=101
def Ax6:Nat:=102
def Ams:Nat:=103
def Arv:Nat:=104
def Axa:Nat:=105
def Axg:Nat:=106
def Awo:Nat:=107
def Nj:Nat:=108
def Aqk:Nat:=109
def F110:Nat:=110
def Axu:Nat:=122
def Amo:Nat:=123
def Aw7:Nat:=124
def Avk:Nat:=125
def Aqd:Nat:=126
def Aue:Nat:=127
def Ap9:Nat:=128
def Aur:Nat:=129
def Aqm:Nat:=130
def Axb:Nat:=131
def Aa8:Nat:=132
def Avf:Nat:=133
def V0:Nat:=134
def Aju:Nat:=135
def Ahl:Nat:=136
def Ag2:Nat:=137
def Aso:Nat:=138
def Aym:Nat:=139
def Aqr:Nat:=140
def Axm:Nat:=141
def Auh:Nat:=142
def Ayp:Nat:=143
def Aho:Nat:=144
def Tv:Nat:=145
def Ax7:Nat:=146
def Awg:Nat:=147
def Aoh:Nat:=148
def Awc:Nat:=149
def Uq:Nat:=150
def Axq:Nat:=151
def Ar6:Nat:=160
def Amp:Nat:=182
def specs:List (Nat × Spec):= [
 (0,⟨10,[.data 26,.data 33],[.whole 4],false⟩),
 (1,⟨36,[.data 26,.data 33,.data 22],[.whole 4],false⟩),
 (2,⟨88,[.data 26,.data 3],[.whole 3],false⟩),
 (3,⟨53,[.data 33,.data 3],[.whole 4],false⟩),
 (4,⟨102,[.data 33,.data 3,.data 3],[.whole 3],false⟩),
 (5,⟨37,[],[.whole 4],false⟩),
 (6,⟨89,[],[.cells 26 [false,false,false,true,false,true,true],.cells 33 [false,false,false,true,true]],true⟩),
 (7,⟨90,[.data 4],[.cells 33 [false,false,false,true,true]],true⟩),
 (8,⟨55,[.data 31],[.cells 33 [false,false,false,true,true]],true⟩),
 (9,⟨104,[.data 33],[.cells 33 [false,false,false,true,true]],true⟩),
 (10,⟨103,[.data 31,.data 70],[.cells 31 [true]],true⟩),
 (11,⟨57,[.data 3],[.cells 33 [false,false,false,true,true]],true⟩),
 (12,⟨39,[.data 26,.data 33],[.cells 22 [true]],false⟩),
 (13,⟨91,[.data 26,.data 33],[.whole 4],false⟩),
 (14,⟨17,[.data 26],[.whole 4],false⟩),
 (15,⟨60,[.data 26,.data 3],[.whole 4],false⟩),
 (16,⟨105,[.data 26,.data 3],[.whole 4],false⟩),
 (17,⟨106,[.data 26],[.whole 4],false⟩),
 (18,⟨175,[.data 9],[.cells 33 [false,false,false,true,true]],true⟩),
 (19,⟨62,[.data 33],[.whole 4],false⟩),
 (20,⟨115,[.data 33,.data 3],[.whole 4],false⟩),
 (21,⟨178,[.data 33],[.whole 4],false⟩),
 (22,⟨220,[.data 9],[.whole 4],false⟩),
 (23,⟨179,[.data 9],[.whole 4],false⟩),
 (24,⟨116,[.data 33],[.whole 3],false⟩),
 (25,⟨107,[.data 26],[.whole 4],false⟩),
 (26,⟨125,[.data 26,.data 9],[.whole 64,.whole 4],true⟩),
 (27,⟨185,[.data 24,.fn 186 [9]],[.whole 3],false⟩),
 (28,⟨186,[.data 64,.rd 9],[.whole 4],false⟩),
 (29,⟨187,[.data 26],[.whole 4],false⟩),
 (30,⟨108,[.data 23,.fn 109 [3]],[.whole 4],false⟩),
 (31,⟨176,[.data 23,.fn 109 [3]],[.whole 3],false⟩),
 (32,⟨109,[.data 26,.rd 3],[.whole 4],false⟩),
 (33,⟨110,[.data 26,.data 3],[.whole 4],false⟩),
 (34,⟨78,[.data 31],[.cells 33 [false,false,false,true,true]],true⟩),
 (35,⟨135,[.data 31],[.cells 31 [true]],true⟩),
 (36,⟨136,[.arr 31,.fn 137 []],[],false⟩),
 (37,⟨193,[.arr 31,.data 3,.fn 137 []],[],false⟩),
 (38,⟨224,[.arr 31,.data 3,.data 3,.fn 137 []],[],false⟩),
 (39,⟨137,[.data 70,.data 70],[.whole 3],false⟩),
 (40,⟨84,[.data 9,.data 9],[.whole 3],false⟩),
 (41,⟨150,[.data 9,.data 9],[.whole 3],false⟩),
 (42,⟨199,[.data 9,.data 9],[.whole 3],false⟩),
 (43,⟨225,[.arr 31,.data 3,.data 3,.data 3,.fn 137 []],[],false⟩),
 (44,⟨240,[.arr 31,.data 3,.data 3,.data 3,.fn 137 []],[],false⟩),
 (45,⟨257,[.arr 31,.data 3,.data 3,.data 3,.fn 137 []],[],false⟩),
 (46,⟨133,[.data 33],[.cells 33 [false,false,false,true,true]],true⟩),
 (47,⟨190,[.data 30],[.cells 30 [true]],true⟩),
 (48,⟨63,[.data 26,.data 33],[.cells 36 [true]],false⟩),
 (49,⟨117,[.box 89 [true],.data 26,.data 33,.data 39],[],false⟩),
 (50,⟨144,[.box 89 [true],.data 39,.data 50],[],false⟩),
 (51,⟨160,[.data 39],[.whole 9,.whole 50],false⟩),
 (52,⟨65,[.data 39],[.whole 4],false⟩),
 (53,⟨121,[.data 39,.fn 122 []],[.whole 4],false⟩),
 (54,⟨183,[.data 39,.fn 122 []],[.whole 3],false⟩),
 (55,⟨122,[.data 74],[.whole 4],false⟩),
 (56,⟨123,[.data 74],[.whole 4],false⟩),
 (57,⟨184,[.data 9],[.whole 4],false⟩),
 (58,⟨222,[.data 21],[.whole 4],false⟩),
 (59,⟨207,[.bld 176 true,.data 5],[.skip],false⟩),
 (60,⟨233,[.bld 176 true],[],false⟩),
 (61,⟨209,[.data 3],[.whole 9],false⟩),
 (62,⟨208,[.bld 176 true,.data 9],[.whole 3,.skip],false⟩),
 (63,⟨210,[.data 9],[.whole 9],false⟩),
 (64,⟨211,[.bld 176 false],[.whole 9],false⟩),
 (65,⟨235,[.bld 176 true,.data 21],[.whole 3,.skip],false⟩),
 (66,⟨245,[.own 174,.data 21],[.cells 174 [true]],false⟩),
 (67,⟨262,[.data 174,.data 21],[.cells 174 [true]],false⟩),
 (68,⟨180,[.data 22,.data 9],[.whole 4],false⟩),
 (69,⟨221,[.data 22,.data 9],[.whole 3],false⟩),
 (70,⟨181,[.box 89 [true],.data 26,.data 33,.data 39],[],false⟩),
 (71,⟨148,[.data 26,.data 3,.data 33],[.whole 74],false⟩),
 (72,⟨145,[.data 33,.data 9],[.whole 9,.whole 4],false⟩),
 (73,⟨75,[.data 33,.data 9],[.cells 33 [false,false,false,true,true],.whole 4],true⟩),
 (74,⟨141,[.data 39,.data 74],[.cells 39 [true]],false⟩),
 (75,⟨195,[.data 39],[.cells 39 [true]],false⟩),
 (76,⟨194,[.own 39],[.clip 39],true⟩),
 (77,⟨124,[.data 26],[.whole 4],false⟩),
 (78,⟨182,[.box 89 [true],.data 26,.data 33,.data 39],[],false⟩),
 (79,⟨142,[.data 9],[.whole 74],false⟩),
 (80,⟨140,[.data 33,.data 9],[.cells 33 [false,false,false,true,true],.whole 4],true⟩),
 (81,⟨92,[.data 104,.data 39,.fnb 93 1,.box 22 [true]],[],false⟩),
 (82,⟨159,[.data 104],[.cells 142 [true]],true⟩),
 (83,⟨205,[.data 26,.data 33],[.cells 142 [true]],true⟩),
 (84,⟨185,[.data 24,.fn 232 [70]],[.whole 3],false⟩),
 (85,⟨232,[.data 64,.rd 70],[.whole 4],false⟩),
 (86,⟨206,[.data 26,.data 33],[.cells 142 [true]],true⟩),
 (87,⟨93,[.data 9,.box 22 [true]],[],false⟩),
 (88,⟨161,[.data 39,.data 74],[.cells 39 [true]],false⟩),
 (89,⟨94,[.data 22],[.cells 22 [true]],false⟩),
 (90,⟨164,[.data 22],[.clo 214 [(22,[false])]],true⟩),
 (91,⟨163,[.fn 214 [22]],[.cells 22 [true]],false⟩),
 (92,⟨212,[.fn 214 [22]],[.cells 22 [true]],false⟩),
 (93,⟨213,[.arr 22],[],false⟩),
 (94,⟨162,[.own 22],[.cells 22 [true]],false⟩),
 (95,⟨38,[.data 22,.data 22],[.whole 4],false⟩),
 (96,⟨47,[.data 26,.data 33,.data 22],[.whole 33],true⟩),
 (97,⟨100,[.data 26,.data 33,.data 22,.data 4],[.whole 33],true⟩),
 (98,⟨129,[.data 30],[.cells 33 [false,false,false,true,true]],true⟩),
 (99,⟨171,[.data 104,.data 39,.fnb 172 2,.box 132 [true],.box 4 [false]],[.whole 33,.whole 4],true⟩),
 (100,⟨172,[.data 9,.box 132 [true],.box 4 [false]],[.whole 4],false⟩),
 (101,⟨76,[.data 33,.data 9,.data 33],[.cells 33 [false,false,false,true,true]],true⟩),
 (102,⟨134,[.data 33,.data 9],[.cells 31 [true]],true⟩),
 (103,⟨191,[.own 31,.fn 192 [9]],[.cells 31 [true]],true⟩),
 (104,⟨223,[.data 31,.fn 192 [9]],[.whole 3],false⟩),
 (105,⟨192,[.data 70,.rd 9],[.whole 4],false⟩),
 (106,⟨173,[],[.cells 33 [false,false,false,true,true]],true⟩),
 (107,⟨35,[.data 33,.data 33],[.whole 4],false⟩),
 (108,⟨87,[.data 33,.data 33],[.whole 3],false⟩),
 (109,⟨158,[.data 4,.data 4],[.whole 3],false⟩),
 (110,⟨49,[.data 26,.data 33,.data 22],[.whole 33],true⟩),
 (111,⟨41,[.data 22,.data 22],[.cells 22 [true]],false⟩),
 (112,⟨97,[.data 151],[.cells 22 [true]],false⟩),
 (113,⟨168,[.own 22,.data 3],[.cells 22 [true]],false⟩),
 (114,⟨45,[.data 22,.data 22],[.cells 22 [true]],false⟩),
 (115,⟨99,[.data 22,.data 22,.data 4],[.cells 22 [true]],false⟩),
 (116,⟨169,[.own 22,.fnb 170 2,.box 132 [true],.box 4 [false]],[.cells 22 [true]],false⟩),
 (117,⟨218,[.data 22,.fnb 170 2,.box 132 [true],.box 4 [false]],[.whole 3],false⟩),
 (118,⟨170,[.data 9,.box 132 [true],.box 4 [false]],[.whole 4],false⟩),
 (119,⟨43,[.data 22,.data 22],[.cells 22 [true]],false⟩),
 (120,⟨40,[.data 26,.data 33],[.cells 22 [true]],false⟩),
 (121,⟨95,[.data 26,.data 33],[.whole 4],false⟩),
 (122,⟨18,[.data 26],[.whole 4],false⟩),
 (123,⟨61,[.data 26,.data 3],[.whole 4],false⟩),
 (124,⟨111,[.data 26],[.whole 4],false⟩),
 (125,⟨112,[.data 26],[.whole 4],false⟩),
 (126,⟨177,[.data 9],[.whole 4],false⟩),
 (127,⟨113,[.data 26,.data 3],[.whole 4],false⟩),
 (128,⟨69,[.data 26,.data 9],[.whole 64,.whole 4],true⟩),
 (129,⟨114,[.data 26,.data 3],[.whole 4],false⟩),
 (130,⟨139,[.data 9],[.whole 4],false⟩),
 (131,⟨31,[.data 33],[.whole 4],false⟩),
 (132,⟨79,[.data 33,.data 3],[.whole 4],false⟩),
 (133,⟨138,[.data 33],[.whole 4],false⟩),
 (134,⟨80,[.data 33],[.whole 3],false⟩),
 (135,⟨64,[.data 26,.data 33,.data 39],[.cells 36 [true]],false⟩),
 (136,⟨118,[.data 39,.data 50],[.cells 36 [true]],false⟩),
 (137,⟨166,[.data 39],[.whole 9,.whole 50],false⟩),
 (138,⟨68,[.data 39],[.whole 4],false⟩),
 (139,⟨130,[.data 74],[.whole 4],false⟩),
 (140,⟨188,[.data 9],[.whole 4],false⟩),
 (141,⟨204,[.data 5],[.whole 4],false⟩),
 (142,⟨189,[.data 9],[.whole 4],false⟩),
 (143,⟨216,[.data 3],[.whole 9],false⟩),
 (144,⟨217,[.data 9],[.whole 9],false⟩),
 (145,⟨119,[.data 26,.data 33,.data 39],[.cells 36 [true]],false⟩),
 (146,⟨154,[.data 26,.data 30,.data 3],[.whole 74],false⟩),
 (147,⟨151,[.data 33,.data 9],[.whole 9,.whole 4],false⟩),
 (148,⟨200,[.data 33,.data 9],[.cells 33 [false,false,false,true,true],.whole 4],true⟩),
 (149,⟨153,[.data 39,.data 74],[.cells 39 [true]],false⟩),
 (150,⟨120,[.data 26,.data 33,.data 39],[.cells 36 [true]],false⟩),
 (151,⟨155,[.data 33,.data 9],[.cells 33 [false,false,false,true,true],.whole 4],true⟩),
 (152,⟨96,[.data 26,.data 4,.data 33,.data 39],[.cells 22 [true]],false⟩),
 (153,⟨165,[.data 26,.data 4,.data 33],[.whole 4],false⟩),
 (154,⟨215,[.data 26,.data 33],[.whole 4],false⟩),
 (155,⟨167,[.data 26,.data 9],[.whole 26,.whole 4],true⟩),
 (156,⟨42,[.data 22,.data 22],[.cells 22 [true]],false⟩),
 (157,⟨98,[.data 22,.data 9],[.cells 22 [true]],false⟩),
 (158,⟨11,[.data 22,.data 22],[.whole 4],false⟩),
 (159,⟨44,[.data 22,.data 22],[.cells 22 [true]],false⟩),
 (160,⟨52,[.data 22,.data 9],[.whole 4],false⟩),
 (161,⟨46,[.data 22,.data 22],[.cells 22 [true]],false⟩),
 (162,⟨12,[.data 26,.data 33,.data 22],[.whole 4],false⟩),
 (163,⟨48,[.data 26,.data 33,.data 22],[.cells 33 [false,false,false,true,true]],true⟩),
 (164,⟨101,[.data 26,.data 33,.data 22,.data 4],[.cells 33 [false,false,false,true,true]],true⟩),
 (165,⟨174,[.data 26,.data 4,.data 33,.data 39,.data 22,.data 4],[.whole 33,.whole 4],true⟩),
 (166,⟨219,[.data 33,.data 9,.data 33],[.cells 33 [false,false,false,true,true]],true⟩),
 (167,⟨239,[.data 33,.data 9],[.cells 31 [true]],true⟩),
 (168,⟨50,[.data 26,.data 33,.data 22],[.cells 33 [false,false,false,true,true]],true⟩),
 (169,⟨13,[.data 26,.data 33,.data 22],[.whole 4],false⟩),
 (170,⟨51,[.data 33,.data 9],[.whole 33,.whole 4],true⟩),
 (171,⟨34,[.data 9],[.cells 39 [true],.whole 50],false⟩),
 (172,⟨86,[.data 9,.data 3],[.whole 96],false⟩),
 (173,⟨156,[.data 9,.data 3],[.whole 96],false⟩),
 (174,⟨157,[.data 9,.data 3],[.whole 3],false⟩),
 (175,⟨201,[.data 9],[.whole 3],false⟩),
 (176,⟨202,[.data 9],[.whole 4],false⟩),
 (177,⟨203,[.data 9,.data 3],[.whole 9,.whole 3,.whole 4],false⟩),
 (178,⟨26,[.data 33,.data 39],[.whole 33,.whole 4],true⟩),
 (179,⟨70,[.data 33,.data 74],[.whole 3],false⟩),
 (180,⟨131,[.data 33,.data 9],[.whole 3],false⟩),
 (181,⟨132,[.data 33,.data 9,.data 9],[.whole 4],false⟩),
 (182,⟨14,[.data 26,.data 33,.data 22],[.whole 4],false⟩)]
def b2:List Blk:= [
 ⟨[(0,0,[false,false,true,false,true,true,true]),(2,0,[false,false,true,false,true,true,true]),(1,0,[]),(0,0,[true,true,true,true])],⟨3,1,[(1,⟨[],.one (.leaf (.at (.v 0) 3))⟩),(2,⟨[],.one (.leaf (.ptr (.p 0 0)))⟩),(5,⟨[],.one (.leaf (.at (.v 1) 3))⟩)],[(0,.box 26 (.leaf (.at (.v 2) 26)))]⟩⟩,
 ⟨[(0,0,[false,false,true,false,true,true,true,true]),(2,0,[false,false,true,false,true,true,true,true]),(1,2,[]),(0,0,[true,true,true,true,true])],⟨3,1,[(1,⟨[],.one (.leaf (.at (.v 0) 3))⟩),(2,⟨[],.one (.leaf (.ptr (.p 0 0)))⟩),(6,⟨[],.one (.leaf (.at (.v 1) 3))⟩)],[(0,.box 26 (.leaf (.at (.v 2) 26)))]⟩⟩,
 ⟨[(0,0,[false,false,true,false,false,false,true,false,false,true,false,true,true,true,true]),(2,0,[false,false,true,false,false,false,true,false,false,true,false,true,true,true,true]),(1,4,[]),(0,0,[true,false,false,true,false,false,true,false,true,true,true,true]),(1,3,[]),(0,0,[true,true,false,false,true,false,true,true,true,true]),(2,0,[false,false,true,false,true,true,true,true]),(1,2,[]),(0,0,[true,true,true,true,true])],⟨4,1,[(1,⟨[],.one (.leaf (.at (.v 0) 3))⟩),(2,⟨[],.one (.leaf (.ptr (.p 0 0)))⟩),(6,⟨[],.one (.leaf (.at (.v 1) 3))⟩),(7,⟨[],.one (.leaf (.at (.v 2) 3))⟩)],[(0,.box 26 (.leaf (.at (.v 3) 26)))]⟩⟩]
def b4:List Blk:= [
 ⟨[(0,0,[false,false,true,false,true,true,true]),(2,0,[false,false,true,false,true,true,true]),(1,0,[]),(0,0,[true,true,true,true])],⟨4,1,[(1,⟨[],.one (.leaf (.at (.v 0) 3))⟩),(2,⟨[],.one (.leaf (.at (.v 1) 3))⟩),(3,⟨[],.one (.leaf (.ptr (.p 0 0)))⟩),(7,⟨[],.one (.leaf (.at (.v 2) 3))⟩)],[(0,.box 33 (.leaf (.at (.v 3) 33)))]⟩⟩,
 ⟨[(0,0,[false,false,true,false,true,true,true,true]),(2,0,[false,false,true,false,true,true,true,true]),(1,2,[]),(0,0,[true,true,true,true,true])],⟨4,1,[(1,⟨[],.one (.leaf (.at (.v 0) 3))⟩),(2,⟨[],.one (.leaf (.at (.v 1) 3))⟩),(3,⟨[],.one (.leaf (.ptr (.p 0 0)))⟩),(8,⟨[],.one (.leaf (.at (.v 2) 3))⟩)],[(0,.box 33 (.leaf (.at (.v 3) 33)))]⟩⟩]
def b8:List Blk:= [
 ⟨[(0,0,[false,false,true,false,true,true]),(2,0,[false,false,true,false,true,true]),(1,0,[]),(0,0,[true,true,true])],⟨9,3,[(0,⟨[],.one (.leaf (.at (.v 0) 31))⟩),(2,⟨[],.one (.leaf (.ptr (.p 0 0)))⟩),(3,⟨[],.one (.leaf (.ptr (.p 1 0)))⟩),(4,⟨[],.one (.leaf (.at (.v 1) 3))⟩)],[(0,.box 33 (.agg 33 [.at (.v 2) 3,.at (.v 3) 3,.at (.v 4) 9,.nil 30,.nil 31])),(1,.box 33 (.agg 33 [.at (.v 5) 3,.at (.v 6) 3,.at (.v 7) 9,.nil 30,.ref 2 31])),(2,.arr 70 31 (.v 8))]⟩⟩]
def b9:List Blk:= [
 ⟨[(0,0,[false,false,true,false,true,true]),(2,0,[false,false,true,false,true,true]),(1,0,[]),(0,0,[true,true,true])],⟨9,4,[(1,⟨[],.one (.leaf (.ptr (.p 0 0)))⟩),(2,⟨[],.one (.leaf (.ptr (.p 1 0)))⟩),(3,⟨[],.one (.leaf (.ptr (.p 2 0)))⟩),(4,⟨[],.one (.leaf (.at (.v 0) 3))⟩)],[(0,.box 33 (.leaf (.at (.v 1) 33))),(1,.box 33 (.agg 33 [.at (.v 2) 3,.at (.v 3) 3,.at (.v 4) 9,.nil 30,.nil 31])),(2,.box 33 (.agg 33 [.at (.v 5) 3,.at (.v 6) 3,.at (.v 7) 9,.ref 3 30,.nil 31])),(3,.arr 33 30 (.v 8))]⟩⟩,
 ⟨[(0,0,[false,false,true,false,true,true,true]),(2,0,[false,false,true,false,true,true,true]),(1,2,[]),(0,0,[true,true,true,true])],⟨10,5,[(1,⟨[],.one (.leaf (.ptr (.p 0 0)))⟩),(2,⟨[],.one (.leaf (.ptr (.p 1 0)))⟩),(3,⟨[],.one (.leaf (.ptr (.p 2 0)))⟩),(5,⟨[],.one (.leaf (.at (.v 0) 3))⟩)],[(0,.box 33 (.leaf (.at (.v 1) 33))),(1,.box 33 (.agg 33 [.at (.v 2) 3,.at (.v 3) 3,.at (.v 4) 9,.nil 30,.nil 31])),(2,.box 33 (.agg 33 [.at (.v 5) 3,.at (.v 6) 3,.at (.v 7) 9,.ref 3 30,.ref 4 31])),(3,.arr 33 30 (.v 8)),(4,.arr 70 31 (.v 9))]⟩⟩]
def b10:List Blk:= [
 ⟨[(0,0,[false,false,true,false,true,true,true]),(2,0,[false,false,true,false,true,true,true]),(1,0,[]),(0,0,[true,true,true,true])],⟨5,2,[(0,⟨[],.one (.leaf (.at (.v 0) 31))⟩),(3,⟨[],.one (.leaf (.ptr (.p 0 0)))⟩),(5,⟨[],.one (.leaf (.ref 1 31))⟩),(6,⟨[],.one (.leaf (.at (.v 1) 4))⟩),(7,⟨[],.one (.leaf (.at (.v 2) 3))⟩)],[(0,.box 70 (.leaf (.at (.v 3) 70))),(1,.arr 70 31 (.v 4))]⟩⟩,
 ⟨[(0,0,[true,false,false,true,false,false,true,false,true,true,true]),(1,1,[]),(0,0,[true,true,false,false,true,false,true,true,true]),(2,0,[false,false,true,false,true,true,true]),(1,0,[]),(0,0,[true,true,true,true])],⟨5,2,[(0,⟨[],.one (.leaf (.at (.v 0) 31))⟩),(3,⟨[],.one (.leaf (.ptr (.p 0 0)))⟩),(5,⟨[],.one (.leaf (.ref 1 31))⟩),(6,⟨[],.one (.leaf (.at (.v 1) 4))⟩),(7,⟨[],.one (.leaf (.at (.v 2) 3))⟩)],[(0,.box 70 (.leaf (.at (.v 3) 70))),(1,.arr 70 31 (.v 4))]⟩⟩,
 ⟨[(1,1,[]),(0,0,[true,true,false,false,true,false,true,true,true]),(2,0,[false,false,true,false,true,true,true]),(1,0,[]),(0,0,[true,true,true,true])],⟨5,2,[(0,⟨[],.one (.leaf (.at (.v 0) 31))⟩),(3,⟨[],.one (.leaf (.ptr (.p 0 0)))⟩),(5,⟨[],.one (.leaf (.ref 1 31))⟩),(6,⟨[],.one (.leaf (.at (.v 1) 4))⟩),(7,⟨[],.one (.leaf (.at (.v 2) 3))⟩)],[(0,.box 70 (.leaf (.at (.v 3) 70))),(1,.arr 70 31 (.v 4))]⟩⟩]
def b17:List Blk:= [
 ⟨[(0,0,[false,false,true,false,true]),(2,0,[false,false,true,false,true]),(1,0,[]),(0,0,[true,true])],⟨4,1,[(1,⟨[],.one (.leaf (.ptr (.p 0 0)))⟩),(6,⟨[],.one (.leaf (.at (.v 0) 22))⟩),(7,⟨[],.one (.leaf (.at (.v 1) 3))⟩),(8,⟨[],.one (.leaf (.at (.v 2) 3))⟩)],[(0,.box 26 (.leaf (.at (.v 3) 26)))]⟩⟩]
def b20:List Blk:= [
 ⟨[(0,0,[false,false,true,false,true,true]),(2,0,[false,false,true,false,true,true]),(1,0,[]),(0,0,[true,true,true])],⟨5,1,[(1,⟨[],.one (.leaf (.at (.v 0) 3))⟩),(2,⟨[],.one (.leaf (.ptr (.p 0 0)))⟩),(51,⟨[],.one (.leaf (.at (.v 1) 30))⟩),(52,⟨[],.one (.leaf (.at (.v 2) 3))⟩),(53,⟨[],.one (.leaf (.at (.v 3) 3))⟩)],[(0,.box 33 (.leaf (.at (.v 4) 33)))]⟩⟩,
 ⟨[(0,0,[false,false,true,false,true,true,true]),(2,0,[false,false,true,false,true,true,true]),(1,2,[]),(0,0,[true,true,true,true])],⟨5,1,[(1,⟨[],.one (.leaf (.at (.v 0) 3))⟩),(2,⟨[],.one (.leaf (.ptr (.p 0 0)))⟩),(64,⟨[],.one (.leaf (.at (.v 1) 31))⟩),(65,⟨[],.one (.leaf (.at (.v 2) 3))⟩),(66,⟨[],.one (.leaf (.at (.v 3) 3))⟩)],[(0,.box 33 (.leaf (.at (.v 4) 33)))]⟩⟩]
def b21:List Blk:= [
 ⟨[(0,0,[true,true,true,true,true,true,true,false,true,false,true]),(1,0,[]),(0,0,[true,true])],⟨2,1,[(1,⟨[],.one (.leaf (.ptr (.p 0 0)))⟩),(45,⟨[],.one (.leaf (.at (.v 0) 4))⟩)],[(0,.box 33 (.leaf (.at (.v 1) 33)))]⟩⟩]
def b22:List Blk:= [
 ⟨[(0,0,[false,false,true,false,true]),(2,0,[false,false,true,false,true]),(1,0,[]),(0,0,[true,true])],⟨3,0,[(0,⟨[],.one (.leaf (.at (.v 0) 9))⟩),(5,⟨[],.one (.leaf (.at (.v 1) 3))⟩),(6,⟨[],.one (.leaf (.at (.v 2) 3))⟩)],[]⟩⟩]
def b23:List Blk:= [
 ⟨[(0,0,[false,false,true,false,true]),(2,0,[false,false,true,false,true]),(1,0,[]),(0,0,[true,true])],⟨3,0,[(0,⟨[],.one (.leaf (.at (.v 0) 9))⟩),(6,⟨[],.one (.leaf (.at (.v 1) 3))⟩),(7,⟨[],.one (.leaf (.at (.v 2) 3))⟩)],[]⟩⟩]
def b24:List Blk:= [
 ⟨[(0,0,[false,false,true,false,true,true]),(2,0,[false,false,true,false,true,true]),(1,0,[]),(0,0,[true,true,true])],⟨5,1,[(1,⟨[],.one (.leaf (.ptr (.p 0 0)))⟩),(3,⟨[],.one (.leaf (.at (.v 0) 3))⟩),(9,⟨[],.one (.leaf (.at (.v 1) 30))⟩),(10,⟨[],.one (.leaf (.at (.v 2) 3))⟩),(11,⟨[],.one (.leaf (.at (.v 3) 3))⟩)],[(0,.box 33 (.leaf (.at (.v 4) 33)))]⟩⟩,
 ⟨[(0,0,[false,false,true,false,true,true,true]),(2,0,[false,false,true,false,true,true,true]),(1,2,[]),(0,0,[true,true,true,true])],⟨4,0,[(3,⟨[],.one (.leaf (.at (.v 0) 3))⟩),(21,⟨[],.one (.leaf (.at (.v 1) 31))⟩),(22,⟨[],.one (.leaf (.at (.v 2) 3))⟩),(23,⟨[],.one (.leaf (.at (.v 3) 3))⟩)],[]⟩⟩]
def b27:List Blk:= [
 ⟨[(0,0,[false,false,true,false,true]),(2,0,[false,false,true,false,true]),(1,0,[]),(0,0,[true,true])],⟨4,0,[(0,⟨[],.one (.leaf (.at (.v 0) 24))⟩),(1,⟨[],.one (.leaf (.fn 186 [.im (.v 1) 9 0]))⟩),(7,⟨[],.one (.leaf (.at (.v 2) 3))⟩),(8,⟨[],.one (.leaf (.at (.v 3) 3))⟩)],[]⟩⟩]
def b31:List Blk:= [
 ⟨[(0,0,[false,false,true,false,true]),(2,0,[false,false,true,false,true]),(1,0,[]),(0,0,[true,true])],⟨4,0,[(0,⟨[],.one (.leaf (.at (.v 0) 23))⟩),(1,⟨[],.one (.leaf (.fn 109 [.im (.v 1) 3 0]))⟩),(7,⟨[],.one (.leaf (.at (.v 2) 3))⟩),(8,⟨[],.one (.leaf (.at (.v 3) 3))⟩)],[]⟩⟩]
def b33:List Blk:= [
 ⟨[(0,0,[false,false,true,false,true]),(2,0,[false,false,true,false,true]),(1,0,[]),(0,0,[true,true])],⟨5,1,[(1,⟨[],.one (.leaf (.at (.v 0) 3))⟩),(2,⟨[],.one (.leaf (.ptr (.p 0 0)))⟩),(11,⟨[],.one (.leaf (.at (.v 1) 24))⟩),(12,⟨[],.one (.leaf (.at (.v 2) 3))⟩),(13,⟨[],.one (.leaf (.at (.v 3) 3))⟩)],[(0,.box 26 (.leaf (.at (.v 4) 26)))]⟩⟩,
 ⟨[(0,0,[false,false,true,true,true,true,false,false,true,true,false,false,true,false,true]),(2,0,[false,false,true,true,true,true,false,false,true,true,false,false,true,false,true]),(1,2,[]),(1,1,[]),(0,0,[true,true,true,false,false,true,false,true]),(2,0,[false,false,true,false,true]),(1,0,[]),(0,0,[true,true])],⟨9,2,[(1,⟨[],.one (.leaf (.at (.v 0) 3))⟩),(2,⟨[],.one (.leaf (.ptr (.p 0 0)))⟩),(6,⟨[],.one (.leaf (.ptr (.p 1 0)))⟩),(11,⟨[],.one (.leaf (.at (.v 1) 24))⟩),(12,⟨[],.one (.leaf (.at (.v 2) 3))⟩),(13,⟨[],.one (.leaf (.at (.v 3) 3))⟩),(56,⟨[],.one (.leaf (.at (.v 4) 30))⟩),(57,⟨[],.one (.leaf (.at (.v 5) 3))⟩),(58,⟨[],.one (.leaf (.at (.v 6) 3))⟩)],[(0,.box 26 (.leaf (.at (.v 7) 26))),(1,.box 64 (.leaf (.at (.v 8) 64)))]⟩⟩]
def b34:List Blk:= [
 ⟨[(0,0,[false,false,true,false,true,true,true,true]),(2,0,[false,false,true,false,true,true,true,true]),(1,0,[]),(0,0,[true,true,true,true,true])],⟨10,4,[(2,⟨[],.one (.leaf (.ptr (.p 0 0)))⟩),(3,⟨[],.one (.leaf (.ref 1 31))⟩),(4,⟨[],.one (.leaf (.ptr (.p 2 0)))⟩),(12,⟨[],.one (.leaf (.ref 1 31))⟩),(13,⟨[],.one (.leaf (.at (.v 0) 3))⟩),(14,⟨[],.one (.leaf (.at (.v 1) 3))⟩)],[(0,.box 33 (.agg 33 [.at (.v 2) 3,.at (.v 3) 3,.at (.v 4) 9,.nil 30,.nil 31])),(1,.arr 70 31 (.v 5)),(2,.box 33 (.agg 33 [.at (.v 6) 3,.at (.v 7) 3,.at (.v 8) 9,.nil 30,.ref 3 31])),(3,.arr 70 31 (.v 9))]⟩⟩,
 ⟨[(1,1,[]),(0,0,[true,true,true,false,false,true,false,true,true,true,true]),(2,0,[false,false,true,false,true,true,true,true]),(1,0,[]),(0,0,[true,true,true,true,true])],⟨10,4,[(2,⟨[],.one (.leaf (.ptr (.p 0 0)))⟩),(3,⟨[],.one (.leaf (.ref 1 31))⟩),(4,⟨[],.one (.leaf (.ptr (.p 2 0)))⟩),(12,⟨[],.one (.leaf (.ref 1 31))⟩),(13,⟨[],.one (.leaf (.at (.v 0) 3))⟩),(14,⟨[],.one (.leaf (.at (.v 1) 3))⟩)],[(0,.box 33 (.agg 33 [.at (.v 2) 3,.at (.v 3) 3,.at (.v 4) 9,.nil 30,.nil 31])),(1,.arr 70 31 (.v 5)),(2,.box 33 (.agg 33 [.at (.v 6) 3,.at (.v 7) 3,.at (.v 8) 9,.nil 30,.ref 3 31])),(3,.arr 70 31 (.v 9))]⟩⟩]
def b37:List Blk:= [
 ⟨[(0,0,[false,false,false,true,true]),(2,0,[false,false,false,true,true]),(1,0,[]),(0,0,[true,true,true])],⟨5,1,[(0,⟨[],.one (.leaf (.ref 0 31))⟩),(1,⟨[],.one (.leaf (.at (.v 0) 3))⟩),(2,⟨[],.one (.leaf (.fn 137 []))⟩),(6,⟨[],.one (.leaf (.at (.v 1) 3))⟩),(7,⟨[],.one (.leaf (.at (.v 2) 3))⟩),(8,⟨[],.one (.leaf (.at (.v 3) 3))⟩)],[(0,.arr 70 31 (.v 4))]⟩⟩,
 ⟨[(0,0,[false,false,true,true,true,true]),(2,0,[false,false,true,true,true,true]),(1,2,[])],⟨3,1,[(0,⟨[],.one (.leaf (.ref 0 31))⟩),(1,⟨[],.one (.leaf (.at (.v 0) 3))⟩),(2,⟨[],.one (.leaf (.fn 137 []))⟩),(6,⟨[],.one (.leaf (.at (.v 1) 3))⟩)],[(0,.arr 70 31 (.v 2))]⟩⟩,
 ⟨[(0,0,[false,false,false,true,false,true,false,false,true,true,true,true]),(2,0,[false,false,false,true,false,true,false,false,true,true,true,true]),(1,4,[]),(0,0,[true,true,false,true,false,false,true,true,true,true]),(1,3,[]),(2,0,[false,false,true,true,true,true]),(1,2,[])],⟨5,1,[(0,⟨[],.one (.leaf (.ref 0 31))⟩),(1,⟨[],.one (.leaf (.at (.v 0) 3))⟩),(2,⟨[],.one (.leaf (.fn 137 []))⟩),(6,⟨[],.one (.leaf (.at (.v 1) 3))⟩),(7,⟨[],.one (.leaf (.at (.v 2) 3))⟩),(8,⟨[],.one (.leaf (.at (.v 3) 3))⟩)],[(0,.arr 70 31 (.v 4))]⟩⟩,
 ⟨[(0,0,[true,true,true,false,true,false,false,true,true,true,true]),(1,3,[]),(2,0,[false,false,true,true,true,true]),(1,2,[])],⟨3,1,[(0,⟨[],.one (.leaf (.ref 0 31))⟩),(1,⟨[],.one (.leaf (.at (.v 0) 3))⟩),(2,⟨[],.one (.leaf (.fn 137 []))⟩),(6,⟨[],.one (.leaf (.at (.v 1) 3))⟩)],[(0,.arr 70 31 (.v 2))]⟩⟩]
def b38:List Blk:= [
 ⟨[(0,0,[false,false,true]),(2,0,[false,false,true]),(1,0,[])],⟨4,1,[(0,⟨[],.one (.leaf (.ref 0 31))⟩),(1,⟨[],.one (.leaf (.at (.v 0) 3))⟩),(2,⟨[],.one (.leaf (.at (.v 1) 3))⟩),(3,⟨[],.one (.leaf (.fn 137 []))⟩),(8,⟨[],.one (.leaf (.at (.v 2) 3))⟩)],[(0,.arr 70 31 (.v 3))]⟩⟩,
 ⟨[(0,0,[false,false,true,false,false,true,false,false,true]),(2,0,[false,false,true,false,false,true,false,false,true]),(1,2,[]),(1,1,[]),(0,0,[true,true,false,false,true]),(2,0,[false,false,true]),(1,0,[])],⟨5,1,[(0,⟨[],.one (.leaf (.ref 0 31))⟩),(1,⟨[],.one (.leaf (.at (.v 0) 3))⟩),(2,⟨[],.one (.leaf (.at (.v 1) 3))⟩),(3,⟨[],.one (.leaf (.fn 137 []))⟩),(8,⟨[],.one (.leaf (.at (.v 2) 3))⟩),(9,⟨[],.one (.leaf (.at (.v 3) 3))⟩)],[(0,.arr 70 31 (.v 4))]⟩⟩]
def b43:List Blk:= [
 ⟨[(0,0,[false,false,false,true,true,false,true,false]),(2,0,[false,false,false,true,true,false,true,false]),(1,0,[]),(0,0,[true,true,true,false,true,false]),(0,0,[true])],⟨4,1,[(0,⟨[],.one (.leaf (.ref 0 31))⟩),(1,⟨[],.one (.leaf (.at (.v 0) 3))⟩),(4,⟨[],.one (.leaf (.fn 137 []))⟩),(10,⟨[],.one (.leaf (.at (.v 1) 3))⟩),(11,⟨[],.one (.leaf (.at (.v 2) 3))⟩)],[(0,.arr 70 31 (.v 3))]⟩⟩,
 ⟨[(0,0,[false,false,false,true,true,false,true,false,true]),(2,0,[false,false,false,true,true,false,true,false,true]),(1,4,[]),(0,0,[true,true,true,false,true,false,true]),(0,0,[true,true])],⟨4,1,[(0,⟨[],.one (.leaf (.ref 0 31))⟩),(2,⟨[],.one (.leaf (.at (.v 0) 3))⟩),(4,⟨[],.one (.leaf (.fn 137 []))⟩),(14,⟨[],.one (.leaf (.at (.v 1) 3))⟩),(15,⟨[],.one (.leaf (.at (.v 2) 3))⟩)],[(0,.arr 70 31 (.v 3))]⟩⟩,
 ⟨[(0,0,[true,true,true,true,true,true])],⟨8,1,[(0,⟨[],.one (.leaf (.ref 0 31))⟩),(1,⟨[],.one (.leaf (.at (.v 0) 3))⟩),(2,⟨[],.one (.leaf (.at (.v 1) 3))⟩),(3,⟨[],.one (.leaf (.at (.v 2) 3))⟩),(4,⟨[],.one (.leaf (.fn 137 []))⟩),(18,⟨[],.one (.leaf (.at (.v 3) 3))⟩),(19,⟨[],.one (.leaf (.at (.v 4) 3))⟩),(20,⟨[],.one (.leaf (.at (.v 5) 3))⟩),(21,⟨[],.one (.leaf (.at (.v 6) 3))⟩)],[(0,.arr 70 31 (.v 7))]⟩⟩,
 ⟨[(1,1,[]),(2,0,[false,false,false,true,true,false,true,false]),(1,0,[]),(0,0,[true,true,true,false,true,false]),(0,0,[true])],⟨4,1,[(0,⟨[],.one (.leaf (.ref 0 31))⟩),(1,⟨[],.one (.leaf (.at (.v 0) 3))⟩),(4,⟨[],.one (.leaf (.fn 137 []))⟩),(10,⟨[],.one (.leaf (.at (.v 1) 3))⟩),(11,⟨[],.one (.leaf (.at (.v 2) 3))⟩)],[(0,.arr 70 31 (.v 3))]⟩⟩,
 ⟨[(0,0,[false,false,true,false,true,true,true,false,true,false]),(2,0,[false,false,true,false,true,true,true,false,true,false]),(1,2,[]),(0,0,[true,true,true,true,false,true,false]),(0,0,[true])],⟨3,1,[(0,⟨[],.one (.leaf (.ref 0 31))⟩),(10,⟨[],.one (.leaf (.at (.v 0) 3))⟩),(13,⟨[],.one (.leaf (.at (.v 1) 3))⟩)],[(0,.arr 70 31 (.v 2))]⟩⟩,
 ⟨[(1,5,[]),(2,0,[false,false,false,true,true,false,true,false,true]),(1,4,[]),(0,0,[true,true,true,false,true,false,true]),(0,0,[true,true])],⟨4,1,[(0,⟨[],.one (.leaf (.ref 0 31))⟩),(2,⟨[],.one (.leaf (.at (.v 0) 3))⟩),(4,⟨[],.one (.leaf (.fn 137 []))⟩),(14,⟨[],.one (.leaf (.at (.v 1) 3))⟩),(15,⟨[],.one (.leaf (.at (.v 2) 3))⟩)],[(0,.arr 70 31 (.v 3))]⟩⟩,
 ⟨[(0,0,[false,false,true,false,true,true,true,false,true,false,true]),(2,0,[false,false,true,false,true,true,true,false,true,false,true]),(1,6,[]),(0,0,[true,true,true,true,false,true,false,true]),(0,0,[true,true])],⟨3,1,[(0,⟨[],.one (.leaf (.ref 0 31))⟩),(14,⟨[],.one (.leaf (.at (.v 0) 3))⟩),(17,⟨[],.one (.leaf (.at (.v 1) 3))⟩)],[(0,.arr 70 31 (.v 2))]⟩⟩,
 ⟨[(0,0,[false,false,false,true,true,true,true,true,true,true]),(2,0,[false,false,false,true,true,true,true,true,true,true]),(1,8,[]),(0,0,[true,true,true,true,true,true,true,true])],⟨9,1,[(0,⟨[],.one (.leaf (.ref 0 31))⟩),(1,⟨[],.one (.leaf (.at (.v 0) 3))⟩),(2,⟨[],.one (.leaf (.at (.v 1) 3))⟩),(3,⟨[],.one (.leaf (.at (.v 2) 3))⟩),(4,⟨[],.one (.leaf (.fn 137 []))⟩),(18,⟨[],.one (.leaf (.at (.v 3) 3))⟩),(19,⟨[],.one (.leaf (.at (.v 4) 3))⟩),(20,⟨[],.one (.leaf (.at (.v 5) 3))⟩),(21,⟨[],.one (.leaf (.at (.v 6) 3))⟩),(22,⟨[],.one (.leaf (.at (.v 7) 3))⟩)],[(0,.arr 70 31 (.v 8))]⟩⟩,
 ⟨[(1,9,[]),(2,0,[false,false,false,true,true,true,true,true,true,true]),(1,8,[]),(0,0,[true,true,true,true,true,true,true,true])],⟨9,1,[(0,⟨[],.one (.leaf (.ref 0 31))⟩),(1,⟨[],.one (.leaf (.at (.v 0) 3))⟩),(2,⟨[],.one (.leaf (.at (.v 1) 3))⟩),(3,⟨[],.one (.leaf (.at (.v 2) 3))⟩),(4,⟨[],.one (.leaf (.fn 137 []))⟩),(18,⟨[],.one (.leaf (.at (.v 3) 3))⟩),(19,⟨[],.one (.leaf (.at (.v 4) 3))⟩),(20,⟨[],.one (.leaf (.at (.v 5) 3))⟩),(21,⟨[],.one (.leaf (.at (.v 6) 3))⟩),(22,⟨[],.one (.leaf (.at (.v 7) 3))⟩)],[(0,.arr 70 31 (.v 8))]⟩⟩,
 ⟨[(0,0,[true,true,true,true,true,true,true,true,true,true])],⟨6,1,[(0,⟨[],.one (.leaf (.ref 0 31))⟩),(1,⟨[],.one (.leaf (.at (.v 0) 3))⟩),(3,⟨[],.one (.leaf (.at (.v 1) 3))⟩),(4,⟨[],.one (.leaf (.fn 137 []))⟩),(18,⟨[],.one (.leaf (.at (.v 2) 3))⟩),(20,⟨[],.one (.leaf (.at (.v 3) 3))⟩),(24,⟨[],.one (.leaf (.at (.v 4) 3))⟩)],[(0,.arr 70 31 (.v 5))]⟩⟩,
 ⟨[(0,0,[true,true,true,true,true,true,true,true,true,true,true])],⟨4,1,[(0,⟨[],.one (.leaf (.ref 0 31))⟩),(3,⟨[],.one (.leaf (.at (.v 0) 3))⟩),(4,⟨[],.one (.leaf (.fn 137 []))⟩),(18,⟨[],.one (.leaf (.at (.v 1) 3))⟩),(24,⟨[],.one (.leaf (.at (.v 2) 3))⟩)],[(0,.arr 70 31 (.v 3))]⟩⟩]
def b44:List Blk:= [
 ⟨[(0,0,[false,false,false,true,true]),(2,0,[false,false,false,true,true]),(1,0,[]),(0,0,[true,true,true])],⟨4,1,[(0,⟨[],.one (.leaf (.ref 0 31))⟩),(2,⟨[],.one (.leaf (.at (.v 0) 3))⟩),(4,⟨[],.one (.leaf (.fn 137 []))⟩),(10,⟨[],.one (.leaf (.at (.v 1) 3))⟩),(11,⟨[],.one (.leaf (.at (.v 2) 3))⟩)],[(0,.arr 70 31 (.v 3))]⟩⟩,
 ⟨[(1,1,[]),(2,0,[false,false,false,true,true]),(1,0,[]),(0,0,[true,true,true])],⟨4,1,[(0,⟨[],.one (.leaf (.ref 0 31))⟩),(2,⟨[],.one (.leaf (.at (.v 0) 3))⟩),(4,⟨[],.one (.leaf (.fn 137 []))⟩),(10,⟨[],.one (.leaf (.at (.v 1) 3))⟩),(11,⟨[],.one (.leaf (.at (.v 2) 3))⟩)],[(0,.arr 70 31 (.v 3))]⟩⟩]
def b45:List Blk:= [
 ⟨[(0,0,[false,false,true]),(2,0,[false,false,true]),(1,0,[])],⟨5,1,[(0,⟨[],.one (.leaf (.ref 0 31))⟩),(1,⟨[],.one (.leaf (.at (.v 0) 3))⟩),(2,⟨[],.one (.leaf (.at (.v 1) 3))⟩),(3,⟨[],.one (.leaf (.at (.v 2) 3))⟩),(10,⟨[],.one (.leaf (.at (.v 3) 3))⟩)],[(0,.arr 70 31 (.v 4))]⟩⟩]
def b46:List Blk:= [
 ⟨[(0,0,[false,false,true,false,true,true]),(2,0,[false,false,true,false,true,true]),(1,0,[]),(0,0,[true,true,true])],⟨10,3,[(1,⟨[],.one (.leaf (.ptr (.p 0 0)))⟩),(2,⟨[],.one (.leaf (.ptr (.p 1 0)))⟩),(12,⟨[],.one (.leaf (.ref 2 30))⟩),(13,⟨[],.one (.leaf (.at (.v 0) 3))⟩),(14,⟨[],.one (.leaf (.at (.v 1) 3))⟩)],[(0,.box 33 (.agg 33 [.at (.v 2) 3,.at (.v 3) 3,.at (.v 4) 9,.ref 2 30,.at (.v 5) 31])),(1,.box 33 (.agg 33 [.at (.v 6) 3,.at (.v 7) 3,.at (.v 8) 9,.nil 30,.nil 31])),(2,.arr 33 30 (.v 9))]⟩⟩,
 ⟨[(0,0,[false,false,true,false,true,true,true,true]),(2,0,[false,false,true,false,true,true,true,true]),(1,2,[]),(0,0,[true,true,true,true,true])],⟨10,4,[(1,⟨[],.one (.leaf (.ptr (.p 0 0)))⟩),(2,⟨[],.one (.leaf (.ptr (.p 1 0)))⟩),(31,⟨[],.one (.leaf (.ref 2 31))⟩),(32,⟨[],.one (.leaf (.at (.v 0) 3))⟩),(33,⟨[],.one (.leaf (.at (.v 1) 3))⟩)],[(0,.box 33 (.agg 33 [.at (.v 2) 3,.at (.v 3) 3,.at (.v 4) 9,.ref 3 30,.ref 2 31])),(1,.box 33 (.agg 33 [.at (.v 5) 3,.at (.v 6) 3,.at (.v 7) 9,.nil 30,.nil 31])),(2,.arr 70 31 (.v 8)),(3,.arr 33 30 (.v 9))]⟩⟩]
def b49:List Blk:= [
 ⟨[(0,0,[false,false,true,false,true,true,true,true,true,true,true,true,true,false,true]),(2,0,[false,false,true,false,true,true,true,true,true,true,true,true,true,false,true]),(1,1,[]),(1,0,[])],⟨6,4,[(0,⟨[],.one (.leaf (.ptr (.p 1 0)))⟩),(3,⟨[],.one (.leaf (.at (.v 0) 39))⟩),(5,⟨[],.one (.leaf (.ptr (.p 2 0)))⟩),(87,⟨[],.one (.leaf (.at (.v 1) 31))⟩),(88,⟨[],.one (.leaf (.at (.v 2) 3))⟩),(89,⟨[],.one (.leaf (.at (.v 3) 3))⟩)],[(1,.box 89 (.agg 89 [.ref 3 36])),(2,.box 26 (.leaf (.at (.v 4) 26))),(3,.arr 54 36 (.v 5))]⟩⟩,
 ⟨[(1,2,[]),(0,0,[true,true,true,false,false,true,false,true,true,true,true,true,true,true,true,true,false,true]),(2,0,[false,false,true,false,true,true,true,true,true,true,true,true,true,false,true]),(1,1,[]),(1,0,[])],⟨6,4,[(0,⟨[],.one (.leaf (.ptr (.p 1 0)))⟩),(3,⟨[],.one (.leaf (.at (.v 0) 39))⟩),(5,⟨[],.one (.leaf (.ptr (.p 2 0)))⟩),(87,⟨[],.one (.leaf (.at (.v 1) 31))⟩),(88,⟨[],.one (.leaf (.at (.v 2) 3))⟩),(89,⟨[],.one (.leaf (.at (.v 3) 3))⟩)],[(1,.box 89 (.agg 89 [.ref 3 36])),(2,.box 26 (.leaf (.at (.v 4) 26))),(3,.arr 54 36 (.v 5))]⟩⟩]
def b51:List Blk:= [
 ⟨[(0,0,[false,false,true,false,true,true,true]),(2,0,[false,false,true,false,true,true,true]),(1,0,[]),(0,0,[true,true,true,true])],⟨4,2,[(4,⟨[],.one (.leaf (.ptr (.p 0 0)))⟩),(10,⟨[],.one (.leaf (.at (.v 0) 39))⟩),(11,⟨[],.one (.leaf (.at (.v 1) 3))⟩),(12,⟨[],.one (.leaf (.at (.v 2) 3))⟩)],[(0,.box 176 (.agg 176 [.hid 0,.ref 1 174])),(1,.arr 5 174 (.v 3))]⟩⟩,
 ⟨[(0,0,[true,false,true,false,true,true,false,false,true,true,false,false,true,false,true,true,true]),(1,2,[]),(1,1,[]),(0,0,[true,true,true,false,false,true,false,true,true,true]),(2,0,[false,false,true,false,true,true,true]),(1,0,[]),(0,0,[true,true,true,true])],⟨5,3,[(4,⟨[],.one (.leaf (.ptr (.p 0 0)))⟩),(6,⟨[],.one (.leaf (.ptr (.p 1 0)))⟩),(10,⟨[],.one (.leaf (.at (.v 0) 39))⟩),(11,⟨[],.one (.leaf (.at (.v 1) 3))⟩),(12,⟨[],.one (.leaf (.at (.v 2) 3))⟩)],[(0,.box 176 (.agg 176 [.hid 0,.ref 2 174])),(1,.box 74 (.leaf (.at (.v 3) 74))),(2,.arr 5 174 (.v 4))]⟩⟩,
 ⟨[(1,2,[]),(1,1,[]),(0,0,[true,true,true,false,false,true,false,true,true,true]),(2,0,[false,false,true,false,true,true,true]),(1,0,[]),(0,0,[true,true,true,true])],⟨4,2,[(4,⟨[],.one (.leaf (.ptr (.p 0 0)))⟩),(10,⟨[],.one (.leaf (.at (.v 0) 39))⟩),(11,⟨[],.one (.leaf (.at (.v 1) 3))⟩),(12,⟨[],.one (.leaf (.at (.v 2) 3))⟩)],[(0,.box 176 (.agg 176 [.hid 0,.ref 1 174])),(1,.arr 5 174 (.v 3))]⟩⟩]
def b54:List Blk:= [
 ⟨[(0,0,[false,false,true,false,true]),(2,0,[false,false,true,false,true]),(1,0,[]),(0,0,[true,true])],⟨3,0,[(0,⟨[],.one (.leaf (.at (.v 0) 39))⟩),(1,⟨[],.one (.leaf (.fn 122 []))⟩),(7,⟨[],.one (.leaf (.at (.v 1) 3))⟩),(8,⟨[],.one (.leaf (.at (.v 2) 3))⟩)],[]⟩⟩]
def b57:List Blk:= [
 ⟨[(0,0,[false,false,true,false,true]),(2,0,[false,false,true,false,true]),(1,0,[]),(0,0,[true,true])],⟨3,1,[(0,⟨[],.one (.leaf (.at (.v 0) 9))⟩),(6,⟨[],.one (.leaf (.ptr (.p 0 0)))⟩)],[(0,.iter (.v 1) (.v 2))]⟩⟩]
def b63:List Blk:= [
 ⟨[(0,0,[false,false,true,false,true,true,true]),(2,0,[false,false,true,false,true,true,true]),(1,0,[]),(0,0,[true,true,true,true])],⟨3,3,[(3,⟨[],.one (.leaf (.ptr (.p 0 0)))⟩),(8,⟨[],.one (.leaf (.ptr (.p 1 0)))⟩)],[(0,.box 176 (.agg 176 [.hid 0,.ref 2 174])),(1,.iter (.v 0) (.v 1)),(2,.arr 5 174 (.v 2))]⟩⟩,
 ⟨[(0,0,[true,false,true,true,false,true,true,false,false,true,false,true,true,true]),(1,2,[]),(1,1,[]),(2,0,[false,false,true,false,true,true,true]),(1,0,[]),(0,0,[true,true,true,true])],⟨6,3,[(3,⟨[],.one (.leaf (.ptr (.p 0 0)))⟩),(5,⟨[],.one (.leaf (.at (.v 0) 21))⟩),(8,⟨[],.one (.leaf (.ptr (.p 1 0)))⟩),(12,⟨[],.one (.leaf (.at (.v 1) 21))⟩),(15,⟨[],.one (.leaf (.at (.v 2) 4))⟩)],[(0,.box 176 (.agg 176 [.hid 0,.ref 2 174])),(1,.iter (.v 3) (.v 4)),(2,.arr 5 174 (.v 5))]⟩⟩,
 ⟨[(1,2,[]),(1,1,[]),(2,0,[false,false,true,false,true,true,true]),(1,0,[]),(0,0,[true,true,true,true])],⟨3,3,[(3,⟨[],.one (.leaf (.ptr (.p 0 0)))⟩),(8,⟨[],.one (.leaf (.ptr (.p 1 0)))⟩)],[(0,.box 176 (.agg 176 [.hid 0,.ref 2 174])),(1,.iter (.v 0) (.v 1)),(2,.arr 5 174 (.v 2))]⟩⟩]
def b69:List Blk:= [
 ⟨[(0,0,[false,false,true,false,true]),(2,0,[false,false,true,false,true]),(1,0,[]),(0,0,[true,true])],⟨4,0,[(0,⟨[],.one (.leaf (.at (.v 0) 22))⟩),(1,⟨[],.one (.leaf (.at (.v 1) 9))⟩),(7,⟨[],.one (.leaf (.at (.v 2) 3))⟩),(8,⟨[],.one (.leaf (.at (.v 3) 3))⟩)],[]⟩⟩]
def b70:List Blk:= [
 ⟨[(0,0,[true,true])],⟨4,5,[(0,⟨[],.one (.leaf (.ptr (.p 1 0)))⟩),(3,⟨[],.one (.leaf (.at (.v 0) 39))⟩),(5,⟨[],.one (.leaf (.ptr (.p 2 0)))⟩),(6,⟨[],.one (.leaf (.ptr (.p 3 0)))⟩)],[(1,.box 89 (.agg 89 [.ref 4 36])),(2,.box 26 (.leaf (.at (.v 1) 26))),(3,.box 33 (.leaf (.at (.v 2) 33))),(4,.arr 54 36 (.v 3))]⟩⟩,
 ⟨[(0,0,[false,false,true,true,true,true]),(2,0,[false,false,true,true,true,true]),(1,0,[])],⟨7,5,[(0,⟨[],.one (.leaf (.ptr (.p 1 0)))⟩),(3,⟨[],.one (.leaf (.at (.v 0) 39))⟩),(5,⟨[],.one (.leaf (.ptr (.p 2 0)))⟩),(8,⟨[],.one (.leaf (.mref 3 132))⟩),(33,⟨[],.one (.leaf (.at (.v 1) 30))⟩),(34,⟨[],.one (.leaf (.at (.v 2) 3))⟩),(35,⟨[],.one (.leaf (.at (.v 3) 3))⟩)],[(1,.box 89 (.agg 89 [.ref 4 36])),(2,.box 26 (.leaf (.at (.v 4) 26))),(3,.mp 132 9 4 (.v 5)),(4,.arr 54 36 (.v 6))]⟩⟩,
 ⟨[(0,0,[true,false,true,true,true,true,true,false,false,true,true,false,false,true,true,true,true]),(1,1,[]),(0,0,[true,true,true,false,false,true,true,true,true]),(2,0,[false,false,true,true,true,true]),(1,0,[])],⟨8,5,[(0,⟨[],.one (.leaf (.ptr (.p 1 0)))⟩),(3,⟨[],.one (.leaf (.at (.v 0) 39))⟩),(5,⟨[],.one (.leaf (.ptr (.p 2 0)))⟩),(8,⟨[],.one (.leaf (.mref 3 132))⟩),(12,⟨[],.one (.leaf (.at (.v 1) 9))⟩),(33,⟨[],.one (.leaf (.at (.v 2) 30))⟩),(34,⟨[],.one (.leaf (.at (.v 3) 3))⟩),(35,⟨[],.one (.leaf (.at (.v 4) 3))⟩)],[(1,.box 89 (.agg 89 [.ref 4 36])),(2,.box 26 (.leaf (.at (.v 5) 26))),(3,.mp 132 9 4 (.v 6)),(4,.arr 54 36 (.v 7))]⟩⟩,
 ⟨[(1,1,[]),(0,0,[true,true,true,false,false,true,true,true,true]),(2,0,[false,false,true,true,true,true]),(1,0,[])],⟨7,5,[(0,⟨[],.one (.leaf (.ptr (.p 1 0)))⟩),(3,⟨[],.one (.leaf (.at (.v 0) 39))⟩),(5,⟨[],.one (.leaf (.ptr (.p 2 0)))⟩),(8,⟨[],.one (.leaf (.mref 3 132))⟩),(33,⟨[],.one (.leaf (.at (.v 1) 30))⟩),(34,⟨[],.one (.leaf (.at (.v 2) 3))⟩),(35,⟨[],.one (.leaf (.at (.v 3) 3))⟩)],[(1,.box 89 (.agg 89 [.ref 4 36])),(2,.box 26 (.leaf (.at (.v 4) 26))),(3,.mp 132 9 4 (.v 5)),(4,.arr 54 36 (.v 6))]⟩⟩]
def b73:List Blk:= [
 ⟨[(0,0,[false,false,true,false,true,false,true]),(2,0,[false,false,true,false,true,false,true]),(1,0,[]),(0,0,[true,true])],⟨7,1,[(1,⟨[],.one (.leaf (.at (.v 0) 9))⟩),(4,⟨[],.one (.leaf (.ptr (.p 0 0)))⟩),(12,⟨[],.one (.leaf (.at (.v 1) 31))⟩),(13,⟨[],.one (.leaf (.at (.v 2) 3))⟩),(14,⟨[],.one (.leaf (.at (.v 3) 3))⟩)],[(0,.box 33 (.agg 33 [.at (.v 4) 3,.at (.v 5) 3,.at (.v 6) 9,.nil 30,.nil 31]))]⟩⟩]
def b78:List Blk:= [
 ⟨[(0,0,[false,false,true,false,true]),(2,0,[false,false,true,false,true]),(1,0,[]),(0,0,[true,true])],⟨7,5,[(0,⟨[],.one (.leaf (.ptr (.p 1 0)))⟩),(3,⟨[],.one (.leaf (.at (.v 0) 39))⟩),(5,⟨[],.one (.leaf (.ptr (.p 2 0)))⟩),(6,⟨[],.one (.leaf (.ptr (.p 3 0)))⟩),(18,⟨[],.one (.leaf (.at (.v 1) 31))⟩),(19,⟨[],.one (.leaf (.at (.v 2) 3))⟩),(20,⟨[],.one (.leaf (.at (.v 3) 3))⟩)],[(1,.box 89 (.agg 89 [.ref 4 36])),(2,.box 26 (.leaf (.at (.v 4) 26))),(3,.box 33 (.leaf (.at (.v 5) 33))),(4,.arr 54 36 (.v 6))]⟩⟩,
 ⟨[(1,1,[]),(0,0,[true,true,true,false,false,true,false,true]),(2,0,[false,false,true,false,true]),(1,0,[]),(0,0,[true,true])],⟨7,5,[(0,⟨[],.one (.leaf (.ptr (.p 1 0)))⟩),(3,⟨[],.one (.leaf (.at (.v 0) 39))⟩),(5,⟨[],.one (.leaf (.ptr (.p 2 0)))⟩),(6,⟨[],.one (.leaf (.ptr (.p 3 0)))⟩),(18,⟨[],.one (.leaf (.at (.v 1) 31))⟩),(19,⟨[],.one (.leaf (.at (.v 2) 3))⟩),(20,⟨[],.one (.leaf (.at (.v 3) 3))⟩)],[(1,.box 89 (.agg 89 [.ref 4 36])),(2,.box 26 (.leaf (.at (.v 4) 26))),(3,.box 33 (.leaf (.at (.v 5) 33))),(4,.arr 54 36 (.v 6))]⟩⟩,
 ⟨[(0,0,[false,false,true,true,true]),(2,0,[false,false,true,true,true]),(1,2,[])],⟨6,4,[(0,⟨[],.one (.leaf (.ptr (.p 1 0)))⟩),(3,⟨[],.one (.leaf (.at (.v 0) 39))⟩),(6,⟨[],.one (.leaf (.ptr (.p 2 0)))⟩),(54,⟨[],.one (.leaf (.at (.v 1) 24))⟩),(55,⟨[],.one (.leaf (.at (.v 2) 3))⟩),(56,⟨[],.one (.leaf (.at (.v 3) 3))⟩)],[(1,.box 89 (.agg 89 [.ref 3 36])),(2,.box 33 (.leaf (.at (.v 4) 33))),(3,.arr 54 36 (.v 5))]⟩⟩,
 ⟨[(1,3,[]),(0,0,[true,true,true,false,false,true,true,true]),(2,0,[false,false,true,true,true]),(1,2,[])],⟨6,4,[(0,⟨[],.one (.leaf (.ptr (.p 1 0)))⟩),(3,⟨[],.one (.leaf (.at (.v 0) 39))⟩),(6,⟨[],.one (.leaf (.ptr (.p 2 0)))⟩),(54,⟨[],.one (.leaf (.at (.v 1) 24))⟩),(55,⟨[],.one (.leaf (.at (.v 2) 3))⟩),(56,⟨[],.one (.leaf (.at (.v 3) 3))⟩)],[(1,.box 89 (.agg 89 [.ref 3 36])),(2,.box 33 (.leaf (.at (.v 4) 33))),(3,.arr 54 36 (.v 5))]⟩⟩]
def b81:List Blk:= [
 ⟨[(0,0,[true,true,true])],⟨3,4,[(1,⟨[],.one (.leaf (.at (.v 0) 39))⟩),(2,⟨[],.one (.leaf (.fn 93 [.p 1 0]))⟩),(6,⟨[],.one (.leaf (.ref 2 142))⟩)],[(1,.box 22 (.leaf (.ref 3 22))),(2,.arr 104 142 (.v 1)),(3,.arr 9 22 (.v 2))]⟩⟩,
 ⟨[(0,0,[false,false,true,true,true,true]),(2,0,[false,false,true,true,true,true]),(1,0,[])],⟨5,4,[(1,⟨[],.one (.leaf (.at (.v 0) 39))⟩),(2,⟨[],.one (.leaf (.fn 93 [.p 1 0]))⟩),(24,⟨[],.one (.leaf (.ref 2 142))⟩),(25,⟨[],.one (.leaf (.at (.v 1) 3))⟩),(26,⟨[],.one (.leaf (.at (.v 2) 3))⟩)],[(1,.box 22 (.leaf (.ref 3 22))),(2,.arr 104 142 (.v 3)),(3,.arr 9 22 (.v 4))]⟩⟩]
def b83:List Blk:= [
 ⟨[(0,0,[false,false,true,false,true,true]),(2,0,[false,false,true,false,true,true]),(1,0,[]),(0,0,[true,true,true])],⟨5,2,[(2,⟨[],.one (.leaf (.ptr (.p 0 0)))⟩),(5,⟨[],.one (.leaf (.ref 1 142))⟩),(11,⟨[],.one (.leaf (.at (.v 0) 31))⟩),(12,⟨[],.one (.leaf (.at (.v 1) 3))⟩),(13,⟨[],.one (.leaf (.at (.v 2) 3))⟩)],[(0,.box 26 (.leaf (.at (.v 3) 26))),(1,.arr 104 142 (.v 4))]⟩⟩,
 ⟨[(0,0,[true,true,true,false,false,true,true,false,false,true,false,true,true]),(1,1,[]),(0,0,[true,true,true,false,false,true,false,true,true]),(2,0,[false,false,true,false,true,true]),(1,0,[]),(0,0,[true,true,true])],⟨22,3,[(2,⟨[],.one (.leaf (.ptr (.p 0 0)))⟩),(5,⟨[],.one (.leaf (.ref 1 142))⟩),(8,⟨[],.one (.leaf (.ptr (.p 2 0)))⟩),(11,⟨[],.one (.leaf (.at (.v 0) 31))⟩),(12,⟨[],.one (.leaf (.at (.v 1) 3))⟩),(13,⟨[],.one (.leaf (.at (.v 2) 3))⟩)],[(0,.box 26 (.leaf (.at (.v 3) 26))),(1,.arr 104 142 (.v 4)),(2,.box 104 (.agg 104 [.at (.v 5) 3,.at (.v 6) 9,.at (.v 7) 3,.at (.v 8) 9,.at (.v 9) 3,.at (.v 10) 3,.at (.v 11) 9,.at (.v 12) 30,.at (.v 13) 31,.at (.v 14) 3,.at (.v 15) 3,.at (.v 16) 3,.at (.v 17) 22,.at (.v 18) 9,.at (.v 19) 23,.at (.v 20) 24,.at (.v 21) 4]))]⟩⟩]
def b84:List Blk:= [
 ⟨[(0,0,[false,false,true,false,true]),(2,0,[false,false,true,false,true]),(1,0,[]),(0,0,[true,true])],⟨4,0,[(0,⟨[],.one (.leaf (.at (.v 0) 24))⟩),(1,⟨[],.one (.leaf (.fn 232 [.im (.v 1) 70 0]))⟩),(7,⟨[],.one (.leaf (.at (.v 2) 3))⟩),(8,⟨[],.one (.leaf (.at (.v 3) 3))⟩)],[]⟩⟩]
def b86:List Blk:= [
 ⟨[(0,0,[false,false,true,false,true,true,true]),(2,0,[false,false,true,false,true,true,true]),(1,0,[]),(0,0,[true,true,true,true])],⟨6,3,[(2,⟨[],.one (.leaf (.ptr (.p 0 0)))⟩),(5,⟨[],.one (.leaf (.ref 1 142))⟩),(6,⟨[],.one (.leaf (.mref 2 132))⟩),(13,⟨[],.one (.leaf (.at (.v 0) 30))⟩),(14,⟨[],.one (.leaf (.at (.v 1) 3))⟩),(15,⟨[],.one (.leaf (.at (.v 2) 3))⟩)],[(0,.box 26 (.leaf (.at (.v 3) 26))),(1,.arr 104 142 (.v 4)),(2,.mp 132 9 4 (.v 5))]⟩⟩]
def b95:List Blk:= [
 ⟨[(0,0,[false,false,true,false,true,true]),(2,0,[false,false,true,false,true,true]),(1,0,[]),(0,0,[true,true,true])],⟨3,0,[(0,⟨[],.one (.leaf (.at (.v 0) 22))⟩),(1,⟨[],.one (.leaf (.at (.v 1) 22))⟩),(5,⟨[],.one (.leaf (.at (.v 2) 3))⟩)],[]⟩⟩]
def b97:List Blk:= [
 ⟨[(0,0,[false,false,true,false,true,true,true]),(2,0,[false,false,true,false,true,true,true]),(1,0,[]),(0,0,[true,true,true,true])],⟨10,6,[(4,⟨[],.one (.leaf (.ptr (.p 0 0)))⟩),(5,⟨[],.one (.leaf (.ptr (.p 1 0)))⟩),(7,⟨[],.one (.leaf (.ptr (.p 2 0)))⟩),(8,⟨[],.one (.leaf (.ptr (.p 3 0)))⟩),(9,⟨[],.one (.leaf (.ptr (.p 4 0)))⟩),(25,⟨[],.one (.leaf (.at (.v 0) 22))⟩),(26,⟨[],.one (.leaf (.at (.v 1) 3))⟩),(27,⟨[],.one (.leaf (.at (.v 2) 3))⟩)],[(0,.box 26 (.leaf (.at (.v 3) 26))),(1,.box 33 (.leaf (.at (.v 4) 33))),(2,.box 4 (.leaf (.at (.v 5) 4))),(3,.box 33 (.agg 33 [.at (.v 6) 3,.at (.v 7) 3,.at (.v 8) 9,.nil 30,.nil 31])),(4,.box 132 (.leaf (.mref 5 132))),(5,.mp 132 9 4 (.v 9))]⟩⟩]
def b99:List Blk:= [
 ⟨[(0,0,[false,false,true,false,true,true,true,true]),(2,0,[false,false,true,false,true,true,true,true]),(1,0,[]),(0,0,[true,true,true,true,true])],⟨14,9,[(1,⟨[],.one (.leaf (.at (.v 0) 39))⟩),(2,⟨[],.one (.leaf (.fn 172 [.p 1 0,.p 2 0]))⟩),(6,⟨[],.one (.leaf (.ptr (.p 3 0)))⟩),(11,⟨[],.one (.leaf (.ptr (.p 4 0)))⟩),(35,⟨[],.one (.leaf (.ref 5 142))⟩),(36,⟨[],.one (.leaf (.at (.v 1) 3))⟩),(37,⟨[],.one (.leaf (.at (.v 2) 3))⟩)],[(1,.box 132 (.leaf (.mref 6 132))),(2,.box 4 (.leaf (.at (.v 3) 4))),(3,.box 33 (.agg 33 [.at (.v 4) 3,.at (.v 5) 3,.at (.v 6) 9,.nil 30,.nil 31])),(4,.box 33 (.agg 33 [.at (.v 7) 3,.at (.v 8) 3,.at (.v 9) 9,.ref 7 30,.ref 8 31])),(5,.arr 104 142 (.v 10)),(6,.mp 132 9 4 (.v 11)),(7,.arr 33 30 (.v 12)),(8,.arr 70 31 (.v 13))]⟩⟩,
 ⟨[(1,2,[]),(1,1,[]),(0,0,[true,true,true,false,false,true,false,true,true,true,true]),(2,0,[false,false,true,false,true,true,true,true]),(1,0,[]),(0,0,[true,true,true,true,true])],⟨14,9,[(1,⟨[],.one (.leaf (.at (.v 0) 39))⟩),(2,⟨[],.one (.leaf (.fn 172 [.p 1 0,.p 2 0]))⟩),(6,⟨[],.one (.leaf (.ptr (.p 3 0)))⟩),(11,⟨[],.one (.leaf (.ptr (.p 4 0)))⟩),(35,⟨[],.one (.leaf (.ref 5 142))⟩),(36,⟨[],.one (.leaf (.at (.v 1) 3))⟩),(37,⟨[],.one (.leaf (.at (.v 2) 3))⟩)],[(1,.box 132 (.leaf (.mref 6 132))),(2,.box 4 (.leaf (.at (.v 3) 4))),(3,.box 33 (.agg 33 [.at (.v 4) 3,.at (.v 5) 3,.at (.v 6) 9,.nil 30,.nil 31])),(4,.box 33 (.agg 33 [.at (.v 7) 3,.at (.v 8) 3,.at (.v 9) 9,.ref 7 30,.ref 8 31])),(5,.arr 104 142 (.v 10)),(6,.mp 132 9 4 (.v 11)),(7,.arr 33 30 (.v 12)),(8,.arr 70 31 (.v 13))]⟩⟩]
def b103:List Blk:= [
 ⟨[(0,0,[false,false,true,false,true,true,true]),(2,0,[false,false,true,false,true,true,true]),(1,0,[]),(0,0,[true,true,true,true])],⟨4,2,[(0,⟨[],.one (.leaf (.ref 1 31))⟩),(1,⟨[],.one (.leaf (.fn 192 [.im (.v 0) 9 0]))⟩),(5,⟨[],.one (.leaf (.at (.v 1) 3))⟩),(6,⟨[],.one (.leaf (.at (.v 2) 3))⟩)],[(1,.arr 70 31 (.v 3))]⟩⟩,
 ⟨[(1,1,[]),(0,0,[true,true,false,false,true,false,true,true,true]),(2,0,[false,false,true,false,true,true,true]),(1,0,[]),(0,0,[true,true,true,true])],⟨4,2,[(0,⟨[],.one (.leaf (.ref 1 31))⟩),(1,⟨[],.one (.leaf (.fn 192 [.im (.v 0) 9 0]))⟩),(5,⟨[],.one (.leaf (.at (.v 1) 3))⟩),(6,⟨[],.one (.leaf (.at (.v 2) 3))⟩)],[(1,.arr 70 31 (.v 3))]⟩⟩]
def b104:List Blk:= [
 ⟨[(0,0,[false,false,true,false,true]),(2,0,[false,false,true,false,true]),(1,0,[]),(0,0,[true,true])],⟨4,0,[(0,⟨[],.one (.leaf (.at (.v 0) 31))⟩),(1,⟨[],.one (.leaf (.fn 192 [.im (.v 1) 9 0]))⟩),(7,⟨[],.one (.leaf (.at (.v 2) 3))⟩),(8,⟨[],.one (.leaf (.at (.v 3) 3))⟩)],[]⟩⟩]
def b108:List Blk:= [
 ⟨[(0,0,[true,true,true])],⟨3,2,[(2,⟨[],.one (.leaf (.ptr (.p 0 0)))⟩),(3,⟨[],.one (.leaf (.ptr (.p 1 0)))⟩),(5,⟨[],.one (.leaf (.at (.v 0) 3))⟩)],[(0,.box 33 (.leaf (.at (.v 1) 33))),(1,.box 33 (.leaf (.at (.v 2) 33)))]⟩⟩,
 ⟨[(0,0,[true,true,true,true])],⟨3,2,[(2,⟨[],.one (.leaf (.ptr (.p 0 0)))⟩),(3,⟨[],.one (.leaf (.ptr (.p 1 0)))⟩),(5,⟨[],.one (.leaf (.at (.v 0) 3))⟩)],[(0,.box 33 (.leaf (.at (.v 1) 33))),(1,.box 33 (.leaf (.at (.v 2) 33)))]⟩⟩,
 ⟨[(0,0,[false,false,true,false,true,true,true,true]),(2,0,[false,false,true,false,true,true,true,true]),(1,0,[]),(0,0,[true,true,true,true,true])],⟨4,2,[(2,⟨[],.one (.leaf (.ptr (.p 0 0)))⟩),(3,⟨[],.one (.leaf (.ptr (.p 1 0)))⟩),(5,⟨[],.one (.leaf (.at (.v 0) 3))⟩),(6,⟨[],.one (.leaf (.at (.v 1) 3))⟩)],[(0,.box 33 (.leaf (.at (.v 2) 33))),(1,.box 33 (.leaf (.at (.v 3) 33)))]⟩⟩,
 ⟨[(0,0,[true,true,true,true,true,true])],⟨3,2,[(2,⟨[],.one (.leaf (.ptr (.p 0 0)))⟩),(3,⟨[],.one (.leaf (.ptr (.p 1 0)))⟩),(5,⟨[],.one (.leaf (.at (.v 0) 3))⟩)],[(0,.box 33 (.leaf (.at (.v 1) 33))),(1,.box 33 (.leaf (.at (.v 2) 33)))]⟩⟩,
 ⟨[(0,0,[false,false,true,false,true,true,true,true,true,true]),(2,0,[false,false,true,false,true,true,true,true,true,true]),(1,2,[]),(0,0,[true,true,true,true,true,true,true])],⟨4,2,[(2,⟨[],.one (.leaf (.ptr (.p 0 0)))⟩),(3,⟨[],.one (.leaf (.ptr (.p 1 0)))⟩),(5,⟨[],.one (.leaf (.at (.v 0) 3))⟩),(7,⟨[],.one (.leaf (.at (.v 1) 3))⟩)],[(0,.box 33 (.leaf (.at (.v 2) 33))),(1,.box 33 (.leaf (.at (.v 3) 33)))]⟩⟩,
 ⟨[(1,3,[]),(0,0,[true,true,false,false,true,false,true,true,true,true,true,true]),(2,0,[false,false,true,false,true,true,true,true,true,true]),(1,2,[]),(0,0,[true,true,true,true,true,true,true])],⟨4,2,[(2,⟨[],.one (.leaf (.ptr (.p 0 0)))⟩),(3,⟨[],.one (.leaf (.ptr (.p 1 0)))⟩),(5,⟨[],.one (.leaf (.at (.v 0) 3))⟩),(7,⟨[],.one (.leaf (.at (.v 1) 3))⟩)],[(0,.box 33 (.leaf (.at (.v 2) 33))),(1,.box 33 (.leaf (.at (.v 3) 33)))]⟩⟩]
def b112:List Blk:= [
 ⟨[(0,0,[false,false,true,false,true,true]),(2,0,[false,false,true,false,true,true]),(1,0,[]),(0,0,[true,true,true])],⟨5,0,[(0,⟨[],.one (.leaf (.at (.v 0) 151))⟩),(3,⟨[],.one (.leaf (.at (.v 1) 3))⟩),(9,⟨[],.one (.leaf (.at (.v 2) 151))⟩),(10,⟨[],.one (.leaf (.at (.v 3) 3))⟩),(11,⟨[],.one (.leaf (.at (.v 4) 3))⟩)],[]⟩⟩,
 ⟨[(1,1,[]),(0,0,[true,true,true,false,false,true,false,true,true]),(2,0,[false,false,true,false,true,true]),(1,0,[]),(0,0,[true,true,true])],⟨5,0,[(0,⟨[],.one (.leaf (.at (.v 0) 151))⟩),(3,⟨[],.one (.leaf (.at (.v 1) 3))⟩),(9,⟨[],.one (.leaf (.at (.v 2) 151))⟩),(10,⟨[],.one (.leaf (.at (.v 3) 3))⟩),(11,⟨[],.one (.leaf (.at (.v 4) 3))⟩)],[]⟩⟩,
 ⟨[(0,0,[false,false,true,false,true,true,true,true]),(2,0,[false,false,true,false,true,true,true,true]),(1,2,[]),(0,0,[true,true,true,true,true])],⟨4,1,[(6,⟨[],.one (.leaf (.ref 0 22))⟩),(25,⟨[],.one (.leaf (.at (.v 0) 151))⟩),(26,⟨[],.one (.leaf (.at (.v 1) 3))⟩),(27,⟨[],.one (.leaf (.at (.v 2) 3))⟩)],[(0,.arr 9 22 (.v 3))]⟩⟩]
def b115:List Blk:= [
 ⟨[(0,0,[false,false,true,false,true,true]),(2,0,[false,false,true,false,true,true]),(1,0,[]),(0,0,[true,true,true])],⟨6,3,[(0,⟨[],.one (.leaf (.at (.v 0) 22))⟩),(5,⟨[],.one (.leaf (.ptr (.p 0 0)))⟩),(7,⟨[],.one (.leaf (.ptr (.p 1 0)))⟩),(11,⟨[],.one (.leaf (.at (.v 1) 22))⟩),(12,⟨[],.one (.leaf (.at (.v 2) 3))⟩),(13,⟨[],.one (.leaf (.at (.v 3) 3))⟩)],[(0,.box 4 (.leaf (.at (.v 4) 4))),(1,.box 132 (.leaf (.mref 2 132))),(2,.mp 132 9 4 (.v 5))]⟩⟩]
def b116:List Blk:= [
 ⟨[(0,0,[false,false,true,false,true,true,true]),(2,0,[false,false,true,false,true,true,true]),(1,0,[]),(0,0,[true,true,true,true])],⟨5,6,[(0,⟨[],.one (.leaf (.ref 4 22))⟩),(1,⟨[],.one (.leaf (.fn 170 [.p 2 0,.p 3 0]))⟩),(5,⟨[],.one (.leaf (.at (.v 0) 3))⟩),(6,⟨[],.one (.leaf (.at (.v 1) 3))⟩)],[(2,.box 132 (.leaf (.mref 5 132))),(3,.box 4 (.leaf (.at (.v 2) 4))),(4,.arr 9 22 (.v 3)),(5,.mp 132 9 4 (.v 4))]⟩⟩,
 ⟨[(1,1,[]),(0,0,[true,true,false,false,true,false,true,true,true]),(2,0,[false,false,true,false,true,true,true]),(1,0,[]),(0,0,[true,true,true,true])],⟨5,6,[(0,⟨[],.one (.leaf (.ref 4 22))⟩),(1,⟨[],.one (.leaf (.fn 170 [.p 2 0,.p 3 0]))⟩),(5,⟨[],.one (.leaf (.at (.v 0) 3))⟩),(6,⟨[],.one (.leaf (.at (.v 1) 3))⟩)],[(2,.box 132 (.leaf (.mref 5 132))),(3,.box 4 (.leaf (.at (.v 2) 4))),(4,.arr 9 22 (.v 3)),(5,.mp 132 9 4 (.v 4))]⟩⟩]
def b117:List Blk:= [
 ⟨[(0,0,[false,false,true,false,true]),(2,0,[false,false,true,false,true]),(1,0,[]),(0,0,[true,true])],⟨5,4,[(0,⟨[],.one (.leaf (.at (.v 0) 22))⟩),(1,⟨[],.one (.leaf (.fn 170 [.p 1 0,.p 2 0]))⟩),(7,⟨[],.one (.leaf (.at (.v 1) 3))⟩),(8,⟨[],.one (.leaf (.at (.v 2) 3))⟩)],[(1,.box 132 (.leaf (.mref 3 132))),(2,.box 4 (.leaf (.at (.v 3) 4))),(3,.mp 132 9 4 (.v 4))]⟩⟩]
def b125:List Blk:= [
 ⟨[(0,0,[false,false,true,false,true]),(2,0,[false,false,true,false,true]),(1,0,[]),(0,0,[true,true])],⟨2,1,[(1,⟨[],.one (.leaf (.ptr (.p 0 0)))⟩),(3,⟨[],.one (.leaf (.at (.v 0) 3))⟩)],[(0,.box 26 (.leaf (.at (.v 1) 26)))]⟩⟩]
def b126:List Blk:= [
 ⟨[(0,0,[false,false,true,false,true]),(2,0,[false,false,true,false,true]),(1,0,[]),(0,0,[true,true])],⟨2,0,[(0,⟨[],.one (.leaf (.at (.v 0) 9))⟩),(3,⟨[],.one (.leaf (.at (.v 1) 3))⟩)],[]⟩⟩]
def b127:List Blk:= [
 ⟨[(0,0,[true,true,true])],⟨2,1,[(1,⟨[],.one (.leaf (.at (.v 0) 3))⟩),(2,⟨[],.one (.leaf (.ptr (.p 0 0)))⟩)],[(0,.box 26 (.leaf (.at (.v 1) 26)))]⟩⟩]
def b128:List Blk:= [
 ⟨[(0,0,[false,false,true,false,true]),(2,0,[false,false,true,false,true]),(1,0,[]),(0,0,[true,true])],⟨10,2,[(1,⟨[],.one (.leaf (.at (.v 0) 9))⟩),(2,⟨[],.one (.leaf (.ptr (.p 0 0)))⟩),(4,⟨[],.one (.leaf (.ptr (.p 1 0)))⟩),(6,⟨[],.one (.leaf (.at (.v 1) 3))⟩)],[(0,.box 26 (.leaf (.at (.v 2) 26))),(1,.box 64 (.agg 64 [.at (.v 3) 9,.at (.v 4) 4,.at (.v 5) 4,.nil 30,.at (.v 6) 3,.at (.v 7) 3,.at (.v 8) 3,.nil 22,.at (.v 9) 9,.nil 23,.nil 24]))]⟩⟩]
def b129:List Blk:= [
 ⟨[(0,0,[false,false,true,false,true,true,true]),(2,0,[false,false,true,false,true,true,true]),(1,0,[]),(0,0,[true,true,true,true])],⟨3,1,[(1,⟨[],.one (.leaf (.at (.v 0) 3))⟩),(2,⟨[],.one (.leaf (.ptr (.p 0 0)))⟩),(5,⟨[],.one (.leaf (.at (.v 1) 3))⟩)],[(0,.box 26 (.leaf (.at (.v 2) 26)))]⟩⟩]
def b130:List Blk:= [
 ⟨[(0,0,[false,false,true,false,true]),(2,0,[false,false,true,false,true]),(1,0,[]),(0,0,[true,true])],⟨2,0,[(0,⟨[],.one (.leaf (.at (.v 0) 9))⟩),(3,⟨[],.one (.leaf (.at (.v 1) 3))⟩)],[]⟩⟩]
def b132:List Blk:= [
 ⟨[(0,0,[false,false,true,false,true,true,true]),(2,0,[false,false,true,false,true,true,true]),(1,0,[]),(0,0,[true,true,true,true])],⟨3,1,[(1,⟨[],.one (.leaf (.at (.v 0) 3))⟩),(2,⟨[],.one (.leaf (.ptr (.p 0 0)))⟩),(5,⟨[],.one (.leaf (.at (.v 1) 3))⟩)],[(0,.box 33 (.leaf (.at (.v 2) 33)))]⟩⟩,
 ⟨[(0,0,[false,false,true,false,true,true,true,true]),(2,0,[false,false,true,false,true,true,true,true]),(1,2,[]),(0,0,[true,true,true,true,true])],⟨3,1,[(1,⟨[],.one (.leaf (.at (.v 0) 3))⟩),(2,⟨[],.one (.leaf (.ptr (.p 0 0)))⟩),(6,⟨[],.one (.leaf (.at (.v 1) 3))⟩)],[(0,.box 33 (.leaf (.at (.v 2) 33)))]⟩⟩]
def b133:List Blk:= [
 ⟨[(0,0,[true,true,true,true,true,true,true,false,true,false,true]),(1,0,[]),(0,0,[true,true])],⟨2,1,[(1,⟨[],.one (.leaf (.ptr (.p 0 0)))⟩),(45,⟨[],.one (.leaf (.at (.v 0) 4))⟩)],[(0,.box 33 (.leaf (.at (.v 1) 33)))]⟩⟩]
def b134:List Blk:= [
 ⟨[(0,0,[false,false,true,false,true,true]),(2,0,[false,false,true,false,true,true]),(1,0,[]),(0,0,[true,true,true])],⟨3,1,[(1,⟨[],.one (.leaf (.ptr (.p 0 0)))⟩),(3,⟨[],.one (.leaf (.at (.v 0) 3))⟩),(4,⟨[],.one (.leaf (.at (.v 1) 3))⟩)],[(0,.box 33 (.leaf (.at (.v 2) 33)))]⟩⟩,
 ⟨[(0,0,[false,false,true,false,true,true,true]),(2,0,[false,false,true,false,true,true,true]),(1,2,[]),(0,0,[true,true,true,true])],⟨3,1,[(1,⟨[],.one (.leaf (.ptr (.p 0 0)))⟩),(3,⟨[],.one (.leaf (.at (.v 0) 3))⟩),(5,⟨[],.one (.leaf (.at (.v 1) 3))⟩)],[(0,.box 33 (.leaf (.at (.v 2) 33)))]⟩⟩]
def b135:List Blk:= [
 ⟨[(0,0,[false,false,true,false,true,false,true,true,true,false,true,false,true,true]),(2,0,[false,false,true,false,true,false,true,true,true,false,true,false,true,true]),(1,1,[]),(0,0,[true,true,false,true,true,true,false,true,false,true,true]),(1,0,[]),(0,0,[true,true,true])],⟨4,2,[(2,⟨[],.one (.leaf (.at (.v 0) 39))⟩),(3,⟨[],.one (.leaf (.ptr (.p 0 0)))⟩),(4,⟨[],.one (.leaf (.ptr (.p 1 0)))⟩),(7,⟨[],.one (.leaf (.at (.v 1) 3))⟩)],[(0,.box 26 (.leaf (.at (.v 2) 26))),(1,.box 33 (.leaf (.at (.v 3) 33)))]⟩⟩]
def b137:List Blk:= [
 ⟨[(0,0,[false,false,true,false,true,true,true]),(2,0,[false,false,true,false,true,true,true]),(1,0,[]),(0,0,[true,true,true,true])],⟨3,0,[(0,⟨[],.one (.leaf (.at (.v 0) 39))⟩),(4,⟨[],.one (.leaf (.at (.v 1) 9))⟩),(5,⟨[],.one (.leaf (.at (.v 2) 3))⟩)],[]⟩⟩,
 ⟨[(1,1,[]),(0,0,[true,true,false,false,true,false,true,true,true]),(2,0,[false,false,true,false,true,true,true]),(1,0,[]),(0,0,[true,true,true,true])],⟨3,0,[(0,⟨[],.one (.leaf (.at (.v 0) 39))⟩),(4,⟨[],.one (.leaf (.at (.v 1) 9))⟩),(5,⟨[],.one (.leaf (.at (.v 2) 3))⟩)],[]⟩⟩]
def b138:List Blk:= [
 ⟨[(0,0,[false,false,true,false,true]),(2,0,[false,false,true,false,true]),(1,0,[]),(0,0,[true,true])],⟨2,0,[(0,⟨[],.one (.leaf (.at (.v 0) 39))⟩),(3,⟨[],.one (.leaf (.at (.v 1) 3))⟩)],[]⟩⟩]
def b140:List Blk:= [
 ⟨[(0,0,[false,false,true,false,true]),(2,0,[false,false,true,false,true]),(1,0,[]),(0,0,[true,true])],⟨2,0,[(0,⟨[],.one (.leaf (.at (.v 0) 9))⟩),(3,⟨[],.one (.leaf (.at (.v 1) 3))⟩)],[]⟩⟩]
def b142:List Blk:= [
 ⟨[(0,0,[false,false,true,false,true]),(2,0,[false,false,true,false,true]),(1,0,[]),(0,0,[true,true])],⟨2,0,[(0,⟨[],.one (.leaf (.at (.v 0) 9))⟩),(3,⟨[],.one (.leaf (.at (.v 1) 3))⟩)],[]⟩⟩]
def b144:List Blk:= [
 ⟨[(0,0,[false,false,true,false,true,true]),(2,0,[false,false,true,false,true,true]),(1,0,[]),(0,0,[true,true,true])],⟨3,0,[(0,⟨[],.one (.leaf (.at (.v 0) 9))⟩),(3,⟨[],.one (.leaf (.at (.v 1) 9))⟩),(4,⟨[],.one (.leaf (.at (.v 2) 3))⟩)],[]⟩⟩,
 ⟨[(1,1,[]),(0,0,[true,true,false,false,true,false,true,true]),(2,0,[false,false,true,false,true,true]),(1,0,[]),(0,0,[true,true,true])],⟨3,0,[(0,⟨[],.one (.leaf (.at (.v 0) 9))⟩),(3,⟨[],.one (.leaf (.at (.v 1) 9))⟩),(4,⟨[],.one (.leaf (.at (.v 2) 3))⟩)],[]⟩⟩]
def b145:List Blk:= [
 ⟨[(0,0,[true,true,true])],⟨4,3,[(2,⟨[],.one (.leaf (.at (.v 0) 39))⟩),(3,⟨[],.one (.leaf (.ptr (.p 0 0)))⟩),(4,⟨[],.one (.leaf (.ptr (.p 1 0)))⟩),(7,⟨[],.one (.leaf (.ref 2 36))⟩)],[(0,.box 26 (.leaf (.at (.v 1) 26))),(1,.box 33 (.leaf (.at (.v 2) 33))),(2,.arr 54 36 (.v 3))]⟩⟩,
 ⟨[(0,0,[false,false,true,false,true,true,true]),(2,0,[false,false,true,false,true,true,true]),(1,0,[]),(0,0,[true,true,true,true])],⟨5,3,[(2,⟨[],.one (.leaf (.at (.v 0) 39))⟩),(3,⟨[],.one (.leaf (.ptr (.p 0 0)))⟩),(4,⟨[],.one (.leaf (.ptr (.p 1 0)))⟩),(7,⟨[],.one (.leaf (.ref 2 36))⟩),(8,⟨[],.one (.leaf (.at (.v 1) 3))⟩)],[(0,.box 26 (.leaf (.at (.v 2) 26))),(1,.box 33 (.leaf (.at (.v 3) 33))),(2,.arr 54 36 (.v 4))]⟩⟩,
 ⟨[(0,0,[false,false,true,false,true,true,true,true,false,false,true,false,false,true,false,true,true,true]),(2,0,[false,false,true,false,true,true,true,true,false,false,true,false,false,true,false,true,true,true]),(1,2,[]),(0,0,[true,true,true,true,true,false,false,true,false,false,true,false,true,true,true]),(1,1,[]),(0,0,[true,true,false,false,true,false,true,true,true]),(2,0,[false,false,true,false,true,true,true]),(1,0,[]),(0,0,[true,true,true,true])],⟨10,4,[(2,⟨[],.one (.leaf (.at (.v 0) 39))⟩),(3,⟨[],.one (.leaf (.ptr (.p 0 0)))⟩),(4,⟨[],.one (.leaf (.ptr (.p 1 0)))⟩),(7,⟨[],.one (.leaf (.ref 2 36))⟩),(8,⟨[],.one (.leaf (.at (.v 1) 3))⟩),(9,⟨[],.one (.leaf (.ref 3 39))⟩),(10,⟨[],.one (.leaf (.at (.v 2) 9))⟩),(11,⟨[],.one (.leaf (.at (.v 3) 4))⟩),(12,⟨[],.one (.leaf (.at (.v 4) 4))⟩),(13,⟨[],.one (.leaf (.at (.v 5) 3))⟩)],[(0,.box 26 (.leaf (.at (.v 6) 26))),(1,.box 33 (.leaf (.at (.v 7) 33))),(2,.arr 54 36 (.v 8)),(3,.arr 74 39 (.v 9))]⟩⟩,
 ⟨[(1,1,[]),(0,0,[true,true,false,false,true,false,true,true,true]),(2,0,[false,false,true,false,true,true,true]),(1,0,[]),(0,0,[true,true,true,true])],⟨5,3,[(2,⟨[],.one (.leaf (.at (.v 0) 39))⟩),(3,⟨[],.one (.leaf (.ptr (.p 0 0)))⟩),(4,⟨[],.one (.leaf (.ptr (.p 1 0)))⟩),(7,⟨[],.one (.leaf (.ref 2 36))⟩),(8,⟨[],.one (.leaf (.at (.v 1) 3))⟩)],[(0,.box 26 (.leaf (.at (.v 2) 26))),(1,.box 33 (.leaf (.at (.v 3) 33))),(2,.arr 54 36 (.v 4))]⟩⟩]
def b148:List Blk:= [
 ⟨[(0,0,[false,false,true,false,true,false,true]),(2,0,[false,false,true,false,true,false,true]),(1,0,[]),(0,0,[true,true])],⟨6,2,[(1,⟨[],.one (.leaf (.at (.v 0) 9))⟩),(2,⟨[],.one (.leaf (.ptr (.p 0 0)))⟩),(4,⟨[],.one (.leaf (.ptr (.p 1 0)))⟩),(6,⟨[],.one (.leaf (.at (.v 1) 3))⟩)],[(0,.box 33 (.leaf (.at (.v 2) 33))),(1,.box 33 (.agg 33 [.at (.v 3) 3,.at (.v 4) 3,.at (.v 5) 9,.nil 30,.nil 31]))]⟩⟩]
def b150:List Blk:= [
 ⟨[(0,0,[false,false,true,false,true,true]),(2,0,[false,false,true,false,true,true]),(1,0,[]),(0,0,[true,true,true])],⟨5,3,[(2,⟨[],.one (.leaf (.at (.v 0) 39))⟩),(3,⟨[],.one (.leaf (.ptr (.p 0 0)))⟩),(4,⟨[],.one (.leaf (.ptr (.p 1 0)))⟩),(7,⟨[],.one (.leaf (.ref 2 36))⟩),(8,⟨[],.one (.leaf (.at (.v 1) 3))⟩)],[(0,.box 26 (.leaf (.at (.v 2) 26))),(1,.box 33 (.leaf (.at (.v 3) 33))),(2,.arr 54 36 (.v 4))]⟩⟩,
 ⟨[(1,1,[]),(0,0,[true,true,false,false,true,false,true,true]),(2,0,[false,false,true,false,true,true]),(1,0,[]),(0,0,[true,true,true])],⟨5,3,[(2,⟨[],.one (.leaf (.at (.v 0) 39))⟩),(3,⟨[],.one (.leaf (.ptr (.p 0 0)))⟩),(4,⟨[],.one (.leaf (.ptr (.p 1 0)))⟩),(7,⟨[],.one (.leaf (.ref 2 36))⟩),(8,⟨[],.one (.leaf (.at (.v 1) 3))⟩)],[(0,.box 26 (.leaf (.at (.v 2) 26))),(1,.box 33 (.leaf (.at (.v 3) 33))),(2,.arr 54 36 (.v 4))]⟩⟩,
 ⟨[(0,0,[false,false,true,false,true,true,true]),(2,0,[false,false,true,false,true,true,true]),(1,2,[]),(0,0,[true,true,true,true])],⟨5,3,[(2,⟨[],.one (.leaf (.at (.v 0) 39))⟩),(3,⟨[],.one (.leaf (.ptr (.p 0 0)))⟩),(4,⟨[],.one (.leaf (.ptr (.p 1 0)))⟩),(7,⟨[],.one (.leaf (.ref 2 36))⟩),(13,⟨[],.one (.leaf (.at (.v 1) 3))⟩)],[(0,.box 26 (.leaf (.at (.v 2) 26))),(1,.box 33 (.leaf (.at (.v 3) 33))),(2,.arr 54 36 (.v 4))]⟩⟩,
 ⟨[(1,3,[]),(0,0,[true,true,false,false,true,false,true,true,true]),(2,0,[false,false,true,false,true,true,true]),(1,2,[]),(0,0,[true,true,true,true])],⟨5,3,[(2,⟨[],.one (.leaf (.at (.v 0) 39))⟩),(3,⟨[],.one (.leaf (.ptr (.p 0 0)))⟩),(4,⟨[],.one (.leaf (.ptr (.p 1 0)))⟩),(7,⟨[],.one (.leaf (.ref 2 36))⟩),(13,⟨[],.one (.leaf (.at (.v 1) 3))⟩)],[(0,.box 26 (.leaf (.at (.v 2) 26))),(1,.box 33 (.leaf (.at (.v 3) 33))),(2,.arr 54 36 (.v 4))]⟩⟩]
def b152:List Blk:= [
 ⟨[(0,0,[false,false,true,false,true,true,true]),(2,0,[false,false,true,false,true,true,true]),(1,0,[]),(0,0,[true,true,true,true])],⟨5,3,[(3,⟨[],.one (.leaf (.at (.v 0) 39))⟩),(4,⟨[],.one (.leaf (.ptr (.p 0 0)))⟩),(6,⟨[],.one (.leaf (.ptr (.p 1 0)))⟩),(11,⟨[],.one (.leaf (.ref 2 22))⟩),(12,⟨[],.one (.leaf (.at (.v 1) 3))⟩)],[(0,.box 26 (.leaf (.at (.v 2) 26))),(1,.box 33 (.leaf (.at (.v 3) 33))),(2,.arr 9 22 (.v 4))]⟩⟩,
 ⟨[(0,0,[false,false,true,false,true,true,true,true]),(2,0,[false,false,true,false,true,true,true,true]),(1,2,[]),(0,0,[true,true,true,true,true])],⟨5,3,[(3,⟨[],.one (.leaf (.at (.v 0) 39))⟩),(4,⟨[],.one (.leaf (.ptr (.p 0 0)))⟩),(6,⟨[],.one (.leaf (.ptr (.p 1 0)))⟩),(11,⟨[],.one (.leaf (.ref 2 22))⟩),(13,⟨[],.one (.leaf (.at (.v 1) 3))⟩)],[(0,.box 26 (.leaf (.at (.v 2) 26))),(1,.box 33 (.leaf (.at (.v 3) 33))),(2,.arr 9 22 (.v 4))]⟩⟩]
def b154:List Blk:= [
 ⟨[(0,0,[false,false,true,false,true,true]),(2,0,[false,false,true,false,true,true]),(1,0,[]),(0,0,[true,true,true])],⟨3,2,[(2,⟨[],.one (.leaf (.ptr (.p 0 0)))⟩),(3,⟨[],.one (.leaf (.ptr (.p 1 0)))⟩),(5,⟨[],.one (.leaf (.at (.v 0) 3))⟩)],[(0,.box 26 (.leaf (.at (.v 1) 26))),(1,.box 33 (.leaf (.at (.v 2) 33)))]⟩⟩,
 ⟨[(0,0,[false,false,true,true,true,false,false,true,false,false,true,false,true,true]),(2,0,[false,false,true,true,true,false,false,true,false,false,true,false,true,true]),(1,2,[]),(1,1,[]),(0,0,[true,true,false,false,true,false,true,true]),(2,0,[false,false,true,false,true,true]),(1,0,[]),(0,0,[true,true,true])],⟨5,2,[(2,⟨[],.one (.leaf (.ptr (.p 0 0)))⟩),(3,⟨[],.one (.leaf (.ptr (.p 1 0)))⟩),(5,⟨[],.one (.leaf (.at (.v 0) 3))⟩),(6,⟨[],.one (.leaf (.at (.v 1) 9))⟩),(8,⟨[],.one (.leaf (.at (.v 2) 3))⟩)],[(0,.box 26 (.leaf (.at (.v 3) 26))),(1,.box 33 (.leaf (.at (.v 4) 33)))]⟩⟩]
def b155:List Blk:= [
 ⟨[(0,0,[false,false,true,false,true,true]),(2,0,[false,false,true,false,true,true]),(1,0,[]),(0,0,[true,true,true])],⟨7,2,[(1,⟨[],.one (.leaf (.at (.v 0) 9))⟩),(2,⟨[],.one (.leaf (.ptr (.p 0 0)))⟩),(4,⟨[],.one (.leaf (.ptr (.p 1 0)))⟩),(6,⟨[],.one (.leaf (.at (.v 1) 3))⟩)],[(0,.box 26 (.leaf (.at (.v 2) 26))),(1,.box 26 (.agg 26 [.at (.v 3) 3,.at (.v 4) 3,.at (.v 5) 3,.nil 22,.at (.v 6) 9,.nil 23,.nil 24]))]⟩⟩]
def b156:List Blk:= [
 ⟨[(0,0,[false,false,true,false,true,true]),(2,0,[false,false,true,false,true,true]),(1,0,[]),(0,0,[true,true,true])],⟨4,1,[(0,⟨[],.one (.leaf (.at (.v 0) 22))⟩),(1,⟨[],.one (.leaf (.at (.v 1) 22))⟩),(5,⟨[],.one (.leaf (.ref 0 22))⟩),(6,⟨[],.one (.leaf (.at (.v 2) 3))⟩)],[(0,.arr 9 22 (.v 3))]⟩⟩,
 ⟨[(0,0,[false,false,true,false,true,true,true]),(2,0,[false,false,true,false,true,true,true]),(1,2,[]),(0,0,[true,true,true,true])],⟨3,1,[(1,⟨[],.one (.leaf (.at (.v 0) 22))⟩),(5,⟨[],.one (.leaf (.ref 0 22))⟩),(7,⟨[],.one (.leaf (.at (.v 1) 3))⟩)],[(0,.arr 9 22 (.v 2))]⟩⟩]
def b157:List Blk:= [
 ⟨[(0,0,[false,false,true,false,true,true,true]),(2,0,[false,false,true,false,true,true,true]),(1,0,[]),(0,0,[true,true,true,true])],⟨5,1,[(0,⟨[],.one (.leaf (.at (.v 0) 22))⟩),(1,⟨[],.one (.leaf (.at (.v 1) 9))⟩),(5,⟨[],.one (.leaf (.ref 0 22))⟩),(6,⟨[],.one (.leaf (.at (.v 2) 4))⟩),(7,⟨[],.one (.leaf (.at (.v 3) 3))⟩)],[(0,.arr 9 22 (.v 4))]⟩⟩,
 ⟨[(0,0,[true,false,false,true,false,false,true,false,true,true,true]),(1,1,[]),(0,0,[true,true,false,false,true,false,true,true,true]),(2,0,[false,false,true,false,true,true,true]),(1,0,[]),(0,0,[true,true,true,true])],⟨5,1,[(0,⟨[],.one (.leaf (.at (.v 0) 22))⟩),(1,⟨[],.one (.leaf (.at (.v 1) 9))⟩),(5,⟨[],.one (.leaf (.ref 0 22))⟩),(6,⟨[],.one (.leaf (.at (.v 2) 4))⟩),(7,⟨[],.one (.leaf (.at (.v 3) 3))⟩)],[(0,.arr 9 22 (.v 4))]⟩⟩,
 ⟨[(1,1,[]),(0,0,[true,true,false,false,true,false,true,true,true]),(2,0,[false,false,true,false,true,true,true]),(1,0,[]),(0,0,[true,true,true,true])],⟨5,1,[(0,⟨[],.one (.leaf (.at (.v 0) 22))⟩),(1,⟨[],.one (.leaf (.at (.v 1) 9))⟩),(5,⟨[],.one (.leaf (.ref 0 22))⟩),(6,⟨[],.one (.leaf (.at (.v 2) 4))⟩),(7,⟨[],.one (.leaf (.at (.v 3) 3))⟩)],[(0,.arr 9 22 (.v 4))]⟩⟩]
def b159:List Blk:= [
 ⟨[(0,0,[false,false,true,false,true,true]),(2,0,[false,false,true,false,true,true]),(1,0,[]),(0,0,[true,true,true])],⟨4,1,[(0,⟨[],.one (.leaf (.at (.v 0) 22))⟩),(1,⟨[],.one (.leaf (.at (.v 1) 22))⟩),(5,⟨[],.one (.leaf (.ref 0 22))⟩),(6,⟨[],.one (.leaf (.at (.v 2) 3))⟩)],[(0,.arr 9 22 (.v 3))]⟩⟩,
 ⟨[(1,1,[]),(0,0,[true,true,false,false,true,false,true,true]),(2,0,[false,false,true,false,true,true]),(1,0,[]),(0,0,[true,true,true])],⟨4,1,[(0,⟨[],.one (.leaf (.at (.v 0) 22))⟩),(1,⟨[],.one (.leaf (.at (.v 1) 22))⟩),(5,⟨[],.one (.leaf (.ref 0 22))⟩),(6,⟨[],.one (.leaf (.at (.v 2) 3))⟩)],[(0,.arr 9 22 (.v 3))]⟩⟩]
def b160:List Blk:= [
 ⟨[(0,0,[false,false,true,false,true]),(2,0,[false,false,true,false,true]),(1,0,[]),(0,0,[true,true])],⟨3,0,[(0,⟨[],.one (.leaf (.at (.v 0) 22))⟩),(1,⟨[],.one (.leaf (.at (.v 1) 9))⟩),(5,⟨[],.one (.leaf (.at (.v 2) 3))⟩)],[]⟩⟩]
def b161:List Blk:= [
 ⟨[(0,0,[false,false,true,false,true,true]),(2,0,[false,false,true,false,true,true]),(1,0,[]),(0,0,[true,true,true])],⟨4,1,[(0,⟨[],.one (.leaf (.at (.v 0) 22))⟩),(1,⟨[],.one (.leaf (.at (.v 1) 22))⟩),(5,⟨[],.one (.leaf (.ref 0 22))⟩),(6,⟨[],.one (.leaf (.at (.v 2) 3))⟩)],[(0,.arr 9 22 (.v 3))]⟩⟩,
 ⟨[(1,1,[]),(0,0,[true,true,false,false,true,false,true,true]),(2,0,[false,false,true,false,true,true]),(1,0,[]),(0,0,[true,true,true])],⟨4,1,[(0,⟨[],.one (.leaf (.at (.v 0) 22))⟩),(1,⟨[],.one (.leaf (.at (.v 1) 22))⟩),(5,⟨[],.one (.leaf (.ref 0 22))⟩),(6,⟨[],.one (.leaf (.at (.v 2) 3))⟩)],[(0,.arr 9 22 (.v 3))]⟩⟩]
def b165:List Blk:= [
 ⟨[(0,0,[false,false,true,false,true,true,true]),(2,0,[false,false,true,false,true,true,true]),(1,0,[]),(0,0,[true,true,true,true])],⟨13,5,[(3,⟨[],.one (.leaf (.at (.v 0) 39))⟩),(4,⟨[],.one (.leaf (.at (.v 1) 22))⟩),(5,⟨[],.one (.leaf (.at (.v 2) 4))⟩),(6,⟨[],.one (.leaf (.ptr (.p 0 0)))⟩),(8,⟨[],.one (.leaf (.ptr (.p 1 0)))⟩),(12,⟨[],.one (.leaf (.ptr (.p 2 0)))⟩),(16,⟨[],.one (.leaf (.ptr (.p 3 0)))⟩),(17,⟨[],.one (.leaf (.at (.v 3) 3))⟩)],[(0,.box 26 (.leaf (.at (.v 4) 26))),(1,.box 33 (.leaf (.at (.v 5) 33))),(2,.box 33 (.agg 33 [.at (.v 6) 3,.at (.v 7) 3,.at (.v 8) 9,.nil 30,.nil 31])),(3,.box 33 (.agg 33 [.at (.v 9) 3,.at (.v 10) 3,.at (.v 11) 9,.ref 4 30,.nil 31])),(4,.arr 33 30 (.v 12))]⟩⟩,
 ⟨[(1,1,[]),(0,0,[true,true,false,false,true,false,true,true,true]),(2,0,[false,false,true,false,true,true,true]),(1,0,[]),(0,0,[true,true,true,true])],⟨13,5,[(3,⟨[],.one (.leaf (.at (.v 0) 39))⟩),(4,⟨[],.one (.leaf (.at (.v 1) 22))⟩),(5,⟨[],.one (.leaf (.at (.v 2) 4))⟩),(6,⟨[],.one (.leaf (.ptr (.p 0 0)))⟩),(8,⟨[],.one (.leaf (.ptr (.p 1 0)))⟩),(12,⟨[],.one (.leaf (.ptr (.p 2 0)))⟩),(16,⟨[],.one (.leaf (.ptr (.p 3 0)))⟩),(17,⟨[],.one (.leaf (.at (.v 3) 3))⟩)],[(0,.box 26 (.leaf (.at (.v 4) 26))),(1,.box 33 (.leaf (.at (.v 5) 33))),(2,.box 33 (.agg 33 [.at (.v 6) 3,.at (.v 7) 3,.at (.v 8) 9,.nil 30,.nil 31])),(3,.box 33 (.agg 33 [.at (.v 9) 3,.at (.v 10) 3,.at (.v 11) 9,.ref 4 30,.nil 31])),(4,.arr 33 30 (.v 12))]⟩⟩,
 ⟨[(0,0,[false,false,true,false,true,true,true,true]),(2,0,[false,false,true,false,true,true,true,true]),(1,2,[]),(0,0,[true,true,true,true,true])],⟨14,6,[(3,⟨[],.one (.leaf (.at (.v 0) 39))⟩),(4,⟨[],.one (.leaf (.at (.v 1) 22))⟩),(5,⟨[],.one (.leaf (.at (.v 2) 4))⟩),(6,⟨[],.one (.leaf (.ptr (.p 0 0)))⟩),(8,⟨[],.one (.leaf (.ptr (.p 1 0)))⟩),(12,⟨[],.one (.leaf (.ptr (.p 2 0)))⟩),(16,⟨[],.one (.leaf (.ptr (.p 3 0)))⟩),(22,⟨[],.one (.leaf (.at (.v 3) 3))⟩)],[(0,.box 26 (.leaf (.at (.v 4) 26))),(1,.box 33 (.leaf (.at (.v 5) 33))),(2,.box 33 (.agg 33 [.at (.v 6) 3,.at (.v 7) 3,.at (.v 8) 9,.nil 30,.nil 31])),(3,.box 33 (.agg 33 [.at (.v 9) 3,.at (.v 10) 3,.at (.v 11) 9,.ref 4 30,.ref 5 31])),(4,.arr 33 30 (.v 12)),(5,.arr 70 31 (.v 13))]⟩⟩,
 ⟨[(1,3,[]),(0,0,[true,true,false,false,true,false,true,true,true,true]),(2,0,[false,false,true,false,true,true,true,true]),(1,2,[]),(0,0,[true,true,true,true,true])],⟨14,6,[(3,⟨[],.one (.leaf (.at (.v 0) 39))⟩),(4,⟨[],.one (.leaf (.at (.v 1) 22))⟩),(5,⟨[],.one (.leaf (.at (.v 2) 4))⟩),(6,⟨[],.one (.leaf (.ptr (.p 0 0)))⟩),(8,⟨[],.one (.leaf (.ptr (.p 1 0)))⟩),(12,⟨[],.one (.leaf (.ptr (.p 2 0)))⟩),(16,⟨[],.one (.leaf (.ptr (.p 3 0)))⟩),(22,⟨[],.one (.leaf (.at (.v 3) 3))⟩)],[(0,.box 26 (.leaf (.at (.v 4) 26))),(1,.box 33 (.leaf (.at (.v 5) 33))),(2,.box 33 (.agg 33 [.at (.v 6) 3,.at (.v 7) 3,.at (.v 8) 9,.nil 30,.nil 31])),(3,.box 33 (.agg 33 [.at (.v 9) 3,.at (.v 10) 3,.at (.v 11) 9,.ref 4 30,.ref 5 31])),(4,.arr 33 30 (.v 12)),(5,.arr 70 31 (.v 13))]⟩⟩]
def b167:List Blk:= [
 ⟨[(0,0,[false,false,true,false,true,true]),(2,0,[false,false,true,false,true,true]),(1,0,[]),(0,0,[true,true,true])],⟨4,2,[(1,⟨[],.one (.leaf (.at (.v 0) 9))⟩),(2,⟨[],.one (.leaf (.ptr (.p 0 0)))⟩),(5,⟨[],.one (.leaf (.ref 1 31))⟩),(6,⟨[],.one (.leaf (.at (.v 1) 3))⟩)],[(0,.box 33 (.leaf (.at (.v 2) 33))),(1,.arr 70 31 (.v 3))]⟩⟩,
 ⟨[(1,1,[]),(0,0,[true,true,false,false,true,false,true,true]),(2,0,[false,false,true,false,true,true]),(1,0,[]),(0,0,[true,true,true])],⟨4,2,[(1,⟨[],.one (.leaf (.at (.v 0) 9))⟩),(2,⟨[],.one (.leaf (.ptr (.p 0 0)))⟩),(5,⟨[],.one (.leaf (.ref 1 31))⟩),(6,⟨[],.one (.leaf (.at (.v 1) 3))⟩)],[(0,.box 33 (.leaf (.at (.v 2) 33))),(1,.arr 70 31 (.v 3))]⟩⟩]
def b169:List Blk:= [
 ⟨[(0,0,[false,false,true,false,true,true,true,true]),(2,0,[false,false,true,false,true,true,true,true]),(1,0,[]),(0,0,[true,true,true,true,true])],⟨6,4,[(2,⟨[],.one (.leaf (.at (.v 0) 22))⟩),(4,⟨[],.one (.leaf (.ptr (.p 0 0)))⟩),(7,⟨[],.one (.leaf (.ptr (.p 1 0)))⟩),(8,⟨[],.one (.leaf (.ptr (.p 2 0)))⟩),(9,⟨[],.one (.leaf (.ref 3 22))⟩),(10,⟨[],.one (.leaf (.at (.v 1) 3))⟩)],[(0,.box 33 (.leaf (.at (.v 2) 33))),(1,.box 33 (.leaf (.at (.v 3) 33))),(2,.box 33 (.leaf (.at (.v 4) 33))),(3,.arr 9 22 (.v 5))]⟩⟩,
 ⟨[(0,0,[true,true,true,false,false,true,false,false,true,false,true,true,true,true]),(1,1,[]),(0,0,[true,true,false,false,true,false,true,true,true,true]),(2,0,[false,false,true,false,true,true,true,true]),(1,0,[]),(0,0,[true,true,true,true,true])],⟨9,6,[(2,⟨[],.one (.leaf (.at (.v 0) 22))⟩),(4,⟨[],.one (.leaf (.ptr (.p 0 0)))⟩),(7,⟨[],.one (.leaf (.ptr (.p 1 0)))⟩),(8,⟨[],.one (.leaf (.ptr (.p 2 0)))⟩),(9,⟨[],.one (.leaf (.ref 3 22))⟩),(10,⟨[],.one (.leaf (.at (.v 1) 3))⟩),(11,⟨[],.one (.leaf (.ptr (.p 4 0)))⟩),(12,⟨[],.one (.leaf (.at (.v 2) 4))⟩),(13,⟨[],.one (.leaf (.ptr (.p 5 0)))⟩)],[(0,.box 33 (.leaf (.at (.v 3) 33))),(1,.box 33 (.leaf (.at (.v 4) 33))),(2,.box 33 (.leaf (.at (.v 5) 33))),(3,.arr 9 22 (.v 6)),(4,.box 33 (.leaf (.at (.v 7) 33))),(5,.box 33 (.leaf (.at (.v 8) 33)))]⟩⟩]
def b171:List Blk:= [
 ⟨[(0,0,[false,false,false,true,true,true,true]),(2,0,[false,false,false,true,true,true,true]),(1,0,[]),(0,0,[true,true,true,true,true])],⟨3,1,[(0,⟨[],.one (.leaf (.at (.v 0) 9))⟩),(4,⟨[],.one (.leaf (.ref 0 39))⟩),(5,⟨[],.one (.leaf (.at (.v 1) 3))⟩)],[(0,.arr 74 39 (.v 2))]⟩⟩]
def b172:List Blk:= [
 ⟨[(0,0,[true,true,true])],⟨8,1,[(0,⟨[],.one (.leaf (.at (.v 0) 9))⟩),(1,⟨[],.one (.leaf (.at (.v 1) 3))⟩),(4,⟨[],.one (.leaf (.ptr (.p 0 0)))⟩)],[(0,.box 96 (.agg 96 [.at (.v 2) 3,.at (.v 3) 9,.at (.v 4) 3,.at (.v 5) 9,.at (.v 6) 3,.at (.v 7) 4]))]⟩⟩]
def b174:List Blk:= [
 ⟨[(0,0,[false,false,false,true]),(2,0,[false,false,false,true]),(1,0,[]),(0,0,[true,true])],⟨2,0,[(0,⟨[],.one (.leaf (.at (.v 0) 9))⟩),(1,⟨[],.one (.leaf (.at (.v 1) 3))⟩)],[]⟩⟩]
def b175:List Blk:= [
 ⟨[(0,0,[false,false,true,false,true,true]),(2,0,[false,false,true,false,true,true]),(1,0,[]),(0,0,[true,true,true])],⟨3,0,[(0,⟨[],.one (.leaf (.at (.v 0) 9))⟩),(3,⟨[],.one (.leaf (.at (.v 1) 3))⟩),(4,⟨[],.one (.leaf (.at (.v 2) 3))⟩)],[]⟩⟩]
def b176:List Blk:= [
 ⟨[(0,0,[false,false,true,false,true]),(2,0,[false,false,true,false,true]),(1,0,[]),(0,0,[true,true])],⟨2,0,[(0,⟨[],.one (.leaf (.at (.v 0) 9))⟩),(3,⟨[],.one (.leaf (.at (.v 1) 3))⟩)],[]⟩⟩]
def b177:List Blk:= [
 ⟨[(0,0,[false,false,false,true,true,true,true]),(2,0,[false,false,false,true,true,true,true]),(1,0,[]),(0,0,[true,true,true,true,true])],⟨3,0,[(0,⟨[],.one (.leaf (.at (.v 0) 9))⟩),(1,⟨[],.one (.leaf (.at (.v 1) 3))⟩),(7,⟨[],.one (.leaf (.at (.v 2) 9))⟩)],[]⟩⟩,
 ⟨[(2,0,[false,false,false,true,true,true,true]),(1,0,[]),(0,0,[true,true,true,true,true])],⟨3,0,[(0,⟨[],.one (.leaf (.at (.v 0) 9))⟩),(1,⟨[],.one (.leaf (.at (.v 1) 3))⟩),(7,⟨[],.one (.leaf (.at (.v 2) 9))⟩)],[]⟩⟩,
 ⟨[(0,0,[true,true,true,true,false,true,false,false,false,true,true,true,true]),(1,1,[]),(2,0,[false,false,false,true,true,true,true]),(1,0,[]),(0,0,[true,true,true,true,true])],⟨3,0,[(0,⟨[],.one (.leaf (.at (.v 0) 9))⟩),(1,⟨[],.one (.leaf (.at (.v 1) 3))⟩),(7,⟨[],.one (.leaf (.at (.v 2) 9))⟩)],[]⟩⟩]
def b178:List Blk:= [
 ⟨[(0,0,[false,false,true,false,true,true]),(2,0,[false,false,true,false,true,true]),(1,0,[]),(0,0,[true,true,true])],⟨6,2,[(1,⟨[],.one (.leaf (.at (.v 0) 39))⟩),(2,⟨[],.one (.leaf (.ptr (.p 0 0)))⟩),(4,⟨[],.one (.leaf (.ptr (.p 1 0)))⟩),(6,⟨[],.one (.leaf (.at (.v 1) 3))⟩)],[(0,.box 33 (.leaf (.at (.v 2) 33))),(1,.box 33 (.agg 33 [.at (.v 3) 3,.at (.v 4) 3,.at (.v 5) 9,.nil 30,.nil 31]))]⟩⟩,
 ⟨[(1,1,[]),(0,0,[true,true,false,false,true,false,true,true]),(2,0,[false,false,true,false,true,true]),(1,0,[]),(0,0,[true,true,true])],⟨6,2,[(1,⟨[],.one (.leaf (.at (.v 0) 39))⟩),(2,⟨[],.one (.leaf (.ptr (.p 0 0)))⟩),(4,⟨[],.one (.leaf (.ptr (.p 1 0)))⟩),(6,⟨[],.one (.leaf (.at (.v 1) 3))⟩)],[(0,.box 33 (.leaf (.at (.v 2) 33))),(1,.box 33 (.agg 33 [.at (.v 3) 3,.at (.v 4) 3,.at (.v 5) 9,.nil 30,.nil 31]))]⟩⟩]
def b179:List Blk:= [
 ⟨[(0,0,[false,false,true,false,true,true,true,true]),(2,0,[false,false,true,false,true,true,true,true]),(1,0,[]),(0,0,[true,true,true,true,true])],⟨3,2,[(2,⟨[],.one (.leaf (.ptr (.p 0 0)))⟩),(3,⟨[],.one (.leaf (.ptr (.p 1 0)))⟩),(5,⟨[],.one (.leaf (.at (.v 0) 3))⟩)],[(0,.box 33 (.leaf (.at (.v 1) 33))),(1,.box 74 (.leaf (.at (.v 2) 74)))]⟩⟩]
def b180:List Blk:= [
 ⟨[(0,0,[false,false,true,false,true]),(2,0,[false,false,true,false,true]),(1,0,[]),(0,0,[true,true])],⟨3,1,[(1,⟨[],.one (.leaf (.at (.v 0) 9))⟩),(2,⟨[],.one (.leaf (.ptr (.p 0 0)))⟩),(5,⟨[],.one (.leaf (.at (.v 1) 3))⟩)],[(0,.box 33 (.leaf (.at (.v 2) 33)))]⟩⟩]
def b182:List Blk:= [
 ⟨[(0,0,[false,false,true,false,true,true,true,true,true]),(2,0,[false,false,true,false,true,true,true,true,true]),(1,0,[]),(0,0,[true,true,true,true,true,true])],⟨3,1,[(7,⟨[],.one (.leaf (.at (.v 0) 22))⟩),(8,⟨[],.one (.leaf (.ref 0 22))⟩),(9,⟨[],.one (.leaf (.at (.v 1) 3))⟩)],[(0,.arr 9 22 (.v 2))]⟩⟩]
def Ua (i:Nat):List Blk:=
 match i with
 | 2=>b2
 | 4=>b4
 | 8=>b8
 | 9=>b9
 | 10=>b10
 | 17=>b17
 | 20=>b20
 | 21=>b21
 | 22=>b22
 | 23=>b23
 | 24=>b24
 | 27=>b27
 | 31=>b31
 | 33=>b33
 | 34=>b34
 | 37=>b37
 | 38=>b38
 | 43=>b43
 | 44=>b44
 | 45=>b45
 | 46=>b46
 | 49=>b49
 | 51=>b51
 | 54=>b54
 | 57=>b57
 | 63=>b63
 | 69=>b69
 | 70=>b70
 | 73=>b73
 | 78=>b78
 | 81=>b81
 | 83=>b83
 | 84=>b84
 | 86=>b86
 | 95=>b95
 | 97=>b97
 | 99=>b99
 | 103=>b103
 | 104=>b104
 | 108=>b108
 | 112=>b112
 | 115=>b115
 | 116=>b116
 | 117=>b117
 | 125=>b125
 | 126=>b126
 | 127=>b127
 | 128=>b128
 | 129=>b129
 | 130=>b130
 | 132=>b132
 | 133=>b133
 | 134=>b134
 | 135=>b135
 | 137=>b137
 | 138=>b138
 | 140=>b140
 | 142=>b142
 | 144=>b144
 | 145=>b145
 | 148=>b148
 | 150=>b150
 | 152=>b152
 | 154=>b154
 | 155=>b155
 | 156=>b156
 | 157=>b157
 | 159=>b159
 | 160=>b160
 | 161=>b161
 | 165=>b165
 | 167=>b167
 | 169=>b169
 | 171=>b171
 | 172=>b172
 | 174=>b174
 | 175=>b175
 | 176=>b176
 | 177=>b177
 | 178=>b178
 | 179=>b179
 | 180=>b180
 | 182=>b182
 | _=> []
def pr (i:Nat):Option (List IV→Option (List IV)):=
 match i with
 | 35=>some O.Lc
 | 42=>some O.Of
 | 47=>some O.Lc
 | 60=>some O.Jf
 | 61=>some O.Ag3
 | 64=>some O.Py
 | 67=>some O.As2
 | 75=>some O.Lc
 | 76=>some O.Ajx
 | 92=>some O.Jn
 | 93=>some O.Acz
 | 94=>some O.Jz
 | 113=>some (O.Ao0 16)
 | _=>none
noncomputable def W (f b:Nat) (xs:List IV):Option (List IV):=V (tab Tryz.prog specs Ua 3000) pr ⟨f,b⟩ xs
theorem Awm (x0 x1 x2:IV):W F1 0 [x0,x1,x2]=
calls (W F2 0 [x0,(.int 60)]) 1 fun x3=>
(O.ge x3 (.int 0)).bind fun x4=>
(cnd x4 (
calls (W F3 0 [x1,(.int 100)]) 1 fun x5=>
some x5) (some (.bool false))).bind fun x5=>
(cnd x5 (
(O.len x2).bind fun x6=>
(O.le x6 (.int 60)).bind fun x7=>
some x7) (some (.bool false))).bind fun x6=>
some [x6]:=Az rfl (by kernel_rfl)
theorem Avw (x0 x1:IV):W F2 0 [x0,x1]=
(O.le x1 (.int 0)).bind fun x2=>
(cnd x2 (some (.bool true)) (
(O.proj 3 x0).bind fun x3=>
(O.len x3).bind fun x4=>
(O.gt x4 (.int 100)).bind fun x5=>
some x5)).bind fun x3=>
cnd x3 (
some [(.int (-1))]) (
(O.sub .i64 x1 (.int 1)).bind fun x4=>
W F2 1 [x4,(.int 0),x0]):=Az rfl (by kernel_rfl)
theorem Aqq (x0 x1 x2:IV):W F2 1 [x0,x1,x2]=
(O.proj 5 x2).bind fun x3=>
(O.len x3).bind fun x4=>
(O.lt x1 x4).bind fun x5=>
(cnd x5 (
(O.ge x0 (.int 0)).bind fun x6=>
some x6) (some (.bool false))).bind fun x6=>
cnd x6 (
(O.index x3 x1).bind fun x7=>
calls (W F2 0 [x7,x0]) 1 fun x8=>
(O.add .i64 x1 (.int 1)).bind fun x9=>
W F2 1 [x8,x9,x2]) (
W F2 2 [x0,(.int 0),x2]):=Az rfl (by kernel_rfl)
theorem Aqs (x0 x1 x2:IV):W F2 2 [x0,x1,x2]=
(O.proj 6 x2).bind fun x3=>
(O.len x3).bind fun x4=>
(O.lt x1 x4).bind fun x5=>
(cnd x5 (
(O.ge x0 (.int 0)).bind fun x6=>
some x6) (some (.bool false))).bind fun x6=>
cnd x6 (
W F2 3 [x0,x1,(.int 0),x2]) (
some [x0]):=Az rfl (by kernel_rfl)
theorem Aqj (x0 x1 x2 x3:IV):W F2 3 [x0,x1,x2,x3]=
(O.proj 6 x3).bind fun x4=>
(O.index x4 x1).bind fun x5=>
(O.proj 3 x5).bind fun x6=>
(O.len x6).bind fun x7=>
(O.lt x2 x7).bind fun x8=>
cnd x8 (
(O.gt x2 (.int 2)).bind fun x9=>
(cnd x9 (some (.bool true)) (
(O.index x6 x2).bind fun x10=>
calls (W F3 0 [x10,(.int 50)]) 1 fun x11=>
(O.not x11).bind fun x12=>
some x12)).bind fun x10=>
cnd x10 (
some [(.int (-1))]) (
(O.add .i64 x2 (.int 1)).bind fun x11=>
W F2 3 [x0,x1,x11,x3])) (
(O.projs 4 7 x5).bind fun x9=>
calls (W F2 0 [x9,x0]) 1 fun x10=>
(O.add .i64 x1 (.int 1)).bind fun x11=>
W F2 2 [x10,x11,x3]):=Az rfl (by kernel_rfl)
theorem Aw4 (x0 x1:IV):W F3 0 [x0,x1]=
calls (W F4 0 [x0,x1,x1]) 1 fun x2=>
(O.ge x2 (.int 0)).bind fun x3=>
some [x3]:=Az rfl (by kernel_rfl)
theorem Avz (x0 x1 x2:IV):W F4 0 [x0,x1,x2]=
(O.le x1 (.int 0)).bind fun x3=>
(cnd x3 (some (.bool true)) (
(O.le x2 (.int 0)).bind fun x4=>
some x4)).bind fun x4=>
(cnd x4 (some (.bool true)) (
(O.proj 2 x0).bind fun x5=>
(O.Qv x5).bind fun x6=>
(O.gt x6 (.int 1000)).bind fun x7=>
some x7)).bind fun x5=>
cnd x5 (
some [(.int (-1))]) (
(O.sub .i64 x1 (.int 1)).bind fun x6=>
W F4 1 [x6,x2,(.int 0),x0]):=Az rfl (by kernel_rfl)
theorem Aqu (x0 x1 x2 x3:IV):W F4 1 [x0,x1,x2,x3]=
(O.proj 3 x3).bind fun x4=>
(O.len x4).bind fun x5=>
(O.lt x2 x5).bind fun x6=>
(cnd x6 (
(O.ge x0 (.int 0)).bind fun x7=>
some x7) (some (.bool false))).bind fun x7=>
cnd x7 (
(O.index x4 x2).bind fun x8=>
(O.sub .i64 x1 (.int 1)).bind fun x9=>
calls (W F4 0 [x8,x0,x9]) 1 fun x10=>
(O.add .i64 x2 (.int 1)).bind fun x11=>
W F4 1 [x10,x1,x11,x3]) (
W F4 2 [x0,x1,(.int 0),x3]):=Az rfl (by kernel_rfl)
theorem Aqg (x0 x1 x2 x3:IV):W F4 2 [x0,x1,x2,x3]=
(O.proj 4 x3).bind fun x4=>
(O.len x4).bind fun x5=>
(O.lt x2 x5).bind fun x6=>
(cnd x6 (
(O.ge x0 (.int 0)).bind fun x7=>
some x7) (some (.bool false))).bind fun x7=>
cnd x7 (
(O.index x4 x2).bind fun x8=>
(O.proj 0 x8).bind fun x9=>
(O.Qv x9).bind fun x10=>
(O.gt x10 (.int 1000)).bind fun x11=>
cnd x11 (
some [(.int (-1))]) (
(O.projs 1 5 x8).bind fun x12=>
(O.sub .i64 x1 (.int 1)).bind fun x13=>
calls (W F4 0 [x12,x0,x13]) 1 fun x14=>
(O.add .i64 x2 (.int 1)).bind fun x15=>
W F4 2 [x14,x1,x15,x3])) (
some [x0]):=Az rfl (by kernel_rfl)
theorem Av4 (x0:IV):W F9 0 [x0]=
(O.proj 0 x0).bind fun x1=>
(O.proj 1 x0).bind fun x2=>
(O.proj 2 x0).bind fun x3=>
W F9 1 [(.int 0),x0,(.int 0),(.int 0),(.str ⟨#[]⟩),x1,x2,x3,(.list [])]:=Az rfl (by kernel_rfl)
theorem Apv (x0 x1 x2 x3 x4 x5 x6 x7 x8:IV):W F9 1 [x0,x1,x2,x3,x4,x5,x6,x7,x8]=
(O.proj 3 x1).bind fun x9=>
(O.len x9).bind fun x10=>
(O.lt x0 x10).bind fun x11=>
cnd x11 (
(O.index x9 x0).bind fun x12=>
calls (W F9 0 [x12]) 5 fun x13 x14 x15 x16 x17=>
(O.Dp [x13,x14,x15,x16,x17]).bind fun x18=>
(O.Dr [x18]).bind fun x19=>
(O.append 80 x8 x19).bind fun x20=>
(O.add .i64 x0 (.int 1)).bind fun x21=>
W F9 1 [x21,x1,x2,x3,x4,x5,x6,x7,x20]) (
W F9 2 [(.int 0),x1,x2,x3,x4,x5,x6,x7,x8,(.list [])]):=Az rfl (by kernel_rfl)
theorem Ap1 (x0 x1 x2 x3 x4 x5 x6 x7 x8 x9:IV):W F9 2 [x0,x1,x2,x3,x4,x5,x6,x7,x8,x9]=
(O.proj 4 x1).bind fun x10=>
(O.len x10).bind fun x11=>
(O.lt x0 x11).bind fun x12=>
cnd x12 (
(O.index x10 x0).bind fun x13=>
(O.proj 0 x13).bind fun x14=>
(O.projs 1 5 x13).bind fun x15=>
calls (W F9 0 [x15]) 5 fun x16 x17 x18 x19 x20=>
(O.Dp [x14,x16,x17,x18,x19,x20]).bind fun x21=>
(O.Dr [x21]).bind fun x22=>
(O.append 96 x9 x22).bind fun x23=>
(O.add .i64 x0 (.int 1)).bind fun x24=>
W F9 2 [x24,x1,x2,x3,x4,x5,x6,x7,x8,x23]) (
some [x5,x6,x7,x8,x9]):=Az rfl (by kernel_rfl)
theorem Auv (x0 x1:IV):W F12 0 [x0,x1]=
calls (W F13 0 [x0,x1]) 1 fun x2=>
(O.not x2).bind fun x3=>
cnd x3 (
some [(.list [])]) (
(O.proj 0 x1).bind fun x4=>
(O.proj 1 x1).bind fun x5=>
(O.proj 2 x1).bind fun x6=>
(O.proj 3 x1).bind fun x7=>
(O.proj 4 x1).bind fun x8=>
(O.proj 0 x0).bind fun x9=>
(O.proj 1 x0).bind fun x10=>
(O.proj 2 x0).bind fun x11=>
(O.proj 3 x0).bind fun x12=>
(O.proj 4 x0).bind fun x13=>
(O.proj 5 x0).bind fun x14=>
(O.proj 6 x0).bind fun x15=>
(O.Dp [(.int 0),(.str ⟨#[]⟩),(.int 0),(.str ⟨#[]⟩),x4,x5,x6,x7,x8,x9,x10,x11,x12,x13,x14,x15,(.bool true)]).bind fun x16=>
calls (W F81 0 [x16,(.list []),(.list [])]) 1 fun x17=>
calls (W F89 0 [x17]) 1 fun x18=>
some [x18]):=Az rfl (by kernel_rfl)
theorem Aub (x0 x1:IV):W F13 0 [x0,x1]=
calls (W F14 0 [x0]) 1 fun x2=>
(cnd x2 (
calls (W F19 0 [x1]) 1 fun x3=>
some x3) (some (.bool false))).bind fun x3=>
some [x3]:=Az rfl (by kernel_rfl)
theorem Ast (x0:IV):W F14 0 [x0]=
calls (W F15 0 [x0,(.int 12)]) 1 fun x1=>
some [x1]:=Az rfl (by kernel_rfl)
theorem Aly (x0 x1:IV):W F15 0 [x0,x1]=
(O.eq x1 (.int 0)).bind fun x2=>
(cnd x2 (some (.bool true)) (
(O.proj 0 x0).bind fun x3=>
(O.ne x3 (.int 3)).bind fun x4=>
(cnd x4 (
(O.proj 3 x0).bind fun x5=>
(O.len x5).bind fun x6=>
(O.gt x6 (.int 0)).bind fun x7=>
some x7) (some (.bool false))).bind fun x5=>
some x5)).bind fun x3=>
(cnd x3 (some (.bool true)) (
(O.proj 0 x0).bind fun x4=>
(O.ne x4 (.int 4)).bind fun x5=>
(cnd x5 (
(O.proj 4 x0).bind fun x6=>
(O.sNe x6 (.str ⟨#[]⟩)).bind fun x7=>
some x7) (some (.bool false))).bind fun x6=>
some x6)).bind fun x4=>
(cnd x4 (some (.bool true)) (
(O.proj 0 x0).bind fun x5=>
(O.ne x5 (.int 5)).bind fun x6=>
(cnd x6 (
(O.proj 6 x0).bind fun x7=>
(O.len x7).bind fun x8=>
(O.gt x8 (.int 0)).bind fun x9=>
some x9) (some (.bool false))).bind fun x7=>
some x7)).bind fun x5=>
(cnd x5 (some (.bool true)) (
(O.proj 0 x0).bind fun x6=>
(O.ne x6 (.int 5)).bind fun x7=>
(cnd x7 (
(O.ne x6 (.int 4)).bind fun x8=>
some x8) (some (.bool false))).bind fun x8=>
(cnd x8 (
(O.proj 5 x0).bind fun x9=>
(O.len x9).bind fun x10=>
(O.gt x10 (.int 0)).bind fun x11=>
some x11) (some (.bool false))).bind fun x9=>
some x9)).bind fun x6=>
cnd x6 (
some [(.bool false)]) (
(O.proj 0 x0).bind fun x7=>
(O.eq x7 (.int 1)).bind fun x8=>
cnd x8 (
(O.proj 1 x0).bind fun x9=>
(O.eq x9 (.int 0)).bind fun x10=>
(cnd x10 (
(O.proj 2 x0).bind fun x11=>
(O.eq x11 (.int 0)).bind fun x12=>
some x12) (some (.bool false))).bind fun x11=>
some [x11]) (
(O.eq x7 (.int 2)).bind fun x9=>
cnd x9 (
(O.proj 1 x0).bind fun x10=>
(O.le (.int (-1000000000000000)) x10).bind fun x11=>
(cnd x11 (
(O.proj 2 x0).bind fun x12=>
(O.le x10 x12).bind fun x13=>
some x13) (some (.bool false))).bind fun x12=>
(cnd x12 (
(O.proj 2 x0).bind fun x13=>
(O.le x13 (.int 1000000000000000)).bind fun x14=>
some x14) (some (.bool false))).bind fun x13=>
some [x13]) (
(O.eq x7 (.int 3)).bind fun x10=>
cnd x10 (
calls (W F16 0 [x0,(.int 200)]) 1 fun x11=>
(cnd x11 (
calls (W F17 0 [x0]) 1 fun x12=>
some x12) (some (.bool false))).bind fun x12=>
some [x12]) (
(O.eq x7 (.int 4)).bind fun x11=>
cnd x11 (
calls (W F16 0 [x0,(.int 64)]) 1 fun x12=>
(cnd x12 (
(O.proj 5 x0).bind fun x13=>
(O.len x13).bind fun x14=>
(O.eq x14 (.int 1)).bind fun x15=>
some x15) (some (.bool false))).bind fun x13=>
(cnd x13 (
(O.proj 5 x0).bind fun x14=>
(O.index x14 (.int 0)).bind fun x15=>
(O.sub .i64 x1 (.int 1)).bind fun x16=>
calls (W F15 0 [x15,x16]) 1 fun x17=>
some x17) (some (.bool false))).bind fun x14=>
(cnd x14 (
calls (W F25 0 [x0]) 1 fun x15=>
some x15) (some (.bool false))).bind fun x15=>
some [x15]) (
(O.eq x7 (.int 5)).bind fun x12=>
cnd x12 (
(O.proj 1 x0).bind fun x13=>
(O.ne x13 (.int 0)).bind fun x14=>
(cnd x14 (some (.bool true)) (
(O.proj 2 x0).bind fun x15=>
(O.ne x15 (.int 0)).bind fun x16=>
some x16)).bind fun x15=>
(cnd x15 (some (.bool true)) (
(O.proj 5 x0).bind fun x16=>
(O.len x16).bind fun x17=>
(O.gt x17 (.int 1)).bind fun x18=>
some x18)).bind fun x16=>
(cnd x16 (some (.bool true)) (
(O.proj 5 x0).bind fun x17=>
(O.len x17).bind fun x18=>
(O.eq x18 (.int 1)).bind fun x19=>
(cnd x19 (
(O.proj 6 x0).bind fun x20=>
(O.len x20).bind fun x21=>
(O.gt x21 (.int 0)).bind fun x22=>
some x22) (some (.bool false))).bind fun x20=>
some x20)).bind fun x17=>
(cnd x17 (some (.bool true)) (
(O.proj 6 x0).bind fun x18=>
(O.len x18).bind fun x19=>
(O.gt x19 (.int 64)).bind fun x20=>
some x20)).bind fun x18=>
cnd x18 (
some [(.bool false)]) (
(O.proj 5 x0).bind fun x19=>
calls (W F30 0 [x19,x1]) 1 fun x20=>
(O.not x20).bind fun x21=>
(cnd x21 (
(O.sub .i64 x1 (.int 1)).bind fun x22=>
calls (W F33 0 [x0,x22]) 1 fun x23=>
some x23) (some (.bool false))).bind fun x22=>
some [x22])) (
some [(.bool false)])))))):=Az rfl (by kernel_rfl)
theorem Asg (x0 x1:IV):W F16 0 [x0,x1]=
(O.proj 1 x0).bind fun x2=>
(O.le (.int 0) x2).bind fun x3=>
(cnd x3 (
(O.proj 2 x0).bind fun x4=>
(O.le x2 x4).bind fun x5=>
some x5) (some (.bool false))).bind fun x4=>
(cnd x4 (
(O.proj 2 x0).bind fun x5=>
(O.le x5 x1).bind fun x6=>
some x6) (some (.bool false))).bind fun x5=>
some [x5]:=Az rfl (by kernel_rfl)
theorem Asx (x0:IV):W F17 0 [x0]=
(O.proj 3 x0).bind fun x1=>
(O.len x1).bind fun x2=>
W F17 1 [x1,x2,(.int 0),x0]:=Az rfl (by kernel_rfl)
theorem Amj (x0 x1 x2 x3:IV):W F17 1 [x0,x1,x2,x3]=
(O.lt x2 x1).bind fun x4=>
cnd x4 (
(O.index x0 x2).bind fun x5=>
(O.Qv x5).bind fun x6=>
(O.proj 1 x3).bind fun x7=>
(O.lt x6 x7).bind fun x8=>
(cnd x8 (some (.bool true)) (
(O.proj 2 x3).bind fun x9=>
(O.gt x6 x9).bind fun x10=>
some x10)).bind fun x9=>
(cnd x9 (some (.bool true)) (
(O.gt x2 (.int 0)).bind fun x10=>
(cnd x10 (
(O.proj 3 x3).bind fun x11=>
(O.sub .i64 x2 (.int 1)).bind fun x12=>
(O.index x11 x12).bind fun x13=>
(O.sGe x13 x5).bind fun x14=>
some x14) (some (.bool false))).bind fun x11=>
some x11)).bind fun x10=>
(cnd x10 (some (.bool true)) (
calls (W F18 0 [x5]) 5 fun x11 x12 x13 x14 x15=>
(O.Dp [x11,x12,x13,x14,x15]).bind fun x16=>
calls (W F19 0 [x16]) 1 fun x17=>
(O.not x17).bind fun x18=>
some x18)).bind fun x11=>
cnd x11 (
some [(.bool false)]) (
(O.add .i64 x2 (.int 1)).bind fun x12=>
W F17 1 [x0,x1,x12,x3])) (
(O.proj 3 x3).bind fun x5=>
(O.len x5).bind fun x6=>
(O.le x6 (.int 64)).bind fun x7=>
some [x7]):=Az rfl (by kernel_rfl)
theorem Abp (x0:IV):W F18 0 [x0]=
some [(.int 3),(.int 0),x0,(.list []),(.list [])]:=Az rfl (by kernel_rfl)
theorem Aq7 (x0:IV):W F19 0 [x0]=
calls (W F20 0 [x0,(.int 12)]) 1 fun x1=>
(cnd x1 (
calls (W F24 0 [x0]) 1 fun x2=>
(O.le x2 (.int 600)).bind fun x3=>
some x3) (some (.bool false))).bind fun x2=>
some [x2]:=Az rfl (by kernel_rfl)
theorem Ail (x0 x1:IV):W F20 0 [x0,x1]=
(O.eq x1 (.int 0)).bind fun x2=>
(cnd x2 (some (.bool true)) (
calls (W F21 0 [x0]) 1 fun x3=>
(O.not x3).bind fun x4=>
some x4)).bind fun x3=>
(cnd x3 (some (.bool true)) (
(O.proj 0 x0).bind fun x4=>
(O.ne x4 (.int 4)).bind fun x5=>
(cnd x5 (
(O.proj 3 x0).bind fun x6=>
(O.len x6).bind fun x7=>
(O.gt x7 (.int 0)).bind fun x8=>
some x8) (some (.bool false))).bind fun x6=>
some x6)).bind fun x4=>
(cnd x4 (some (.bool true)) (
(O.proj 0 x0).bind fun x5=>
(O.ne x5 (.int 5)).bind fun x6=>
(cnd x6 (
(O.proj 4 x0).bind fun x7=>
(O.len x7).bind fun x8=>
(O.gt x8 (.int 0)).bind fun x9=>
some x9) (some (.bool false))).bind fun x7=>
some x7)).bind fun x5=>
(cnd x5 (some (.bool true)) (
(O.proj 3 x0).bind fun x6=>
(O.len x6).bind fun x7=>
(O.gt x7 (.int 64)).bind fun x8=>
some x8)).bind fun x6=>
(cnd x6 (some (.bool true)) (
(O.proj 4 x0).bind fun x7=>
(O.len x7).bind fun x8=>
(O.gt x8 (.int 64)).bind fun x9=>
some x9)).bind fun x7=>
cnd x7 (
some [(.bool false)]) (
(O.proj 3 x0).bind fun x8=>
(O.len x8).bind fun x9=>
W F20 1 [x1,x8,x9,(.int 0),x0]):=Az rfl (by kernel_rfl)
theorem Ait (x0 x1 x2 x3 x4:IV):W F20 1 [x0,x1,x2,x3,x4]=
(O.lt x3 x2).bind fun x5=>
cnd x5 (
(O.index x1 x3).bind fun x6=>
(O.sub .i64 x0 (.int 1)).bind fun x7=>
calls (W F20 0 [x6,x7]) 1 fun x8=>
(O.not x8).bind fun x9=>
cnd x9 (
some [(.bool false)]) (
(O.add .i64 x3 (.int 1)).bind fun x10=>
W F20 1 [x0,x1,x2,x10,x4])) (
(O.proj 4 x4).bind fun x6=>
(O.len x6).bind fun x7=>
W F20 2 [x0,x6,x7,(.int 0),x4]):=Az rfl (by kernel_rfl)
theorem Alf (x0 x1 x2 x3 x4:IV):W F20 2 [x0,x1,x2,x3,x4]=
(O.lt x3 x2).bind fun x5=>
cnd x5 (
(O.index x1 x3).bind fun x6=>
(O.proj 0 x6).bind fun x7=>
calls (W F23 0 [x7]) 1 fun x8=>
(O.not x8).bind fun x9=>
(cnd x9 (some (.bool true)) (
(O.gt x3 (.int 0)).bind fun x10=>
(cnd x10 (
(O.proj 4 x4).bind fun x11=>
(O.sub .i64 x3 (.int 1)).bind fun x12=>
(O.index x11 x12).bind fun x13=>
(O.proj 0 x13).bind fun x14=>
(O.sGe x14 x7).bind fun x15=>
some x15) (some (.bool false))).bind fun x11=>
some x11)).bind fun x10=>
(cnd x10 (some (.bool true)) (
(O.projs 1 5 x6).bind fun x11=>
(O.sub .i64 x0 (.int 1)).bind fun x12=>
calls (W F20 0 [x11,x12]) 1 fun x13=>
(O.not x13).bind fun x14=>
some x14)).bind fun x11=>
cnd x11 (
some [(.bool false)]) (
(O.add .i64 x3 (.int 1)).bind fun x12=>
W F20 2 [x0,x1,x2,x12,x4])) (
some [(.bool true)]):=Az rfl (by kernel_rfl)
theorem Ar1 (x0:IV):W F21 0 [x0]=
(O.proj 0 x0).bind fun x1=>
(O.eq x1 (.int 1)).bind fun x2=>
cnd x2 (
(O.proj 2 x0).bind fun x3=>
(O.sEq x3 (.str ⟨#[]⟩)).bind fun x4=>
(cnd x4 (
(O.proj 1 x0).bind fun x5=>
(O.eq x5 (.int 0)).bind fun x6=>
(cnd x6 (some (.bool true)) (
(O.eq x5 (.int 1)).bind fun x7=>
some x7)).bind fun x7=>
some x7) (some (.bool false))).bind fun x5=>
some [x5]) (
(O.eq x1 (.int 2)).bind fun x3=>
cnd x3 (
(O.proj 2 x0).bind fun x4=>
(O.sEq x4 (.str ⟨#[]⟩)).bind fun x5=>
(cnd x5 (
(O.proj 1 x0).bind fun x6=>
(O.ge x6 (.int (-1000000000000000))).bind fun x7=>
some x7) (some (.bool false))).bind fun x6=>
(cnd x6 (
(O.proj 1 x0).bind fun x7=>
(O.le x7 (.int 1000000000000000)).bind fun x8=>
some x8) (some (.bool false))).bind fun x7=>
some [x7]) (
(O.eq x1 (.int 3)).bind fun x4=>
cnd x4 (
(O.proj 1 x0).bind fun x5=>
(O.eq x5 (.int 0)).bind fun x6=>
(cnd x6 (
(O.proj 2 x0).bind fun x7=>
calls (W F22 0 [x7]) 1 fun x8=>
some x8) (some (.bool false))).bind fun x7=>
some [x7]) (
(O.eq x1 (.int 0)).bind fun x5=>
cnd x5 (
W F21 1 [x5,x0]) (
(O.eq x1 (.int 4)).bind fun x6=>
cnd x6 (
W F21 1 [x6,x0]) (
(O.eq x1 (.int 5)).bind fun x7=>
W F21 1 [x7,x0]))))):=Az rfl (by kernel_rfl)
theorem Wa (x0 x1:IV):W F21 1 [x0,x1]=
cnd x0 (
(O.proj 1 x1).bind fun x2=>
(O.eq x2 (.int 0)).bind fun x3=>
(cnd x3 (
(O.proj 2 x1).bind fun x4=>
(O.sEq x4 (.str ⟨#[]⟩)).bind fun x5=>
some x5) (some (.bool false))).bind fun x4=>
some [x4]) (
some [(.bool false)]):=Az rfl (by kernel_rfl)
theorem Asa (x0:IV):W F22 0 [x0]=
(O.Qv x0).bind fun x1=>
W F22 1 [x0,x1,(.int 0)]:=Az rfl (by kernel_rfl)
theorem Alx (x0 x1 x2:IV):W F22 1 [x0,x1,x2]=
(O.lt x2 x1).bind fun x3=>
cnd x3 (
(O.Ho x0 x2).bind fun x4=>
(O.ne x4 (.int 10)).bind fun x5=>
(cnd x5 (
(O.lt x4 (.int 32)).bind fun x6=>
(cnd x6 (some (.bool true)) (
(O.gt x4 (.int 126)).bind fun x7=>
some x7)).bind fun x7=>
some x7) (some (.bool false))).bind fun x6=>
cnd x6 (
some [(.bool false)]) (
(O.add .i64 x2 (.int 1)).bind fun x7=>
W F22 1 [x0,x1,x7])) (
(O.Qv x0).bind fun x4=>
(O.le x4 (.int 200)).bind fun x5=>
some [x5]):=Az rfl (by kernel_rfl)
theorem Ara (x0:IV):W F23 0 [x0]=
(O.Qv x0).bind fun x1=>
W F23 1 [x0,x1,(.int 0)]:=Az rfl (by kernel_rfl)
theorem Aio (x0 x1 x2:IV):W F23 1 [x0,x1,x2]=
(O.lt x2 x1).bind fun x3=>
cnd x3 (
(O.Ho x0 x2).bind fun x4=>
(O.ge x4 (.int 97)).bind fun x5=>
(cnd x5 (
(O.le x4 (.int 122)).bind fun x6=>
some x6) (some (.bool false))).bind fun x6=>
(cnd x6 (some (.bool true)) (
(O.ge x4 (.int 65)).bind fun x7=>
(cnd x7 (
(O.le x4 (.int 90)).bind fun x8=>
some x8) (some (.bool false))).bind fun x8=>
some x8)).bind fun x7=>
(cnd x7 (some (.bool true)) (
(O.ge x4 (.int 48)).bind fun x8=>
(cnd x8 (
(O.le x4 (.int 57)).bind fun x9=>
some x9) (some (.bool false))).bind fun x9=>
some x9)).bind fun x8=>
(cnd x8 (some (.bool true)) (
(O.eq x4 (.int 45)).bind fun x9=>
some x9)).bind fun x9=>
(cnd x9 (some (.bool true)) (
(O.eq x4 (.int 95)).bind fun x10=>
some x10)).bind fun x10=>
(cnd x10 (some (.bool true)) (
(O.eq x4 (.int 47)).bind fun x11=>
some x11)).bind fun x11=>
(O.not x11).bind fun x12=>
cnd x12 (
some [(.bool false)]) (
(O.add .i64 x2 (.int 1)).bind fun x13=>
W F23 1 [x0,x1,x13])) (
(O.Qv x0).bind fun x4=>
(O.ge x4 (.int 1)).bind fun x5=>
(cnd x5 (
(O.le x4 (.int 40)).bind fun x6=>
some x6) (some (.bool false))).bind fun x6=>
some [x6]):=Az rfl (by kernel_rfl)
theorem Atd (x0:IV):W F24 0 [x0]=
(O.proj 3 x0).bind fun x1=>
(O.len x1).bind fun x2=>
W F24 1 [(.int 1),x1,x2,(.int 0),x0]:=Az rfl (by kernel_rfl)
theorem Ah8 (x0 x1 x2 x3 x4:IV):W F24 1 [x0,x1,x2,x3,x4]=
(O.lt x3 x2).bind fun x5=>
cnd x5 (
(O.index x1 x3).bind fun x6=>
calls (W F24 0 [x6]) 1 fun x7=>
(O.add .i64 x0 x7).bind fun x8=>
(O.add .i64 x3 (.int 1)).bind fun x9=>
W F24 1 [x8,x1,x2,x9,x4]) (
(O.proj 4 x4).bind fun x6=>
(O.len x6).bind fun x7=>
W F24 2 [x0,x6,x7,(.int 0)]):=Az rfl (by kernel_rfl)
theorem Al3 (x0 x1 x2 x3:IV):W F24 2 [x0,x1,x2,x3]=
(O.lt x3 x2).bind fun x4=>
cnd x4 (
(O.index x1 x3).bind fun x5=>
(O.projs 1 5 x5).bind fun x6=>
calls (W F24 0 [x6]) 1 fun x7=>
(O.add .i64 x0 x7).bind fun x8=>
(O.add .i64 x3 (.int 1)).bind fun x9=>
W F24 2 [x8,x1,x2,x9]) (
some [x0]):=Az rfl (by kernel_rfl)
theorem Auj (x0:IV):W F25 0 [x0]=
(O.proj 5 x0).bind fun x1=>
(O.index x1 (.int 0)).bind fun x2=>
(O.proj 4 x0).bind fun x3=>
calls (W F26 0 [x2,x3]) 2 fun x4 x5=>
(O.sEq x3 (.str ⟨#[]⟩)).bind fun x6=>
(cnd x6 (some (.bool true)) (
(cnd x5 (
(O.proj 1 x4).bind fun x7=>
some x7) (some (.bool false))).bind fun x7=>
(cnd x7 (
(O.proj 4 x4).bind fun x8=>
(O.eq x8 (.int 3)).bind fun x9=>
some x9) (some (.bool false))).bind fun x8=>
some x8)).bind fun x7=>
some [x7]:=Az rfl (by kernel_rfl)
theorem Aux (x0 x1:IV):W F26 0 [x0,x1]=
(O.proj 6 x0).bind fun x2=>
calls (W F27 0 [x2,x1]) 1 fun x3=>
(O.lt x3 (.int 0)).bind fun x4=>
(cnd x4 (some (.bool true)) (
calls (W F29 0 [x0]) 1 fun x5=>
(O.not x5).bind fun x6=>
some x6)).bind fun x5=>
cnd x5 (
(O.Dp [(.str ⟨#[]⟩),(.bool false),(.bool false),(.list []),(.int 0),(.int 0),(.int 0),(.list []),(.str ⟨#[]⟩),(.list []),(.list [])]).bind fun x6=>
some [x6,(.bool false)]) (
(O.index x2 x3).bind fun x6=>
some [x6,(.bool true)]):=Az rfl (by kernel_rfl)
theorem Ar9 (x0 x1:IV):W F27 0 [x0,x1]=
(O.len x0).bind fun x2=>
W F27 1 [x0,x1,x2,(.int 0)]:=Az rfl (by kernel_rfl)
theorem Akg (x0 x1 x2 x3:IV):W F27 1 [x0,x1,x2,x3]=
(O.lt x3 x2).bind fun x4=>
cnd x4 (
(O.index x0 x3).bind fun x5=>
calls (W F28 0 [x5,x1]) 1 fun x6=>
cnd x6 (
some [x3]) (
(O.add .i64 x3 (.int 1)).bind fun x7=>
W F27 1 [x0,x1,x2,x7])) (
some [(.int (-1))]):=Az rfl (by kernel_rfl)
theorem Ar4 (x0 x1:IV):W F28 0 [x0,x1]=
(O.proj 0 x0).bind fun x2=>
(O.sEq x2 x1).bind fun x3=>
some [x3]:=Az rfl (by kernel_rfl)
theorem Asd (x0:IV):W F29 0 [x0]=
(O.proj 0 x0).bind fun x1=>
(O.eq x1 (.int 5)).bind fun x2=>
(cnd x2 (
(O.proj 5 x0).bind fun x3=>
(O.len x3).bind fun x4=>
(O.eq x4 (.int 0)).bind fun x5=>
some x5) (some (.bool false))).bind fun x3=>
some [x3]:=Az rfl (by kernel_rfl)
theorem Asv (x0 x1:IV):W F30 0 [x0,x1]=
calls (W F31 0 [x0,x1]) 1 fun x2=>
(O.ge x2 (.int 0)).bind fun x3=>
some [x3]:=Az rfl (by kernel_rfl)
theorem Ars (x0 x1:IV):W F31 0 [x0,x1]=
(O.len x0).bind fun x2=>
W F31 1 [x0,x1,x2,(.int 0)]:=Az rfl (by kernel_rfl)
theorem Abb (x0 x1 x2 x3:IV):W F31 1 [x0,x1,x2,x3]=
(O.lt x3 x2).bind fun x4=>
cnd x4 (
(O.index x0 x3).bind fun x5=>
calls (W F32 0 [x5,x1]) 1 fun x6=>
cnd x6 (
some [x3]) (
(O.add .i64 x3 (.int 1)).bind fun x7=>
W F31 1 [x0,x1,x2,x7])) (
some [(.int (-1))]):=Az rfl (by kernel_rfl)
theorem As3 (x0 x1:IV):W F32 0 [x0,x1]=
(O.sub .i64 x1 (.int 1)).bind fun x2=>
calls (W F15 0 [x0,x2]) 1 fun x3=>
(O.not x3).bind fun x4=>
some [x4]:=Az rfl (by kernel_rfl)
theorem At0 (x0 x1:IV):W F33 0 [x0,x1]=
(O.proj 6 x0).bind fun x2=>
(O.len x2).bind fun x3=>
W F33 1 [x1,x2,x3,(.int 0),x0]:=Az rfl (by kernel_rfl)
theorem Aj3 (x0 x1 x2 x3 x4:IV):W F33 1 [x0,x1,x2,x3,x4]=
(O.lt x3 x2).bind fun x5=>
cnd x5 (
(O.index x1 x3).bind fun x6=>
(O.proj 0 x6).bind fun x7=>
(O.Dp [x7,(.int 0),(.int 0),(.str ⟨#[]⟩),(.list []),(.list [])]).bind fun x8=>
(O.Dr [x8]).bind fun x9=>
calls (W F34 0 [x9]) 5 fun x10 x11 x12 x13 x14=>
(O.Dp [x10,x11,x12,x13,x14]).bind fun x15=>
calls (W F19 0 [x15]) 1 fun x16=>
(O.not x16).bind fun x17=>
(cnd x17 (some (.bool true)) (
(O.gt x3 (.int 0)).bind fun x18=>
(cnd x18 (
(O.proj 6 x4).bind fun x19=>
(O.sub .i64 x3 (.int 1)).bind fun x20=>
(O.index x19 x20).bind fun x21=>
(O.proj 0 x21).bind fun x22=>
(O.sGe x22 x7).bind fun x23=>
some x23) (some (.bool false))).bind fun x19=>
some x19)).bind fun x18=>
(cnd x18 (some (.bool true)) (
(O.projs 4 7 x6).bind fun x19=>
calls (W F15 0 [x19,x0]) 1 fun x20=>
(O.not x20).bind fun x21=>
some x21)).bind fun x19=>
(cnd x19 (some (.bool true)) (
(O.proj 3 x6).bind fun x20=>
(O.len x20).bind fun x21=>
(O.gt x21 (.int 1)).bind fun x22=>
some x22)).bind fun x20=>
cnd x20 (
some [(.bool false)]) (
(O.proj 3 x6).bind fun x21=>
(O.len x21).bind fun x22=>
W F33 2 [x0,x1,x2,x3,x21,x22,(.int 0),x4,x6])) (
some [(.bool true)]):=Az rfl (by kernel_rfl)
theorem Alm (x0 x1 x2 x3 x4 x5 x6 x7 x8:IV):W F33 2 [x0,x1,x2,x3,x4,x5,x6,x7,x8]=
(O.lt x6 x5).bind fun x9=>
cnd x9 (
(O.index x4 x6).bind fun x10=>
(O.proj 0 x10).bind fun x11=>
(O.eq x11 (.int 0)).bind fun x12=>
(cnd x12 (some (.bool true)) (
calls (W F19 0 [x10]) 1 fun x13=>
(O.not x13).bind fun x14=>
some x14)).bind fun x13=>
(cnd x13 (some (.bool true)) (
(O.projs 4 7 x8).bind fun x14=>
calls (W F48 0 [x14,x10]) 1 fun x15=>
(O.len x15).bind fun x16=>
(O.gt x16 (.int 0)).bind fun x17=>
some x17)).bind fun x14=>
cnd x14 (
some [(.bool false)]) (
(O.add .i64 x6 (.int 1)).bind fun x15=>
W F33 2 [x0,x1,x2,x3,x4,x5,x15,x7,x8])) (
(O.add .i64 x3 (.int 1)).bind fun x10=>
W F33 1 [x0,x1,x2,x10,x7]):=Az rfl (by kernel_rfl)
theorem Au0 (x0:IV):W F34 0 [x0]=
calls (W F35 0 [x0]) 1 fun x1=>
calls (W F36 0 [x1]) 1 fun x2=>
(O.len x2).bind fun x3=>
W F34 1 [x3,(.int 0),(.int 0),(.int 0),(.str ⟨#[]⟩),x2,(.int 5),(.int 0),(.str ⟨#[]⟩),(.list [])]:=Az rfl (by kernel_rfl)
theorem Awb (x0 x1 x2 x3 x4 x5 x6 x7 x8 x9:IV):W F34 1 [x0,x1,x2,x3,x4,x5,x6,x7,x8,x9]=
(O.lt x1 x0).bind fun x10=>
cnd x10 (
(O.index x5 x1).bind fun x11=>
(O.add .i64 x1 (.int 1)).bind fun x12=>
(O.len x5).bind fun x13=>
(O.eq x12 x13).bind fun x14=>
(cnd x14 (some (.bool true)) (
(O.add .i64 x1 (.int 1)).bind fun x15=>
(O.index x5 x15).bind fun x16=>
(O.proj 0 x16).bind fun x17=>
(O.proj 0 x11).bind fun x18=>
(O.sNe x17 x18).bind fun x19=>
some x19)).bind fun x15=>
cnd x15 (
(O.Dr [x11]).bind fun x16=>
(O.append 96 x9 x16).bind fun x17=>
W F34 2 [x0,x1,x2,x3,x4,x5,x6,x7,x8,x17]) (
W F34 2 [x0,x1,x2,x3,x4,x5,x6,x7,x8,x9])) (
(O.Dp [x6,x7,x8,(.list []),x9]).bind fun x11=>
calls (W F46 0 [x11]) 5 fun x12 x13 x14 x15 x16=>
some [x12,x13,x14,x15,x16]):=Az rfl (by kernel_rfl)
theorem Abn (x0 x1 x2 x3 x4 x5 x6 x7 x8 x9:IV):W F34 2 [x0,x1,x2,x3,x4,x5,x6,x7,x8,x9]=
(O.add .i64 x1 (.int 1)).bind fun x10=>
W F34 1 [x0,x10,x2,x3,x4,x5,x6,x7,x8,x9]:=Az rfl (by kernel_rfl)
theorem Ats (xs:List IV):W F35 0 xs=O.Lc xs:=Ahk _ _ _ _
theorem Asp (x0 x1:IV):W F39 0 [x0,x1]=
(O.proj 0 x0).bind fun x2=>
(O.proj 0 x1).bind fun x3=>
calls (W F40 0 [x2,x3]) 1 fun x4=>
some [x4]:=Az rfl (by kernel_rfl)
theorem Ark (x0 x1:IV):W F40 0 [x0,x1]=
calls (W F41 0 [x0,x1]) 1 fun x2=>
some [x2]:=Az rfl (by kernel_rfl)
theorem Atq (x0 x1:IV):W F41 0 [x0,x1]=
calls (W F42 0 [x0,x1]) 1 fun x2=>
some [x2]:=Az rfl (by kernel_rfl)
theorem Ax1 (xs:List IV):W F42 0 xs=O.Of xs:=Ahk _ _ _ _
theorem Aus (x0:IV):W F46 0 [x0]=
(O.proj 3 x0).bind fun x1=>
calls (W F47 0 [x1]) 1 fun x2=>
(O.proj 0 x0).bind fun x3=>
(O.proj 1 x0).bind fun x4=>
(O.proj 2 x0).bind fun x5=>
(O.proj 4 x0).bind fun x6=>
(O.len x2).bind fun x7=>
W F46 1 [x7,(.int 0),x3,x4,x5,x6,(.int 0),(.int 0),(.str ⟨#[]⟩),x2]:=Az rfl (by kernel_rfl)
theorem Ai6 (x0 x1 x2 x3 x4 x5 x6 x7 x8 x9:IV):W F46 1 [x0,x1,x2,x3,x4,x5,x6,x7,x8,x9]=
(O.lt x1 x0).bind fun x10=>
cnd x10 (
(O.index x9 x1).bind fun x11=>
calls (W F46 0 [x11]) 5 fun x12 x13 x14 x15 x16=>
(O.Dp [x12,x13,x14,x15,x16]).bind fun x17=>
(O.setAt 0 5 true true x9 x1 x17).bind fun x18=>
(O.add .i64 x1 (.int 1)).bind fun x19=>
W F46 1 [x0,x19,x2,x3,x4,x5,x6,x7,x8,x18]) (
calls (W F35 0 [x5]) 1 fun x11=>
(O.len x11).bind fun x12=>
W F46 2 [x12,(.int 0),x2,x3,x4,x6,x7,x8,x11,x9]):=Az rfl (by kernel_rfl)
theorem Aif (x0 x1 x2 x3 x4 x5 x6 x7 x8 x9:IV):W F46 2 [x0,x1,x2,x3,x4,x5,x6,x7,x8,x9]=
(O.lt x1 x0).bind fun x10=>
cnd x10 (
(O.index x8 x1).bind fun x11=>
(O.projs 1 5 x11).bind fun x12=>
calls (W F46 0 [x12]) 5 fun x13 x14 x15 x16 x17=>
(O.Dp [x13,x14,x15,x16,x17]).bind fun x18=>
(O.setAt 1 5 true false x8 x1 x18).bind fun x19=>
(O.add .i64 x1 (.int 1)).bind fun x20=>
W F46 2 [x0,x20,x2,x3,x4,x5,x6,x7,x19,x9]) (
some [x2,x3,x4,x9,x8]):=Az rfl (by kernel_rfl)
theorem Ax8 (xs:List IV):W F47 0 xs=O.Lc xs:=Ahk _ _ _ _
theorem Ati (x0 x1:IV):W F48 0 [x0,x1]=
calls (W F49 0 [(.list []),x0,x1,(.list [])]) 1 fun x2=>
some [x2]:=Az rfl (by kernel_rfl)
theorem Arj (x0 x1 x2 x3:IV):W F49 0 [x0,x1,x2,x3]=
(O.proj 0 x2).bind fun x4=>
(O.proj 0 x1).bind fun x5=>
(O.ne x4 x5).bind fun x6=>
cnd x6 (
calls (W F50 0 [x0,x3,(.int 6)]) 1 fun x7=>
some [x7]) (
(O.eq x4 (.int 2)).bind fun x7=>
cnd x7 (
(O.proj 1 x2).bind fun x8=>
(O.proj 1 x1).bind fun x9=>
(O.lt x8 x9).bind fun x10=>
(cnd x10 (some (.bool true)) (
(O.proj 2 x1).bind fun x11=>
(O.gt x8 x11).bind fun x12=>
some x12)).bind fun x11=>
cnd x11 (
calls (W F50 0 [x0,x3,(.int 5)]) 1 fun x12=>
some [x12]) (
some [x0])) (
(O.eq x4 (.int 3)).bind fun x8=>
cnd x8 (
(O.proj 2 x2).bind fun x9=>
(O.Qv x9).bind fun x10=>
(O.proj 1 x1).bind fun x11=>
(O.lt x10 x11).bind fun x12=>
(cnd x12 (some (.bool true)) (
(O.proj 2 x1).bind fun x13=>
(O.gt x10 x13).bind fun x14=>
some x14)).bind fun x13=>
cnd x13 (
calls (W F50 0 [x0,x3,(.int 5)]) 1 fun x14=>
some [x14]) (
(O.proj 3 x1).bind fun x14=>
(O.len x14).bind fun x15=>
(O.gt x15 (.int 0)).bind fun x16=>
(cnd x16 (
calls (W F68 0 [x14,x9]) 1 fun x17=>
(O.not x17).bind fun x18=>
some x18) (some (.bool false))).bind fun x17=>
cnd x17 (
calls (W F50 0 [x0,x3,(.int 1)]) 1 fun x18=>
some [x18]) (
some [x0]))) (
(O.eq x4 (.int 4)).bind fun x9=>
cnd x9 (
calls (W F70 0 [x0,x1,x2,x3]) 1 fun x10=>
some [x10]) (
calls (W F77 0 [x1]) 1 fun x10=>
cnd x10 (
(O.proj 4 x2).bind fun x11=>
(O.len x11).bind fun x12=>
W F49 1 [x3,x11,x12,(.int 0),x1,x0]) (
(O.eq x4 (.int 5)).bind fun x11=>
cnd x11 (
calls (W F78 0 [x0,x1,x2,x3]) 1 fun x12=>
some [x12]) (
some [x0])))))):=Az rfl (by kernel_rfl)
theorem Akp (x0 x1 x2 x3 x4 x5:IV):W F49 1 [x0,x1,x2,x3,x4,x5]=
(O.lt x3 x2).bind fun x6=>
cnd x6 (
(O.index x1 x3).bind fun x7=>
(O.proj 1 x7).bind fun x8=>
(O.ne x8 (.int 0)).bind fun x9=>
cnd x9 (
(O.proj 5 x4).bind fun x10=>
(O.index x10 (.int 0)).bind fun x11=>
(O.projs 1 5 x7).bind fun x12=>
(O.proj 0 x7).bind fun x13=>
calls (W F79 0 [x13]) 1 fun x14=>
calls (W F74 0 [x0,x14]) 1 fun x15=>
calls (W F49 0 [x5,x11,x12,x15]) 1 fun x16=>
W F49 2 [x0,x1,x2,x3,x4,x16]) (
W F49 2 [x0,x1,x2,x3,x4,x5])) (
some [x5]):=Az rfl (by kernel_rfl)
theorem Arc (x0 x1 x2 x3 x4 x5:IV):W F49 2 [x0,x1,x2,x3,x4,x5]=
(O.add .i64 x3 (.int 1)).bind fun x6=>
W F49 1 [x0,x1,x2,x6,x4,x5]:=Az rfl (by kernel_rfl)
theorem Aug (x0 x1 x2:IV):W F50 0 [x0,x1,x2]=
calls (W F51 0 [x1]) 2 fun x3 x4=>
(O.Dp [x3,x2]).bind fun x5=>
(O.Dr [x5]).bind fun x6=>
(O.append 24 x0 x6).bind fun x7=>
some [x7]:=Az rfl (by kernel_rfl)
theorem Ave (x0:IV):W F51 0 [x0]=
calls (W F52 0 [x0]) 1 fun x1=>
(O.not x1).bind fun x2=>
cnd x2 (
some [(.str ⟨#[]⟩),(.int 1)]) (
(O.len x0).bind fun x3=>
W F51 1 [x0,x3,(.int 0),(.list [])]):=Az rfl (by kernel_rfl)
theorem Ajl (x0 x1 x2 x3:IV):W F51 1 [x0,x1,x2,x3]=
(O.lt x2 x1).bind fun x4=>
cnd x4 (
(O.index x0 x2).bind fun x5=>
(O.proj 0 x5).bind fun x6=>
(O.eq x6 (.int 1)).bind fun x7=>
cnd x7 (
(O.gt x2 (.int 0)).bind fun x8=>
cnd x8 (
calls (W F59 0 [x3,(.int 46)]) 1 fun x9=>
W F51 2 [x0,x1,x2,x5,x9]) (
W F51 2 [x0,x1,x2,x5,x3])) (
(O.eq x6 (.int 2)).bind fun x8=>
cnd x8 (
(O.proj 2 x5).bind fun x9=>
calls (W F61 0 [x9]) 1 fun x10=>
(O.cat (.str ⟨#[91]⟩) x10).bind fun x11=>
(O.cat x11 (.str ⟨#[93]⟩)).bind fun x12=>
calls (W F62 0 [x3,x12]) 2 fun x13 x14=>
W F51 3 [x0,x1,x2,x14]) (
(O.eq x6 (.int 3)).bind fun x9=>
cnd x9 (
(O.proj 1 x5).bind fun x10=>
(O.cat (.str ⟨#[91]⟩) x10).bind fun x11=>
(O.cat x11 (.str ⟨#[61]⟩)).bind fun x12=>
(O.proj 3 x5).bind fun x13=>
calls (W F63 0 [x13]) 1 fun x14=>
(O.cat x12 x14).bind fun x15=>
(O.cat x15 (.str ⟨#[93]⟩)).bind fun x16=>
calls (W F62 0 [x3,x16]) 2 fun x17 x18=>
W F51 3 [x0,x1,x2,x18]) (
W F51 3 [x0,x1,x2,x3])))) (
calls (W F64 0 [x3]) 1 fun x5=>
some [x5,(.int 0)]):=Az rfl (by kernel_rfl)
theorem Aij (x0 x1 x2 x3 x4:IV):W F51 2 [x0,x1,x2,x3,x4]=
(O.proj 1 x3).bind fun x5=>
calls (W F62 0 [x4,x5]) 2 fun x6 x7=>
W F51 3 [x0,x1,x2,x7]:=Az rfl (by kernel_rfl)
theorem Asw (x0 x1 x2 x3:IV):W F51 3 [x0,x1,x2,x3]=
(O.add .i64 x2 (.int 1)).bind fun x4=>
W F51 1 [x0,x1,x4,x3]:=Az rfl (by kernel_rfl)
theorem Atx (x0:IV):W F52 0 [x0]=
(O.len x0).bind fun x1=>
(O.le x1 (.int 16)).bind fun x2=>
(cnd x2 (
calls (W F53 0 [x0]) 1 fun x3=>
(O.not x3).bind fun x4=>
some x4) (some (.bool false))).bind fun x3=>
some [x3]:=Az rfl (by kernel_rfl)
theorem Au8 (x0:IV):W F53 0 [x0]=
calls (W F54 0 [x0]) 1 fun x1=>
(O.ge x1 (.int 0)).bind fun x2=>
some [x2]:=Az rfl (by kernel_rfl)
theorem Au7 (x0:IV):W F54 0 [x0]=
(O.len x0).bind fun x1=>
W F54 1 [x0,x1,(.int 0)]:=Az rfl (by kernel_rfl)
theorem Aip (x0 x1 x2:IV):W F54 1 [x0,x1,x2]=
(O.lt x2 x1).bind fun x3=>
cnd x3 (
(O.index x0 x2).bind fun x4=>
calls (W F55 0 [x4]) 1 fun x5=>
cnd x5 (
some [x2]) (
(O.add .i64 x2 (.int 1)).bind fun x6=>
W F54 1 [x0,x1,x6])) (
some [(.int (-1))]):=Az rfl (by kernel_rfl)
theorem Auw (x0:IV):W F55 0 [x0]=
calls (W F56 0 [x0]) 1 fun x1=>
(O.not x1).bind fun x2=>
some [x2]:=Az rfl (by kernel_rfl)
theorem Att (x0:IV):W F56 0 [x0]=
(O.proj 0 x0).bind fun x1=>
(O.eq x1 (.int 1)).bind fun x2=>
cnd x2 (
(O.proj 1 x0).bind fun x3=>
calls (W F57 0 [x3]) 1 fun x4=>
(cnd x4 (
(O.proj 2 x0).bind fun x5=>
(O.eq x5 (.int 0)).bind fun x6=>
some x6) (some (.bool false))).bind fun x5=>
(cnd x5 (
(O.proj 3 x0).bind fun x6=>
(O.sEq x6 (.str ⟨#[]⟩)).bind fun x7=>
some x7) (some (.bool false))).bind fun x6=>
some [x6]) (
(O.eq x1 (.int 2)).bind fun x3=>
cnd x3 (
(O.proj 2 x0).bind fun x4=>
(O.ge x4 (.int 0)).bind fun x5=>
(cnd x5 (
(O.le x4 (.int 64)).bind fun x6=>
some x6) (some (.bool false))).bind fun x6=>
(cnd x6 (
(O.proj 1 x0).bind fun x7=>
(O.sEq x7 (.str ⟨#[]⟩)).bind fun x8=>
some x8) (some (.bool false))).bind fun x7=>
(cnd x7 (
(O.proj 3 x0).bind fun x8=>
(O.sEq x8 (.str ⟨#[]⟩)).bind fun x9=>
some x9) (some (.bool false))).bind fun x8=>
some [x8]) (
(O.eq x1 (.int 3)).bind fun x4=>
cnd x4 (
(O.proj 1 x0).bind fun x5=>
calls (W F57 0 [x5]) 1 fun x6=>
(cnd x6 (
(O.proj 2 x0).bind fun x7=>
(O.eq x7 (.int 0)).bind fun x8=>
some x8) (some (.bool false))).bind fun x7=>
(cnd x7 (
(O.proj 3 x0).bind fun x8=>
calls (W F18 0 [x8]) 5 fun x9 x10 x11 x12 x13=>
(O.Dp [x9,x10,x11,x12,x13]).bind fun x14=>
calls (W F19 0 [x14]) 1 fun x15=>
some x15) (some (.bool false))).bind fun x8=>
some [x8]) (
some [(.bool false)]))):=Az rfl (by kernel_rfl)
theorem Arb (x0:IV):W F57 0 [x0]=
W F57 1 [x0,x0,(.int 0)]:=Az rfl (by kernel_rfl)
theorem Aib (x0 x1 x2:IV):W F57 1 [x0,x1,x2]=
(O.L9 x1 x2).bind fun x3=>
(O.Mf x1 x2).bind fun x4=>
(O.G7 x1 x2).bind fun x5=>
cnd x3 (
(O.Agk x3).bind fun x6=>
calls (W F58 0 [x4]) 1 fun x7=>
(O.not x7).bind fun x8=>
cnd x8 (
some [(.bool false)]) (
W F57 1 [x0,x1,x5])) (
(O.sNe x0 (.str ⟨#[]⟩)).bind fun x6=>
(cnd x6 (
(O.Qv x0).bind fun x7=>
(O.le x7 (.int 40)).bind fun x8=>
some x8) (some (.bool false))).bind fun x7=>
some [x7]):=Az rfl (by kernel_rfl)
theorem At5 (x0:IV):W F58 0 [x0]=
(O.ge x0 (.int 97)).bind fun x1=>
(cnd x1 (
(O.le x0 (.int 122)).bind fun x2=>
some x2) (some (.bool false))).bind fun x2=>
(cnd x2 (some (.bool true)) (
(O.ge x0 (.int 65)).bind fun x3=>
(cnd x3 (
(O.le x0 (.int 90)).bind fun x4=>
some x4) (some (.bool false))).bind fun x4=>
some x4)).bind fun x3=>
(cnd x3 (some (.bool true)) (
(O.ge x0 (.int 48)).bind fun x4=>
(cnd x4 (
(O.le x0 (.int 57)).bind fun x5=>
some x5) (some (.bool false))).bind fun x5=>
some x5)).bind fun x4=>
(cnd x4 (some (.bool true)) (
(O.eq x0 (.int 45)).bind fun x5=>
some x5)).bind fun x5=>
(cnd x5 (some (.bool true)) (
(O.eq x0 (.int 95)).bind fun x6=>
some x6)).bind fun x6=>
(cnd x6 (some (.bool true)) (
(O.eq x0 (.int 47)).bind fun x7=>
some x7)).bind fun x7=>
some [x7]:=Az rfl (by kernel_rfl)
theorem Arp (x0 x1:IV):W F59 0 [x0,x1]=
calls (W F60 0 [x0]) 1 fun x2=>
(O.Dr [x1]).bind fun x3=>
(O.append 1 x2 x3).bind fun x4=>
some [x4]:=Az rfl (by kernel_rfl)
theorem Atw (xs:List IV):W F60 0 xs=O.Jf xs:=Ahk _ _ _ _
theorem Ax0 (xs:List IV):W F61 0 xs=O.Ag3 xs:=Ahk _ _ _ _
theorem Ar8 (x0 x1:IV):W F62 0 [x0,x1]=
calls (W F60 0 [x0]) 1 fun x2=>
(O.Mu x2 x1).bind fun x3=>
(O.Qv x1).bind fun x4=>
some [x4,x3]:=Az rfl (by kernel_rfl)
theorem At8 (x0:IV):W F63 0 [x0]=
calls (W F59 0 [(.list []),(.int 34)]) 1 fun x1=>
W F63 1 [x0,(.int 0),x1]:=Az rfl (by kernel_rfl)
theorem Akh (x0 x1 x2:IV):W F63 1 [x0,x1,x2]=
(O.L9 x0 x1).bind fun x3=>
(O.Mf x0 x1).bind fun x4=>
(O.G7 x0 x1).bind fun x5=>
cnd x3 (
(O.Agk x3).bind fun x6=>
(O.eq x4 (.int 34)).bind fun x7=>
cnd x7 (
W F63 2 [x4,x4,x7,x0,x5,x2]) (
(O.eq x4 (.int 92)).bind fun x8=>
W F63 2 [x4,x4,x8,x0,x5,x2])) (
calls (W F59 0 [x2,(.int 34)]) 1 fun x6=>
calls (W F64 0 [x6]) 1 fun x7=>
some [x7]):=Az rfl (by kernel_rfl)
theorem Ahu (x0 x1 x2 x3 x4 x5:IV):W F63 2 [x0,x1,x2,x3,x4,x5]=
cnd x2 (
calls (W F59 0 [x5,(.int 92)]) 1 fun x6=>
calls (W F65 0 [x6,x0]) 2 fun x7 x8=>
W F63 3 [x3,x4,x8]) (
(O.eq x1 (.int 10)).bind fun x6=>
cnd x6 (
calls (W F62 0 [x5,(.str ⟨#[92,110]⟩)]) 2 fun x7 x8=>
W F63 3 [x3,x4,x8]) (
calls (W F65 0 [x5,x0]) 2 fun x7 x8=>
W F63 3 [x3,x4,x8])):=Az rfl (by kernel_rfl)
theorem As9 (x0 x1 x2:IV):W F63 3 [x0,x1,x2]=
W F63 1 [x0,x1,x2]:=Az rfl (by kernel_rfl)
theorem Av5 (xs:List IV):W F64 0 xs=O.Py xs:=Ahk _ _ _ _
theorem At4 (x0 x1:IV):W F65 0 [x0,x1]=
calls (W F60 0 [x0]) 1 fun x2=>
(O.len x2).bind fun x3=>
calls (W F66 0 [x2,x1]) 1 fun x4=>
(O.len x4).bind fun x5=>
(O.sub .i64 x5 x3).bind fun x6=>
some [x6,x4]:=Az rfl (by kernel_rfl)
theorem As8 (x0 x1:IV):W F66 0 [x0,x1]=
(O.conv .u32 x1).bind fun x2=>
(O.le x2 (.int 127)).bind fun x3=>
cnd x3 (
(O.conv .u8 x1).bind fun x4=>
(O.Dr [x4]).bind fun x5=>
(O.append 1 x0 x5).bind fun x6=>
some [x6]) (
calls (W F67 0 [x0,x1]) 1 fun x4=>
some [x4]):=Az rfl (by kernel_rfl)
theorem Arn (x0 x1:IV):W F68 0 [x0,x1]=
calls (W F69 0 [x0,x1]) 1 fun x2=>
(O.ge x2 (.int 0)).bind fun x3=>
some [x3]:=Az rfl (by kernel_rfl)
theorem Aty (x0 x1:IV):W F69 0 [x0,x1]=
(O.len x0).bind fun x2=>
W F69 1 [x0,x1,x2,(.int 0)]:=Az rfl (by kernel_rfl)
theorem Aht (x0 x1 x2 x3:IV):W F69 1 [x0,x1,x2,x3]=
(O.lt x3 x2).bind fun x4=>
cnd x4 (
(O.index x0 x3).bind fun x5=>
(O.sEq x1 x5).bind fun x6=>
cnd x6 (
some [x3]) (
(O.add .i64 x3 (.int 1)).bind fun x7=>
W F69 1 [x0,x1,x2,x7])) (
some [(.int (-1))]):=Az rfl (by kernel_rfl)
theorem Aro (x0 x1 x2 x3:IV):W F70 0 [x0,x1,x2,x3]=
(O.proj 3 x2).bind fun x4=>
(O.len x4).bind fun x5=>
(O.proj 1 x1).bind fun x6=>
(O.lt x5 x6).bind fun x7=>
(cnd x7 (some (.bool true)) (
(O.proj 2 x1).bind fun x8=>
(O.gt x5 x8).bind fun x9=>
some x9)).bind fun x8=>
cnd x8 (
calls (W F50 0 [x0,x3,(.int 5)]) 1 fun x9=>
W F70 1 [x3,x1,x2,x9]) (
W F70 1 [x3,x1,x2,x0]):=Az rfl (by kernel_rfl)
theorem Atj (x0 x1 x2 x3:IV):W F70 1 [x0,x1,x2,x3]=
(O.proj 3 x2).bind fun x4=>
(O.len x4).bind fun x5=>
W F70 2 [x0,x4,x5,(.int 0),x1,(.list []),x3]:=Az rfl (by kernel_rfl)
theorem Ak9 (x0 x1 x2 x3 x4 x5 x6:IV):W F70 2 [x0,x1,x2,x3,x4,x5,x6]=
(O.lt x3 x2).bind fun x7=>
cnd x7 (
(O.index x1 x3).bind fun x8=>
calls (W F71 0 [x4,x3,x8]) 1 fun x9=>
calls (W F74 0 [x0,x9]) 1 fun x10=>
(O.proj 5 x4).bind fun x11=>
(O.index x11 (.int 0)).bind fun x12=>
calls (W F49 0 [x6,x12,x8,x10]) 1 fun x13=>
(O.proj 4 x4).bind fun x14=>
calls (W F72 0 [x8,x14]) 2 fun x15 x16=>
(cnd x16 (
(O.sNe x14 (.str ⟨#[]⟩)).bind fun x17=>
some x17) (some (.bool false))).bind fun x17=>
cnd x17 (
(O.Al5 (.bool false) x5 x15).bind fun x18=>
(O.Ahn x5 x15).bind fun x19=>
cnd x18 (
calls (W F50 0 [x13,x10,(.int 8)]) 1 fun x20=>
W F70 3 [x0,x15,x1,x2,x3,x4,x5,x20]) (
W F70 3 [x0,x15,x1,x2,x3,x4,x5,x13])) (
W F70 4 [x0,x1,x2,x3,x4,x5,x13])) (
some [x6]):=Az rfl (by kernel_rfl)
theorem Aiz (x0 x1 x2 x3 x4 x5 x6 x7:IV):W F70 3 [x0,x1,x2,x3,x4,x5,x6,x7]=
(O.Al8 x6 x1 (.bool true)).bind fun x8=>
W F70 4 [x0,x2,x3,x4,x5,x8,x7]:=Az rfl (by kernel_rfl)
theorem Ato (x0 x1 x2 x3 x4 x5 x6:IV):W F70 4 [x0,x1,x2,x3,x4,x5,x6]=
(O.add .i64 x3 (.int 1)).bind fun x7=>
W F70 2 [x0,x1,x2,x7,x4,x5,x6]:=Az rfl (by kernel_rfl)
theorem Au4 (x0 x1 x2:IV):W F71 0 [x0,x1,x2]=
(O.proj 4 x0).bind fun x3=>
calls (W F72 0 [x2,x3]) 2 fun x4 x5=>
(cnd x5 (
(O.sNe x3 (.str ⟨#[]⟩)).bind fun x6=>
some x6) (some (.bool false))).bind fun x6=>
cnd x6 (
(O.Dp [(.int 3),x3,(.int 0),x4]).bind fun x7=>
some [x7]) (
(O.Dp [(.int 2),(.str ⟨#[]⟩),x1,(.str ⟨#[]⟩)]).bind fun x7=>
some [x7]):=Az rfl (by kernel_rfl)
theorem Asu (x0 x1:IV):W F72 0 [x0,x1]=
calls (W F73 0 [x0,x1]) 6 fun x2 x3 x4 x5 x6 x7=>
(cnd x7 (
(O.eq x2 (.int 3)).bind fun x8=>
some x8) (some (.bool false))).bind fun x8=>
some [x4,x8]:=Az rfl (by kernel_rfl)
theorem Au5 (x0 x1:IV):W F73 0 [x0,x1]=
(O.proj 0 x0).bind fun x2=>
(O.eq x2 (.int 5)).bind fun x3=>
cnd x3 (
(O.proj 4 x0).bind fun x4=>
(O.len x4).bind fun x5=>
W F73 1 [x1,x4,x5,(.int 0),(.int 0),(.int 0),(.str ⟨#[]⟩)]) (
some [(.int 0),(.int 0),(.str ⟨#[]⟩),(.list []),(.list []),(.bool false)]):=Az rfl (by kernel_rfl)
theorem Aia (x0 x1 x2 x3 x4 x5 x6:IV):W F73 1 [x0,x1,x2,x3,x4,x5,x6]=
(O.lt x3 x2).bind fun x7=>
cnd x7 (
(O.index x1 x3).bind fun x8=>
(O.proj 0 x8).bind fun x9=>
(O.sEq x9 x0).bind fun x10=>
cnd x10 (
(O.projs 1 5 x8).bind fun x11=>
calls (W F46 0 [x11]) 5 fun x12 x13 x14 x15 x16=>
some [x12,x13,x14,x15,x16,(.bool true)]) (
(O.add .i64 x3 (.int 1)).bind fun x11=>
W F73 1 [x0,x1,x2,x11,x4,x5,x6])) (
some [(.int 0),(.int 0),(.str ⟨#[]⟩),(.list []),(.list []),(.bool false)]):=Az rfl (by kernel_rfl)
theorem Auc (x0 x1:IV):W F74 0 [x0,x1]=
calls (W F75 0 [x0]) 1 fun x2=>
calls (W F76 0 [x2]) 1 fun x3=>
(O.Dr [x1]).bind fun x4=>
(O.O1 48 x3 x4).bind fun x5=>
some [x5]:=Az rfl (by kernel_rfl)
theorem Av6 (xs:List IV):W F75 0 xs=O.Lc xs:=Ahk _ _ _ _
theorem Axh (xs:List IV):W F76 0 xs=O.Ajx xs:=Ahk _ _ _ _
theorem Atr (x0:IV):W F77 0 [x0]=
(O.proj 0 x0).bind fun x1=>
(O.eq x1 (.int 5)).bind fun x2=>
(cnd x2 (
(O.proj 5 x0).bind fun x3=>
(O.len x3).bind fun x4=>
(O.gt x4 (.int 0)).bind fun x5=>
some x5) (some (.bool false))).bind fun x3=>
some [x3]:=Az rfl (by kernel_rfl)
theorem At9 (x0 x1 x2 x3:IV):W F78 0 [x0,x1,x2,x3]=
(O.proj 4 x2).bind fun x4=>
(O.len x4).bind fun x5=>
W F78 1 [x3,x4,x5,(.int 0),x1,x2,x0]:=Az rfl (by kernel_rfl)
theorem Aj8 (x0 x1 x2 x3 x4 x5 x6:IV):W F78 1 [x0,x1,x2,x3,x4,x5,x6]=
(O.lt x3 x2).bind fun x7=>
cnd x7 (
(O.index x1 x3).bind fun x8=>
(O.proj 0 x8).bind fun x9=>
calls (W F79 0 [x9]) 1 fun x10=>
calls (W F74 0 [x0,x10]) 1 fun x11=>
calls (W F26 0 [x4,x9]) 2 fun x12 x13=>
(O.not x13).bind fun x14=>
cnd x14 (
calls (W F50 0 [x6,x11,(.int 1)]) 1 fun x15=>
W F78 2 [x0,x1,x2,x3,x4,x5,x15]) (
(O.proj 1 x8).bind fun x15=>
(O.ne x15 (.int 0)).bind fun x16=>
cnd x16 (
(O.projs 4 7 x12).bind fun x17=>
(O.projs 1 5 x8).bind fun x18=>
calls (W F49 0 [x6,x17,x18,x11]) 1 fun x19=>
W F78 2 [x0,x1,x2,x3,x4,x5,x19]) (
W F78 2 [x0,x1,x2,x3,x4,x5,x6]))) (
(O.proj 6 x4).bind fun x8=>
(O.len x8).bind fun x9=>
W F78 3 [x0,x8,x9,(.int 0),x5,x6]):=Az rfl (by kernel_rfl)
theorem Ata (x0 x1 x2 x3 x4 x5 x6:IV):W F78 2 [x0,x1,x2,x3,x4,x5,x6]=
(O.add .i64 x3 (.int 1)).bind fun x7=>
W F78 1 [x0,x1,x2,x7,x4,x5,x6]:=Az rfl (by kernel_rfl)
theorem Ahw (x0 x1 x2 x3 x4 x5:IV):W F78 3 [x0,x1,x2,x3,x4,x5]=
(O.lt x3 x2).bind fun x6=>
cnd x6 (
(O.index x1 x3).bind fun x7=>
(O.proj 0 x7).bind fun x8=>
calls (W F80 0 [x4,x8]) 6 fun x9 x10 x11 x12 x13 x14=>
(O.proj 1 x7).bind fun x15=>
(cnd x15 (
(O.not x14).bind fun x16=>
some x16) (some (.bool false))).bind fun x16=>
cnd x16 (
calls (W F79 0 [x8]) 1 fun x17=>
calls (W F74 0 [x0,x17]) 1 fun x18=>
calls (W F50 0 [x5,x18,(.int 7)]) 1 fun x19=>
W F78 4 [x0,x1,x2,x3,x4,x19]) (
W F78 4 [x0,x1,x2,x3,x4,x5])) (
some [x5]):=Az rfl (by kernel_rfl)
theorem Atp (x0 x1 x2 x3 x4 x5:IV):W F78 4 [x0,x1,x2,x3,x4,x5]=
(O.add .i64 x3 (.int 1)).bind fun x6=>
W F78 3 [x0,x1,x2,x6,x4,x5]:=Az rfl (by kernel_rfl)
theorem Are (x0:IV):W F79 0 [x0]=
(O.Dp [(.int 1),x0,(.int 0),(.str ⟨#[]⟩)]).bind fun x1=>
some [x1]:=Az rfl (by kernel_rfl)
theorem As1 (x0 x1:IV):W F80 0 [x0,x1]=
calls (W F73 0 [x0,x1]) 6 fun x2 x3 x4 x5 x6 x7=>
(cnd x7 (
(O.ne x2 (.int 0)).bind fun x8=>
some x8) (some (.bool false))).bind fun x8=>
some [x2,x3,x4,x5,x6,x8]:=Az rfl (by kernel_rfl)
theorem Aq5 (x0 x1 x2:IV):W F81 0 [x0,x1,x2]=
calls (W F82 0 [x0]) 1 fun x3=>
(O.len x3).bind fun x4=>
(O.eq x4 (.int 0)).bind fun x5=>
cnd x5 (
calls (W F51 0 [x1]) 2 fun x6 x7=>
calls (W F87 0 [x6,x2]) 1 fun x8=>
W F81 1 [x1,x3,x8]) (
W F81 1 [x1,x3,x2]):=Az rfl (by kernel_rfl)
theorem Ajk (x0 x1 x2:IV):W F81 1 [x0,x1,x2]=
(O.len x1).bind fun x3=>
W F81 2 [x0,x3,(.int 0),x1,x2]:=Az rfl (by kernel_rfl)
theorem Amg (x0 x1 x2 x3 x4:IV):W F81 2 [x0,x1,x2,x3,x4]=
(O.lt x2 x1).bind fun x5=>
cnd x5 (
(O.index x3 x2).bind fun x6=>
(O.projs 0 4 x6).bind fun x7=>
calls (W F88 0 [x0,x7]) 1 fun x8=>
calls (W F81 0 [x6,x8,x4]) 1 fun x9=>
(O.add .i64 x2 (.int 1)).bind fun x10=>
W F81 2 [x0,x1,x10,x3,x9]) (
some [x4]):=Az rfl (by kernel_rfl)
theorem Aun (x0:IV):W F82 0 [x0]=
(O.proj 16 x0).bind fun x1=>
(O.not x1).bind fun x2=>
(cnd x2 (some (.bool true)) (
(O.proj 9 x0).bind fun x3=>
(O.proj 4 x0).bind fun x4=>
(O.ne x3 x4).bind fun x5=>
some x5)).bind fun x3=>
cnd x3 (
some [(.list [])]) (
(O.proj 4 x0).bind fun x4=>
(O.eq x4 (.int 5)).bind fun x5=>
cnd x5 (
(O.projs 9 7 x0).bind fun x6=>
(O.projs 4 5 x0).bind fun x7=>
calls (W F83 0 [x6,x7]) 1 fun x8=>
some [x8]) (
(O.eq x4 (.int 4)).bind fun x6=>
(cnd x6 (
(O.proj 13 x0).bind fun x7=>
(O.sNe x7 (.str ⟨#[]⟩)).bind fun x8=>
some x8) (some (.bool false))).bind fun x7=>
cnd x7 (
(O.projs 9 7 x0).bind fun x8=>
(O.projs 4 5 x0).bind fun x9=>
calls (W F86 0 [x8,x9]) 1 fun x10=>
some [x10]) (
some [(.list [])]))):=Az rfl (by kernel_rfl)
theorem Auo (x0 x1:IV):W F83 0 [x0,x1]=
(O.proj 4 x1).bind fun x2=>
(O.len x2).bind fun x3=>
W F83 1 [x2,x3,(.int 0),x0,(.list [])]:=Az rfl (by kernel_rfl)
theorem Awi (x0 x1 x2 x3 x4:IV):W F83 1 [x0,x1,x2,x3,x4]=
(O.lt x2 x1).bind fun x5=>
cnd x5 (
(O.index x0 x2).bind fun x6=>
(O.proj 0 x6).bind fun x7=>
(O.projs 1 5 x6).bind fun x8=>
(O.proj 0 x8).bind fun x9=>
(O.proj 1 x8).bind fun x10=>
(O.proj 2 x8).bind fun x11=>
(O.proj 3 x8).bind fun x12=>
(O.proj 4 x8).bind fun x13=>
(O.proj 5 x3).bind fun x14=>
(O.len x14).bind fun x15=>
(O.gt x15 (.int 0)).bind fun x16=>
cnd x16 (
(O.index x14 (.int 0)).bind fun x17=>
(O.proj 0 x17).bind fun x18=>
(O.proj 1 x17).bind fun x19=>
(O.proj 2 x17).bind fun x20=>
(O.proj 3 x17).bind fun x21=>
(O.proj 4 x17).bind fun x22=>
(O.proj 5 x17).bind fun x23=>
(O.proj 6 x17).bind fun x24=>
W F83 2 [x0,x1,x2,x3,x4,(.int 1),x7,(.int 0),(.str ⟨#[]⟩),x9,x10,x11,x12,x13,x18,x19,x20,x21,x22,x23,x24,(.bool true)]) (
(O.proj 6 x3).bind fun x17=>
calls (W F84 0 [x17,x6]) 1 fun x18=>
(O.ge x18 (.int 0)).bind fun x19=>
cnd x19 (
(O.index x17 x18).bind fun x20=>
(O.projs 4 7 x20).bind fun x21=>
(O.proj 0 x21).bind fun x22=>
(O.proj 1 x21).bind fun x23=>
(O.proj 2 x21).bind fun x24=>
(O.proj 3 x21).bind fun x25=>
(O.proj 4 x21).bind fun x26=>
(O.proj 5 x21).bind fun x27=>
(O.proj 6 x21).bind fun x28=>
W F83 2 [x0,x1,x2,x3,x4,(.int 1),x7,(.int 0),(.str ⟨#[]⟩),x9,x10,x11,x12,x13,x22,x23,x24,x25,x26,x27,x28,(.bool true)]) (
W F83 2 [x0,x1,x2,x3,x4,(.int 1),x7,(.int 0),(.str ⟨#[]⟩),x9,x10,x11,x12,x13,(.int 0),(.int 0),(.int 0),(.list []),(.str ⟨#[]⟩),(.list []),(.list []),(.bool false)]))) (
some [x4]):=Az rfl (by kernel_rfl)
theorem Ar3 (x0 x1 x2 x3 x4 x5 x6 x7 x8 x9 x10 x11 x12 x13 x14 x15 x16 x17 x18 x19 x20 x21:IV):W F83 2 [x0,x1,x2,x3,x4,x5,x6,x7,x8,x9,x10,x11,x12,x13,x14,x15,x16,x17,x18,x19,x20,x21]=
(O.Dp [x5,x6,x7,x8,x9,x10,x11,x12,x13,x14,x15,x16,x17,x18,x19,x20,x21]).bind fun x22=>
(O.Dr [x22]).bind fun x23=>
(O.append 248 x4 x23).bind fun x24=>
(O.add .i64 x2 (.int 1)).bind fun x25=>
W F83 1 [x0,x1,x25,x3,x24]:=Az rfl (by kernel_rfl)
theorem Ava (x0 x1:IV):W F84 0 [x0,x1]=
(O.len x0).bind fun x2=>
W F84 1 [x0,x1,x2,(.int 0)]:=Az rfl (by kernel_rfl)
theorem Ajr (x0 x1 x2 x3:IV):W F84 1 [x0,x1,x2,x3]=
(O.lt x3 x2).bind fun x4=>
cnd x4 (
(O.index x0 x3).bind fun x5=>
calls (W F85 0 [x5,x1]) 1 fun x6=>
cnd x6 (
some [x3]) (
(O.add .i64 x3 (.int 1)).bind fun x7=>
W F84 1 [x0,x1,x2,x7])) (
some [(.int (-1))]):=Az rfl (by kernel_rfl)
theorem Aq8 (x0 x1:IV):W F85 0 [x0,x1]=
(O.proj 0 x0).bind fun x2=>
(O.proj 0 x1).bind fun x3=>
(O.sEq x2 x3).bind fun x4=>
some [x4]:=Az rfl (by kernel_rfl)
theorem Auq (x0 x1:IV):W F86 0 [x0,x1]=
(O.proj 3 x1).bind fun x2=>
(O.len x2).bind fun x3=>
W F86 1 [x2,x3,(.int 0),x0,(.list []),(.list [])]:=Az rfl (by kernel_rfl)
theorem Ah1 (x0 x1 x2 x3 x4 x5:IV):W F86 1 [x0,x1,x2,x3,x4,x5]=
(O.lt x2 x1).bind fun x6=>
cnd x6 (
(O.index x0 x2).bind fun x7=>
(O.proj 4 x3).bind fun x8=>
calls (W F73 0 [x7,x8]) 6 fun x9 x10 x11 x12 x13 x14=>
(O.not x14).bind fun x15=>
(cnd x15 (some (.bool true)) (
(O.ne x9 (.int 3)).bind fun x16=>
some x16)).bind fun x16=>
(cnd x16 (some (.bool true)) (
(O.Al5 (.bool false) x5 x11).bind fun x17=>
(O.Ahn x5 x11).bind fun x18=>
some x17)).bind fun x17=>
cnd x17 (
some [(.list [])]) (
(O.Al8 x5 x11 (.bool true)).bind fun x18=>
(O.proj 5 x3).bind fun x19=>
(O.index x19 (.int 0)).bind fun x20=>
(O.proj 0 x7).bind fun x21=>
(O.proj 1 x7).bind fun x22=>
(O.proj 2 x7).bind fun x23=>
(O.proj 3 x7).bind fun x24=>
(O.proj 4 x7).bind fun x25=>
(O.proj 0 x20).bind fun x26=>
(O.proj 1 x20).bind fun x27=>
(O.proj 2 x20).bind fun x28=>
(O.proj 3 x20).bind fun x29=>
(O.proj 4 x20).bind fun x30=>
(O.proj 5 x20).bind fun x31=>
(O.proj 6 x20).bind fun x32=>
(O.Dp [(.int 3),x8,(.int 0),x11,x21,x22,x23,x24,x25,x26,x27,x28,x29,x30,x31,x32,(.bool true)]).bind fun x33=>
(O.Dr [x33]).bind fun x34=>
(O.append 248 x4 x34).bind fun x35=>
(O.add .i64 x2 (.int 1)).bind fun x36=>
W F86 1 [x0,x1,x36,x3,x35,x18])) (
some [x4]):=Az rfl (by kernel_rfl)
theorem Arf (x0 x1:IV):W F87 0 [x0,x1]=
(O.Dr [x0]).bind fun x2=>
(O.append 16 x1 x2).bind fun x3=>
some [x3]:=Az rfl (by kernel_rfl)
theorem Ath (x0 x1:IV):W F88 0 [x0,x1]=
calls (W F75 0 [x0]) 1 fun x2=>
(O.Dr [x1]).bind fun x3=>
(O.append 48 x2 x3).bind fun x4=>
some [x4]:=Az rfl (by kernel_rfl)
theorem At3 (x0:IV):W F89 0 [x0]=
calls (W F90 0 [x0]) 1 fun x1=>
calls (W F91 0 [x1]) 1 fun x2=>
calls (W F94 0 [x2]) 1 fun x3=>
some [x3]:=Az rfl (by kernel_rfl)
theorem As0 (x0:IV):W F90 0 [x0]=
some [x0]:=Az rfl (by kernel_rfl)
theorem Asn (x0:IV):W F91 0 [x0]=
calls (W F92 0 [x0]) 1 fun x1=>
calls (W F93 0 [x1]) 1 fun x2=>
some [x2]:=Az rfl (by kernel_rfl)
theorem Ayl (xs:List IV):W F92 0 xs=O.Jn xs:=Ahk _ _ _ _
theorem Ax9 (xs:List IV):W F93 0 xs=O.Acz xs:=Ahk _ _ _ _
theorem Ax5 (xs:List IV):W F94 0 xs=O.Jz xs:=Ahk _ _ _ _
theorem Auu (x0 x1 x2:IV):W F96 0 [x0,x1,x2]=
calls (W F97 0 [x0,x1,x2,(.bool true)]) 1 fun x3=>
some [x3]:=Az rfl (by kernel_rfl)
theorem Asq (x0 x1 x2 x3:IV):W F97 0 [x0,x1,x2,x3]=
calls (W F13 0 [x0,x1]) 1 fun x4=>
(O.not x4).bind fun x5=>
cnd x5 (
(O.Dr [x1]).bind fun x6=>
calls (W F98 0 [x6]) 5 fun x7 x8 x9 x10 x11=>
(O.index x10 (.int 0)).bind fun x12=>
some [x12]) (
(O.len x2).bind fun x6=>
W F97 1 [x2,x6,(.int 0),x0,x1,x3,(.int 0),(.int 0),(.str ⟨#[]⟩),(.list [])]):=Az rfl (by kernel_rfl)
theorem Ap4 (x0 x1 x2 x3 x4 x5 x6 x7 x8 x9:IV):W F97 1 [x0,x1,x2,x3,x4,x5,x6,x7,x8,x9]=
(O.lt x2 x1).bind fun x10=>
cnd x10 (
(O.index x0 x2).bind fun x11=>
(O.Al8 x9 x11 (.bool true)).bind fun x12=>
(O.add .i64 x2 (.int 1)).bind fun x13=>
W F97 1 [x0,x1,x13,x3,x4,x5,x6,x7,x8,x12]) (
(O.proj 0 x4).bind fun x11=>
(O.proj 1 x4).bind fun x12=>
(O.proj 2 x4).bind fun x13=>
(O.proj 3 x4).bind fun x14=>
(O.proj 4 x4).bind fun x15=>
(O.proj 0 x3).bind fun x16=>
(O.proj 1 x3).bind fun x17=>
(O.proj 2 x3).bind fun x18=>
(O.proj 3 x3).bind fun x19=>
(O.proj 4 x3).bind fun x20=>
(O.proj 5 x3).bind fun x21=>
(O.proj 6 x3).bind fun x22=>
(O.Dp [(.int 0),(.str ⟨#[]⟩),(.int 0),(.str ⟨#[]⟩),x11,x12,x13,x14,x15,x16,x17,x18,x19,x20,x21,x22,(.bool true)]).bind fun x23=>
calls (W F99 0 [x23,(.list []),x9,x5]) 4 fun x24 x25 x26 x27=>
cnd x25 (
(O.Dr [x24]).bind fun x28=>
calls (W F98 0 [x28]) 5 fun x29 x30 x31 x32 x33=>
(O.index x32 (.int 0)).bind fun x34=>
some [x34]) (
(O.eq x11 (.int 5)).bind fun x28=>
(cnd x28 (some (.bool true)) (
(O.eq x11 (.int 4)).bind fun x29=>
some x29)).bind fun x29=>
cnd x29 (
(O.Dp [x11,(.int 0),(.str ⟨#[]⟩),(.list []),(.list [])]).bind fun x30=>
some [x30]) (
calls (W Axg 0 []) 5 fun x30 x31 x32 x33 x34=>
(O.Dp [x30,x31,x32,x33,x34]).bind fun x35=>
some [x35]))):=Az rfl (by kernel_rfl)
theorem Ary (x0:IV):W F98 0 [x0]=
(O.Dp [(.int 4),(.int 0),(.str ⟨#[]⟩),x0,(.list [])]).bind fun x1=>
calls (W F46 0 [x1]) 5 fun x2 x3 x4 x5 x6=>
some [x2,x3,x4,x5,x6]:=Az rfl (by kernel_rfl)
theorem Asc (x0 x1 x2 x3:IV):W F99 0 [x0,x1,x2,x3]=
calls (W F82 0 [x0]) 1 fun x4=>
(O.len x4).bind fun x5=>
(O.eq x5 (.int 0)).bind fun x6=>
cnd x6 (
calls (W F51 0 [x1]) 2 fun x7 x8=>
(O.projs 4 5 x0).bind fun x9=>
calls (W Axi 0 [x7,x2,x3]) 3 fun x10 x11 x12=>
some [x9,x10,x11,x12]) (
(O.proj 4 x0).bind fun x7=>
W F99 1 [x1,x5,(.int 0),x3,(.int 0),(.int 0),(.str ⟨#[]⟩),x7,(.int 0),(.str ⟨#[]⟩),x4,x2,(.list []),(.list [])]):=Az rfl (by kernel_rfl)
theorem Amc (x0 x1 x2 x3 x4 x5 x6 x7 x8 x9 x10 x11 x12 x13:IV):W F99 1 [x0,x1,x2,x3,x4,x5,x6,x7,x8,x9,x10,x11,x12,x13]=
(O.lt x2 x1).bind fun x14=>
cnd x14 (
(O.index x10 x2).bind fun x15=>
(O.projs 0 4 x15).bind fun x16=>
calls (W F88 0 [x0,x16]) 1 fun x17=>
calls (W F99 0 [x15,x17,x11,x3]) 4 fun x18 x19 x20 x21=>
(O.not x19).bind fun x22=>
cnd x22 (
W F99 2 [x0,x1,x2,x21,x4,x5,x6,x7,x8,x9,x10,x20,x12,x13]) (
(O.proj 0 x15).bind fun x23=>
(O.eq x23 (.int 1)).bind fun x24=>
cnd x24 (
(O.proj 1 x15).bind fun x25=>
(O.proj 0 x18).bind fun x26=>
(O.proj 1 x18).bind fun x27=>
(O.proj 2 x18).bind fun x28=>
(O.proj 3 x18).bind fun x29=>
(O.proj 4 x18).bind fun x30=>
(O.Dp [x25,x26,x27,x28,x29,x30]).bind fun x31=>
(O.Dr [x31]).bind fun x32=>
(O.append 96 x13 x32).bind fun x33=>
W F99 2 [x0,x1,x2,x21,x4,x5,x6,x7,x8,x9,x10,x20,x12,x33]) (
(O.proj 1 x15).bind fun x25=>
(O.proj 3 x15).bind fun x26=>
calls (W F18 0 [x26]) 5 fun x27 x28 x29 x30 x31=>
(O.Dp [x27,x28,x29,x30,x31]).bind fun x32=>
calls (W Ayn 0 [x18,x25,x32]) 5 fun x33 x34 x35 x36 x37=>
(O.Dp [x33,x34,x35,x36,x37]).bind fun x38=>
(O.Dr [x38]).bind fun x39=>
(O.append 80 x12 x39).bind fun x40=>
W F99 2 [x0,x1,x2,x21,x4,x5,x6,x7,x8,x9,x10,x20,x40,x13]))) (
(O.len x13).bind fun x15=>
(O.len x12).bind fun x16=>
(O.add .i64 x15 x16).bind fun x17=>
(O.gt x17 (.int 0)).bind fun x18=>
(O.Dp [x7,x8,x9,x12,x13]).bind fun x19=>
some [x19,x18,x11,x3]):=Az rfl (by kernel_rfl)
theorem Aby (x0 x1 x2 x3 x4 x5 x6 x7 x8 x9 x10 x11 x12 x13:IV):W F99 2 [x0,x1,x2,x3,x4,x5,x6,x7,x8,x9,x10,x11,x12,x13]=
(O.add .i64 x2 (.int 1)).bind fun x14=>
W F99 1 [x0,x1,x14,x3,x4,x5,x6,x7,x8,x9,x10,x11,x12,x13]:=Az rfl (by kernel_rfl)
theorem Aoy (x0 x1 x2:IV):W Axi 0 [x0,x1,x2]=
(O.Al5 (.bool false) x1 x0).bind fun x3=>
(O.Ahn x1 x0).bind fun x4=>
(O.bEq x3 x2).bind fun x5=>
some [x5,x1,x2]:=Az rfl (by kernel_rfl)
theorem Ann (x0 x1 x2:IV):W Ayn 0 [x0,x1,x2]=
calls (W Ax6 0 [x0,x1]) 1 fun x3=>
(O.proj 0 x2).bind fun x4=>
(O.proj 1 x2).bind fun x5=>
(O.proj 2 x2).bind fun x6=>
(O.proj 3 x2).bind fun x7=>
(O.proj 4 x2).bind fun x8=>
(O.Dp [x1,x4,x5,x6,x7,x8]).bind fun x9=>
(O.Dr [x9]).bind fun x10=>
(O.append 96 x3 x10).bind fun x11=>
calls (W F34 0 [x11]) 5 fun x12 x13 x14 x15 x16=>
some [x12,x13,x14,x15,x16]:=Az rfl (by kernel_rfl)
theorem An9 (x0 x1:IV):W Ax6 0 [x0,x1]=
(O.proj 0 x0).bind fun x2=>
(O.ne x2 (.int 5)).bind fun x3=>
cnd x3 (
some [(.list [])]) (
(O.proj 4 x0).bind fun x4=>
calls (W F35 0 [x4]) 1 fun x5=>
calls (W Ams 0 [x5,x1]) 1 fun x6=>
some [x6]):=Az rfl (by kernel_rfl)
theorem An7 (x0 x1:IV):W Ams 0 [x0,x1]=
calls (W Arv 0 [x0,x1]) 1 fun x2=>
(O.eq x2 (.int (-1))).bind fun x3=>
cnd x3 (
some [x0]) (
(O.add .i64 x2 (.int 1)).bind fun x4=>
W Ams 1 [x1,x2,x4,x0]):=Az rfl (by kernel_rfl)
theorem Afc (x0 x1 x2 x3:IV):W Ams 1 [x0,x1,x2,x3]=
(O.len x3).bind fun x4=>
(O.lt x2 x4).bind fun x5=>
cnd x5 (
(O.index x3 x2).bind fun x6=>
calls (W Axa 0 [x6,x0]) 1 fun x7=>
(O.not x7).bind fun x8=>
cnd x8 (
(O.index x3 x1).bind fun x9=>
(O.setAt 0 6 true true x3 x1 x6).bind fun x10=>
(O.add .i64 x1 (.int 1)).bind fun x11=>
W Ams 2 [x0,x11,x2,x10]) (
W Ams 2 [x0,x1,x2,x3])) (
(O.slice x3 x1 x4).bind fun x6=>
(O.clear (.agg [.str ⟨#[]⟩,.int 0,.int 0,.str ⟨#[]⟩,.list [],.list []]) x3 x1 x4).bind fun x7=>
(O.slice x7 (.int 0) x1).bind fun x8=>
(O.slice x7 (.int 0) x1).bind fun x9=>
some [x9]):=Az rfl (by kernel_rfl)
theorem Aea (x0 x1 x2 x3:IV):W Ams 2 [x0,x1,x2,x3]=
(O.add .i64 x2 (.int 1)).bind fun x4=>
W Ams 1 [x0,x1,x4,x3]:=Az rfl (by kernel_rfl)
theorem Amw (x0 x1:IV):W Arv 0 [x0,x1]=
(O.len x0).bind fun x2=>
W Arv 1 [x0,x1,x2,(.int 0)]:=Az rfl (by kernel_rfl)
theorem Afj (x0 x1 x2 x3:IV):W Arv 1 [x0,x1,x2,x3]=
(O.lt x3 x2).bind fun x4=>
cnd x4 (
(O.index x0 x3).bind fun x5=>
calls (W Axa 0 [x5,x1]) 1 fun x6=>
cnd x6 (
some [x3]) (
(O.add .i64 x3 (.int 1)).bind fun x7=>
W Arv 1 [x0,x1,x2,x7])) (
some [(.int (-1))]):=Az rfl (by kernel_rfl)
theorem Apf (x0 x1:IV):W Axa 0 [x0,x1]=
(O.proj 0 x0).bind fun x2=>
(O.sEq x2 x1).bind fun x3=>
some [x3]:=Az rfl (by kernel_rfl)
theorem Am0:W Axg 0 []=
some [(.int 0),(.int 0),(.str ⟨#[]⟩),(.list []),(.list [])]:=Az rfl (by kernel_rfl)
theorem Anq (x0 x1:IV):W Awo 0 [x0,x1]=
calls (W Nj 0 [x0,x1]) 1 fun x2=>
(O.eq x2 (.int 0)).bind fun x3=>
some [x3]:=Az rfl (by kernel_rfl)
theorem Ano (x0 x1:IV):W Nj 0 [x0,x1]=
(O.proj 0 x0).bind fun x2=>
(O.proj 0 x1).bind fun x3=>
(O.lt x2 x3).bind fun x4=>
(O.gt x2 x3).bind fun x5=>
calls (W Aqk 0 [x4,x5]) 1 fun x6=>
(O.eq x6 (.int 0)).bind fun x7=>
cnd x7 (
(O.proj 1 x0).bind fun x8=>
(O.proj 1 x1).bind fun x9=>
(O.lt x8 x9).bind fun x10=>
(O.gt x8 x9).bind fun x11=>
calls (W Aqk 0 [x10,x11]) 1 fun x12=>
W Nj 1 [x12,x0,x1]) (
W Nj 1 [x6,x0,x1]):=Az rfl (by kernel_rfl)
theorem Aps (x0 x1 x2:IV):W Nj 1 [x0,x1,x2]=
(O.eq x0 (.int 0)).bind fun x3=>
cnd x3 (
(O.proj 2 x1).bind fun x4=>
(O.proj 2 x2).bind fun x5=>
(O.sLt x4 x5).bind fun x6=>
(O.sGt x4 x5).bind fun x7=>
calls (W Aqk 0 [x6,x7]) 1 fun x8=>
W Nj 2 [x8,x1,x2]) (
W Nj 2 [x0,x1,x2]):=Az rfl (by kernel_rfl)
theorem Aox (x0 x1 x2:IV):W Nj 2 [x0,x1,x2]=
W Nj 3 [x0,(.int 0),x1,x2]:=Az rfl (by kernel_rfl)
theorem Apt (x0 x1 x2 x3:IV):W Nj 3 [x0,x1,x2,x3]=
(O.proj 3 x2).bind fun x4=>
(O.len x4).bind fun x5=>
(O.lt x1 x5).bind fun x6=>
(cnd x6 (
(O.proj 3 x3).bind fun x7=>
(O.len x7).bind fun x8=>
(O.lt x1 x8).bind fun x9=>
some x9) (some (.bool false))).bind fun x7=>
(cnd x7 (
(O.eq x0 (.int 0)).bind fun x8=>
some x8) (some (.bool false))).bind fun x8=>
cnd x8 (
(O.index x4 x1).bind fun x9=>
(O.proj 3 x3).bind fun x10=>
(O.index x10 x1).bind fun x11=>
calls (W Nj 0 [x9,x11]) 1 fun x12=>
(O.add .i64 x1 (.int 1)).bind fun x13=>
W Nj 3 [x12,x13,x2,x3]) (
(O.eq x0 (.int 0)).bind fun x9=>
cnd x9 (
(O.proj 3 x3).bind fun x10=>
(O.len x10).bind fun x11=>
(O.lt x5 x11).bind fun x12=>
(O.gt x5 x11).bind fun x13=>
calls (W Aqk 0 [x12,x13]) 1 fun x14=>
W Nj 4 [x14,x2,x3]) (
W Nj 4 [x0,x2,x3])):=Az rfl (by kernel_rfl)
theorem Ao1 (x0 x1 x2:IV):W Nj 4 [x0,x1,x2]=
W Nj 5 [x0,(.int 0),x1,x2]:=Az rfl (by kernel_rfl)
theorem Anv (x0 x1 x2 x3:IV):W Nj 5 [x0,x1,x2,x3]=
(O.proj 4 x2).bind fun x4=>
(O.len x4).bind fun x5=>
(O.lt x1 x5).bind fun x6=>
(cnd x6 (
(O.proj 4 x3).bind fun x7=>
(O.len x7).bind fun x8=>
(O.lt x1 x8).bind fun x9=>
some x9) (some (.bool false))).bind fun x7=>
(cnd x7 (
(O.eq x0 (.int 0)).bind fun x8=>
some x8) (some (.bool false))).bind fun x8=>
cnd x8 (
(O.index x4 x1).bind fun x9=>
(O.proj 0 x9).bind fun x10=>
(O.proj 4 x3).bind fun x11=>
(O.index x11 x1).bind fun x12=>
(O.proj 0 x12).bind fun x13=>
(O.sLt x10 x13).bind fun x14=>
(O.sGt x10 x13).bind fun x15=>
calls (W Aqk 0 [x14,x15]) 1 fun x16=>
(O.eq x16 (.int 0)).bind fun x17=>
cnd x17 (
(O.projs 1 5 x9).bind fun x18=>
(O.projs 1 5 x12).bind fun x19=>
calls (W Nj 0 [x18,x19]) 1 fun x20=>
W Nj 6 [x20,x1,x2,x3]) (
W Nj 6 [x16,x1,x2,x3])) (
(O.eq x0 (.int 0)).bind fun x9=>
cnd x9 (
(O.proj 4 x3).bind fun x10=>
(O.len x10).bind fun x11=>
(O.lt x5 x11).bind fun x12=>
(O.gt x5 x11).bind fun x13=>
calls (W Aqk 0 [x12,x13]) 1 fun x14=>
some [x14]) (
some [x0])):=Az rfl (by kernel_rfl)
theorem Afz (x0 x1 x2 x3:IV):W Nj 6 [x0,x1,x2,x3]=
(O.add .i64 x1 (.int 1)).bind fun x4=>
W Nj 5 [x0,x4,x2,x3]:=Az rfl (by kernel_rfl)
theorem Ank (x0 x1:IV):W Aqk 0 [x0,x1]=
cnd x0 (
some [(.int (-1))]) (
cnd x1 (
some [(.int 1)]) (
some [(.int 0)])):=Az rfl (by kernel_rfl)
theorem Aos (x0 x1 x2:IV):W F110 0 [x0,x1,x2]=
calls (W F97 0 [x0,x1,x2,(.bool false)]) 1 fun x3=>
some [x3]:=Az rfl (by kernel_rfl)
theorem Anb (x0:IV):W Axu 0 [x0]=
calls (W Amo 0 [x0,(.int 12)]) 1 fun x1=>
some [x1]:=Az rfl (by kernel_rfl)
theorem Afe (x0 x1:IV):W Amo 0 [x0,x1]=
(O.eq x1 (.int 0)).bind fun x2=>
cnd x2 (
some [(.bool false)]) (
(O.proj 0 x0).bind fun x3=>
(O.eq x3 (.int 1)).bind fun x4=>
cnd x4 (
calls (W Aw7 0 [x0]) 1 fun x5=>
(cnd x5 (
(O.proj 1 x0).bind fun x6=>
(O.eq x6 (.int 0)).bind fun x7=>
some x7) (some (.bool false))).bind fun x6=>
(cnd x6 (
(O.proj 2 x0).bind fun x7=>
(O.eq x7 (.int 0)).bind fun x8=>
some x8) (some (.bool false))).bind fun x7=>
(cnd x7 (
(O.proj 3 x0).bind fun x8=>
(O.len x8).bind fun x9=>
(O.eq x9 (.int 0)).bind fun x10=>
some x10) (some (.bool false))).bind fun x8=>
some [x8]) (
(O.eq x3 (.int 2)).bind fun x5=>
cnd x5 (
calls (W Aw7 0 [x0]) 1 fun x6=>
(cnd x6 (
(O.proj 1 x0).bind fun x7=>
(O.le (.int (-1000000000000000)) x7).bind fun x8=>
some x8) (some (.bool false))).bind fun x7=>
(cnd x7 (
(O.proj 1 x0).bind fun x8=>
(O.proj 2 x0).bind fun x9=>
(O.le x8 x9).bind fun x10=>
some x10) (some (.bool false))).bind fun x8=>
(cnd x8 (
(O.proj 2 x0).bind fun x9=>
(O.le x9 (.int 1000000000000000)).bind fun x10=>
some x10) (some (.bool false))).bind fun x9=>
(cnd x9 (
(O.proj 3 x0).bind fun x10=>
(O.len x10).bind fun x11=>
(O.eq x11 (.int 0)).bind fun x12=>
some x12) (some (.bool false))).bind fun x10=>
some [x10]) (
(O.eq x3 (.int 3)).bind fun x6=>
cnd x6 (
calls (W Avk 0 [x0]) 1 fun x7=>
some [x7]) (
(O.eq x3 (.int 4)).bind fun x7=>
cnd x7 (
calls (W Aue 0 [x0,x1]) 1 fun x8=>
some [x8]) (
(O.eq x3 (.int 5)).bind fun x8=>
cnd x8 (
calls (W Aur 0 [x0,x1]) 1 fun x9=>
some [x9]) (
some [(.bool false)])))))):=Az rfl (by kernel_rfl)
theorem Am6 (x0:IV):W Aw7 0 [x0]=
(O.proj 4 x0).bind fun x1=>
(O.sEq x1 (.str ⟨#[]⟩)).bind fun x2=>
(cnd x2 (
(O.proj 5 x0).bind fun x3=>
(O.len x3).bind fun x4=>
(O.eq x4 (.int 0)).bind fun x5=>
some x5) (some (.bool false))).bind fun x3=>
(cnd x3 (
(O.proj 6 x0).bind fun x4=>
(O.len x4).bind fun x5=>
(O.eq x5 (.int 0)).bind fun x6=>
some x6) (some (.bool false))).bind fun x4=>
some [x4]:=Az rfl (by kernel_rfl)
theorem Aow (x0:IV):W Avk 0 [x0]=
W Avk 1 [(.int 0),x0]:=Az rfl (by kernel_rfl)
theorem Adj (x0 x1:IV):W Avk 1 [x0,x1]=
(O.proj 3 x1).bind fun x2=>
(O.len x2).bind fun x3=>
(O.lt x0 x3).bind fun x4=>
cnd x4 (
(O.index x2 x0).bind fun x5=>
(O.Qv x5).bind fun x6=>
calls (W Aqd 0 [x5]) 1 fun x7=>
(O.not x7).bind fun x8=>
(cnd x8 (some (.bool true)) (
(O.proj 1 x1).bind fun x9=>
(O.lt x6 x9).bind fun x10=>
some x10)).bind fun x9=>
(cnd x9 (some (.bool true)) (
(O.proj 2 x1).bind fun x10=>
(O.gt x6 x10).bind fun x11=>
some x11)).bind fun x10=>
(cnd x10 (some (.bool true)) (
(O.gt x0 (.int 0)).bind fun x11=>
(cnd x11 (
(O.sub .i64 x0 (.int 1)).bind fun x12=>
(O.index x2 x12).bind fun x13=>
(O.sLe x5 x13).bind fun x14=>
some x14) (some (.bool false))).bind fun x12=>
some x12)).bind fun x11=>
cnd x11 (
some [(.bool false)]) (
(O.add .i64 x0 (.int 1)).bind fun x12=>
W Avk 1 [x12,x1])) (
calls (W Aw7 0 [x1]) 1 fun x5=>
(cnd x5 (
(O.proj 1 x1).bind fun x6=>
(O.ge x6 (.int 0)).bind fun x7=>
some x7) (some (.bool false))).bind fun x6=>
(cnd x6 (
(O.proj 1 x1).bind fun x7=>
(O.proj 2 x1).bind fun x8=>
(O.le x7 x8).bind fun x9=>
some x9) (some (.bool false))).bind fun x7=>
(cnd x7 (
(O.proj 2 x1).bind fun x8=>
(O.le x8 (.int 200)).bind fun x9=>
some x9) (some (.bool false))).bind fun x8=>
(cnd x8 (
(O.le x3 (.int 64)).bind fun x9=>
some x9) (some (.bool false))).bind fun x9=>
some [x9]):=Az rfl (by kernel_rfl)
theorem Ang (x0:IV):W Aqd 0 [x0]=
W Aqd 1 [x0,(.int 0)]:=Az rfl (by kernel_rfl)
theorem Ael (x0 x1:IV):W Aqd 1 [x0,x1]=
(O.Qv x0).bind fun x2=>
(O.lt x1 x2).bind fun x3=>
cnd x3 (
(O.Ho x0 x1).bind fun x4=>
(O.ne x4 (.int 10)).bind fun x5=>
(cnd x5 (
(O.lt x4 (.int 32)).bind fun x6=>
(cnd x6 (some (.bool true)) (
(O.gt x4 (.int 126)).bind fun x7=>
some x7)).bind fun x7=>
some x7) (some (.bool false))).bind fun x6=>
cnd x6 (
some [(.bool false)]) (
(O.add .i64 x1 (.int 1)).bind fun x7=>
W Aqd 1 [x0,x7])) (
(O.le x2 (.int 200)).bind fun x4=>
some [x4]):=Az rfl (by kernel_rfl)
theorem Apu (x0 x1:IV):W Aue 0 [x0,x1]=
(O.proj 1 x0).bind fun x2=>
(O.lt x2 (.int 0)).bind fun x3=>
(cnd x3 (some (.bool true)) (
(O.proj 2 x0).bind fun x4=>
(O.gt x2 x4).bind fun x5=>
some x5)).bind fun x4=>
(cnd x4 (some (.bool true)) (
(O.proj 2 x0).bind fun x5=>
(O.gt x5 (.int 64)).bind fun x6=>
some x6)).bind fun x5=>
(cnd x5 (some (.bool true)) (
(O.proj 3 x0).bind fun x6=>
(O.len x6).bind fun x7=>
(O.gt x7 (.int 0)).bind fun x8=>
some x8)).bind fun x6=>
(cnd x6 (some (.bool true)) (
(O.proj 6 x0).bind fun x7=>
(O.len x7).bind fun x8=>
(O.gt x8 (.int 0)).bind fun x9=>
some x9)).bind fun x7=>
(cnd x7 (some (.bool true)) (
(O.proj 5 x0).bind fun x8=>
(O.len x8).bind fun x9=>
(O.ne x9 (.int 1)).bind fun x10=>
some x10)).bind fun x8=>
cnd x8 (
some [(.bool false)]) (
(O.proj 4 x0).bind fun x9=>
(O.sNe x9 (.str ⟨#[]⟩)).bind fun x10=>
cnd x10 (
(O.proj 5 x0).bind fun x11=>
(O.index x11 (.int 0)).bind fun x12=>
calls (W Ap9 0 [x12,x9]) 2 fun x13 x14=>
(O.proj 0 x12).bind fun x15=>
(O.ne x15 (.int 5)).bind fun x16=>
(cnd x16 (some (.bool true)) (
(O.not x14).bind fun x17=>
some x17)).bind fun x17=>
(cnd x17 (some (.bool true)) (
(O.proj 1 x13).bind fun x18=>
(O.not x18).bind fun x19=>
some x19)).bind fun x18=>
(cnd x18 (some (.bool true)) (
(O.proj 4 x13).bind fun x19=>
(O.ne x19 (.int 3)).bind fun x20=>
some x20)).bind fun x19=>
cnd x19 (
some [(.bool false)]) (
W Aue 1 [x1,x0])) (
W Aue 1 [x1,x0])):=Az rfl (by kernel_rfl)
theorem Ape (x0 x1:IV):W Aue 1 [x0,x1]=
(O.proj 5 x1).bind fun x2=>
(O.index x2 (.int 0)).bind fun x3=>
(O.sub .i64 x0 (.int 1)).bind fun x4=>
calls (W Amo 0 [x3,x4]) 1 fun x5=>
some [x5]:=Az rfl (by kernel_rfl)
theorem Anw (x0 x1:IV):W Ap9 0 [x0,x1]=
W Ap9 1 [x1,(.int 0),x0,(.str ⟨#[]⟩),(.bool false),(.bool false),(.int 0),(.int 0),(.int 0),(.str ⟨#[]⟩)]:=Az rfl (by kernel_rfl)
theorem Adc (x0 x1 x2 x3 x4 x5 x6 x7 x8 x9:IV):W Ap9 1 [x0,x1,x2,x3,x4,x5,x6,x7,x8,x9]=
(O.proj 6 x2).bind fun x10=>
(O.len x10).bind fun x11=>
(O.lt x1 x11).bind fun x12=>
cnd x12 (
(O.index x10 x1).bind fun x13=>
(O.proj 0 x13).bind fun x14=>
(O.sEq x14 x0).bind fun x15=>
cnd x15 (
some [x13,(.bool true)]) (
(O.add .i64 x1 (.int 1)).bind fun x16=>
W Ap9 1 [x0,x16,x2,x3,x4,x5,x6,x7,x8,x9])) (
(O.Dp [(.str ⟨#[]⟩),(.bool false),(.bool false),(.list []),(.int 0),(.int 0),(.int 0),(.list []),(.str ⟨#[]⟩),(.list []),(.list [])]).bind fun x13=>
some [x13,(.bool false)]):=Az rfl (by kernel_rfl)
theorem Anx (x0 x1:IV):W Aur 0 [x0,x1]=
(O.proj 1 x0).bind fun x2=>
(O.ne x2 (.int 0)).bind fun x3=>
(cnd x3 (some (.bool true)) (
(O.proj 2 x0).bind fun x4=>
(O.ne x4 (.int 0)).bind fun x5=>
some x5)).bind fun x4=>
(cnd x4 (some (.bool true)) (
(O.proj 3 x0).bind fun x5=>
(O.len x5).bind fun x6=>
(O.gt x6 (.int 0)).bind fun x7=>
some x7)).bind fun x5=>
(cnd x5 (some (.bool true)) (
(O.proj 4 x0).bind fun x6=>
(O.sNe x6 (.str ⟨#[]⟩)).bind fun x7=>
some x7)).bind fun x6=>
(cnd x6 (some (.bool true)) (
(O.proj 5 x0).bind fun x7=>
(O.len x7).bind fun x8=>
(O.gt x8 (.int 1)).bind fun x9=>
some x9)).bind fun x7=>
(cnd x7 (some (.bool true)) (
(O.proj 5 x0).bind fun x8=>
(O.len x8).bind fun x9=>
(O.eq x9 (.int 1)).bind fun x10=>
(cnd x10 (
(O.proj 6 x0).bind fun x11=>
(O.len x11).bind fun x12=>
(O.gt x12 (.int 0)).bind fun x13=>
some x13) (some (.bool false))).bind fun x11=>
some x11)).bind fun x8=>
(cnd x8 (some (.bool true)) (
(O.proj 6 x0).bind fun x9=>
(O.len x9).bind fun x10=>
(O.gt x10 (.int 64)).bind fun x11=>
some x11)).bind fun x9=>
cnd x9 (
some [(.bool false)]) (
(O.proj 5 x0).bind fun x10=>
(O.len x10).bind fun x11=>
(O.eq x11 (.int 1)).bind fun x12=>
cnd x12 (
(O.index x10 (.int 0)).bind fun x13=>
(O.sub .i64 x1 (.int 1)).bind fun x14=>
calls (W Amo 0 [x13,x14]) 1 fun x15=>
some [x15]) (
W Aur 1 [x1,(.int 0),x0])):=Az rfl (by kernel_rfl)
theorem Afu (x0 x1 x2:IV):W Aur 1 [x0,x1,x2]=
(O.proj 6 x2).bind fun x3=>
(O.len x3).bind fun x4=>
(O.lt x1 x4).bind fun x5=>
cnd x5 (
(O.index x3 x1).bind fun x6=>
(O.proj 0 x6).bind fun x7=>
calls (W Aqm 0 [x7]) 1 fun x8=>
(O.not x8).bind fun x9=>
(cnd x9 (some (.bool true)) (
(O.gt x1 (.int 0)).bind fun x10=>
(cnd x10 (
(O.sub .i64 x1 (.int 1)).bind fun x11=>
(O.index x3 x11).bind fun x12=>
(O.proj 0 x12).bind fun x13=>
(O.sLe x7 x13).bind fun x14=>
some x14) (some (.bool false))).bind fun x11=>
some x11)).bind fun x10=>
(cnd x10 (some (.bool true)) (
(O.projs 4 7 x6).bind fun x11=>
(O.sub .i64 x0 (.int 1)).bind fun x12=>
calls (W Amo 0 [x11,x12]) 1 fun x13=>
(O.not x13).bind fun x14=>
some x14)).bind fun x11=>
(cnd x11 (some (.bool true)) (
(O.proj 3 x6).bind fun x12=>
(O.len x12).bind fun x13=>
(O.gt x13 (.int 1)).bind fun x14=>
some x14)).bind fun x12=>
cnd x12 (
some [(.bool false)]) (
(O.proj 3 x6).bind fun x13=>
(O.len x13).bind fun x14=>
(O.eq x14 (.int 1)).bind fun x15=>
(cnd x15 (
(O.index x13 (.int 0)).bind fun x16=>
(O.proj 0 x16).bind fun x17=>
(O.eq x17 (.int 0)).bind fun x18=>
(cnd x18 (some (.bool true)) (
calls (W Axb 0 [x16]) 1 fun x19=>
(O.not x19).bind fun x20=>
some x20)).bind fun x19=>
(cnd x19 (some (.bool true)) (
(O.projs 4 7 x6).bind fun x20=>
calls (W Aju 0 [x20,x16,(.list [])]) 1 fun x21=>
(O.len x21).bind fun x22=>
(O.gt x22 (.int 0)).bind fun x23=>
some x23)).bind fun x20=>
some x20) (some (.bool false))).bind fun x16=>
cnd x16 (
some [(.bool false)]) (
(O.add .i64 x1 (.int 1)).bind fun x17=>
W Aur 1 [x0,x17,x2]))) (
some [(.bool true)]):=Az rfl (by kernel_rfl)
theorem Apo (x0:IV):W Aqm 0 [x0]=
W Aqm 1 [x0,(.int 0)]:=Az rfl (by kernel_rfl)
theorem Aej (x0 x1:IV):W Aqm 1 [x0,x1]=
(O.Qv x0).bind fun x2=>
(O.lt x1 x2).bind fun x3=>
cnd x3 (
(O.Ho x0 x1).bind fun x4=>
(O.ge x4 (.int 97)).bind fun x5=>
(cnd x5 (
(O.le x4 (.int 122)).bind fun x6=>
some x6) (some (.bool false))).bind fun x6=>
(cnd x6 (some (.bool true)) (
(O.ge x4 (.int 65)).bind fun x7=>
(cnd x7 (
(O.le x4 (.int 90)).bind fun x8=>
some x8) (some (.bool false))).bind fun x8=>
some x8)).bind fun x7=>
(O.not x7).bind fun x8=>
(cnd x8 (
(O.ge x4 (.int 48)).bind fun x9=>
(cnd x9 (
(O.le x4 (.int 57)).bind fun x10=>
some x10) (some (.bool false))).bind fun x10=>
(O.not x10).bind fun x11=>
some x11) (some (.bool false))).bind fun x9=>
(cnd x9 (
(O.ne x4 (.int 45)).bind fun x10=>
some x10) (some (.bool false))).bind fun x10=>
(cnd x10 (
(O.ne x4 (.int 95)).bind fun x11=>
some x11) (some (.bool false))).bind fun x11=>
(cnd x11 (
(O.ne x4 (.int 47)).bind fun x12=>
some x12) (some (.bool false))).bind fun x12=>
cnd x12 (
some [(.bool false)]) (
(O.add .i64 x1 (.int 1)).bind fun x13=>
W Aqm 1 [x0,x13])) (
(O.ge x2 (.int 1)).bind fun x4=>
(cnd x4 (
(O.le x2 (.int 40)).bind fun x5=>
some x5) (some (.bool false))).bind fun x5=>
some [x5]):=Az rfl (by kernel_rfl)
theorem Aov (x0:IV):W Axb 0 [x0]=
calls (W Aa8 0 [x0,(.int 12)]) 1 fun x1=>
(cnd x1 (
calls (W V0 0 [x0]) 1 fun x2=>
(O.le x2 (.int 600)).bind fun x3=>
some x3) (some (.bool false))).bind fun x2=>
some [x2]:=Az rfl (by kernel_rfl)
theorem Adl (x0 x1:IV):W Aa8 0 [x0,x1]=
(O.eq x1 (.int 0)).bind fun x2=>
(cnd x2 (some (.bool true)) (
calls (W Avf 0 [x0]) 1 fun x3=>
(O.not x3).bind fun x4=>
some x4)).bind fun x3=>
(cnd x3 (some (.bool true)) (
(O.proj 3 x0).bind fun x4=>
(O.len x4).bind fun x5=>
(O.gt x5 (.int 64)).bind fun x6=>
some x6)).bind fun x4=>
(cnd x4 (some (.bool true)) (
(O.proj 4 x0).bind fun x5=>
(O.len x5).bind fun x6=>
(O.gt x6 (.int 64)).bind fun x7=>
some x7)).bind fun x5=>
cnd x5 (
some [(.bool false)]) (
(O.proj 0 x0).bind fun x6=>
(O.ne x6 (.int 4)).bind fun x7=>
(cnd x7 (
(O.proj 3 x0).bind fun x8=>
(O.len x8).bind fun x9=>
(O.gt x9 (.int 0)).bind fun x10=>
some x10) (some (.bool false))).bind fun x8=>
(cnd x8 (some (.bool true)) (
(O.ne x6 (.int 5)).bind fun x9=>
(cnd x9 (
(O.proj 4 x0).bind fun x10=>
(O.len x10).bind fun x11=>
(O.gt x11 (.int 0)).bind fun x12=>
some x12) (some (.bool false))).bind fun x10=>
some x10)).bind fun x9=>
cnd x9 (
some [(.bool false)]) (
W Aa8 1 [x1,(.int 0),x0])):=Az rfl (by kernel_rfl)
theorem Ad0 (x0 x1 x2:IV):W Aa8 1 [x0,x1,x2]=
(O.proj 3 x2).bind fun x3=>
(O.len x3).bind fun x4=>
(O.lt x1 x4).bind fun x5=>
cnd x5 (
(O.index x3 x1).bind fun x6=>
(O.sub .i64 x0 (.int 1)).bind fun x7=>
calls (W Aa8 0 [x6,x7]) 1 fun x8=>
(O.not x8).bind fun x9=>
cnd x9 (
some [(.bool false)]) (
(O.add .i64 x1 (.int 1)).bind fun x10=>
W Aa8 1 [x0,x10,x2])) (
W Aa8 2 [x0,(.int 0),x2]):=Az rfl (by kernel_rfl)
theorem Aee (x0 x1 x2:IV):W Aa8 2 [x0,x1,x2]=
(O.proj 4 x2).bind fun x3=>
(O.len x3).bind fun x4=>
(O.lt x1 x4).bind fun x5=>
cnd x5 (
(O.index x3 x1).bind fun x6=>
(O.proj 0 x6).bind fun x7=>
calls (W Aqm 0 [x7]) 1 fun x8=>
(O.not x8).bind fun x9=>
(cnd x9 (some (.bool true)) (
(O.gt x1 (.int 0)).bind fun x10=>
(cnd x10 (
(O.sub .i64 x1 (.int 1)).bind fun x11=>
(O.index x3 x11).bind fun x12=>
(O.proj 0 x12).bind fun x13=>
(O.sLe x7 x13).bind fun x14=>
some x14) (some (.bool false))).bind fun x11=>
some x11)).bind fun x10=>
(cnd x10 (some (.bool true)) (
(O.projs 1 5 x6).bind fun x11=>
(O.sub .i64 x0 (.int 1)).bind fun x12=>
calls (W Aa8 0 [x11,x12]) 1 fun x13=>
(O.not x13).bind fun x14=>
some x14)).bind fun x11=>
cnd x11 (
some [(.bool false)]) (
(O.add .i64 x1 (.int 1)).bind fun x12=>
W Aa8 2 [x0,x12,x2])) (
some [(.bool true)]):=Az rfl (by kernel_rfl)
theorem Am9 (x0:IV):W Avf 0 [x0]=
(O.proj 0 x0).bind fun x1=>
(O.eq x1 (.int 1)).bind fun x2=>
cnd x2 (
(O.proj 1 x0).bind fun x3=>
(O.eq x3 (.int 0)).bind fun x4=>
(cnd x4 (some (.bool true)) (
(O.eq x3 (.int 1)).bind fun x5=>
some x5)).bind fun x5=>
(cnd x5 (
(O.proj 2 x0).bind fun x6=>
(O.sEq x6 (.str ⟨#[]⟩)).bind fun x7=>
some x7) (some (.bool false))).bind fun x6=>
some [x6]) (
(O.eq x1 (.int 2)).bind fun x3=>
cnd x3 (
(O.proj 1 x0).bind fun x4=>
(O.ge x4 (.int (-1000000000000000))).bind fun x5=>
(cnd x5 (
(O.le x4 (.int 1000000000000000)).bind fun x6=>
some x6) (some (.bool false))).bind fun x6=>
(cnd x6 (
(O.proj 2 x0).bind fun x7=>
(O.sEq x7 (.str ⟨#[]⟩)).bind fun x8=>
some x8) (some (.bool false))).bind fun x7=>
some [x7]) (
(O.eq x1 (.int 3)).bind fun x4=>
cnd x4 (
(O.proj 1 x0).bind fun x5=>
(O.eq x5 (.int 0)).bind fun x6=>
(cnd x6 (
(O.proj 2 x0).bind fun x7=>
calls (W Aqd 0 [x7]) 1 fun x8=>
some x8) (some (.bool false))).bind fun x7=>
some [x7]) (
(O.eq x1 (.int 0)).bind fun x5=>
cnd x5 (
W Avf 1 [x5,x0]) (
(O.eq x1 (.int 4)).bind fun x6=>
cnd x6 (
W Avf 1 [x6,x0]) (
(O.eq x1 (.int 5)).bind fun x7=>
W Avf 1 [x7,x0]))))):=Az rfl (by kernel_rfl)
theorem Qw (x0 x1:IV):W Avf 1 [x0,x1]=
cnd x0 (
(O.proj 1 x1).bind fun x2=>
(O.eq x2 (.int 0)).bind fun x3=>
(cnd x3 (
(O.proj 2 x1).bind fun x4=>
(O.sEq x4 (.str ⟨#[]⟩)).bind fun x5=>
some x5) (some (.bool false))).bind fun x4=>
some [x4]) (
some [(.bool false)]):=Az rfl (by kernel_rfl)
theorem An2 (x0:IV):W V0 0 [x0]=
W V0 1 [(.int 1),(.int 0),x0]:=Az rfl (by kernel_rfl)
theorem Aft (x0 x1 x2:IV):W V0 1 [x0,x1,x2]=
(O.proj 3 x2).bind fun x3=>
(O.len x3).bind fun x4=>
(O.lt x1 x4).bind fun x5=>
cnd x5 (
(O.index x3 x1).bind fun x6=>
calls (W V0 0 [x6]) 1 fun x7=>
(O.add .i64 x0 x7).bind fun x8=>
(O.add .i64 x1 (.int 1)).bind fun x9=>
W V0 1 [x8,x9,x2]) (
W V0 2 [x0,(.int 0),x2]):=Az rfl (by kernel_rfl)
theorem Qu (x0 x1 x2:IV):W V0 2 [x0,x1,x2]=
(O.proj 4 x2).bind fun x3=>
(O.len x3).bind fun x4=>
(O.lt x1 x4).bind fun x5=>
cnd x5 (
(O.index x3 x1).bind fun x6=>
(O.projs 1 5 x6).bind fun x7=>
calls (W V0 0 [x7]) 1 fun x8=>
(O.add .i64 x0 x8).bind fun x9=>
(O.add .i64 x1 (.int 1)).bind fun x10=>
W V0 2 [x9,x10,x2]) (
some [x0]):=Az rfl (by kernel_rfl)
theorem Ani (x0 x1 x2:IV):W Aju 0 [x0,x1,x2]=
(O.proj 0 x1).bind fun x3=>
(O.proj 0 x0).bind fun x4=>
(O.ne x3 x4).bind fun x5=>
cnd x5 (
calls (W Ahl 0 [x2,(.int 6)]) 1 fun x6=>
some [x6]) (
(O.eq x4 (.int 2)).bind fun x6=>
cnd x6 (
(O.proj 1 x1).bind fun x7=>
(O.proj 1 x0).bind fun x8=>
(O.lt x7 x8).bind fun x9=>
(cnd x9 (some (.bool true)) (
(O.proj 2 x0).bind fun x10=>
(O.gt x7 x10).bind fun x11=>
some x11)).bind fun x10=>
cnd x10 (
calls (W Ahl 0 [x2,(.int 5)]) 1 fun x11=>
some [x11]) (
some [(.list [])])) (
(O.eq x4 (.int 3)).bind fun x7=>
cnd x7 (
(O.proj 2 x1).bind fun x8=>
(O.Qv x8).bind fun x9=>
(O.proj 1 x0).bind fun x10=>
(O.lt x9 x10).bind fun x11=>
(cnd x11 (some (.bool true)) (
(O.proj 2 x0).bind fun x12=>
(O.gt x9 x12).bind fun x13=>
some x13)).bind fun x12=>
cnd x12 (
calls (W Ahl 0 [x2,(.int 5)]) 1 fun x13=>
some [x13]) (
W Aju 1 [x2,(.int 0),x0,x1])) (
(O.eq x4 (.int 4)).bind fun x8=>
cnd x8 (
calls (W Tv 0 [x0,x1,x2]) 1 fun x9=>
some [x9]) (
(O.eq x4 (.int 5)).bind fun x9=>
cnd x9 (
calls (W Uq 0 [x0,x1,x2]) 1 fun x10=>
some [x10]) (
some [(.list [])]))))):=Az rfl (by kernel_rfl)
theorem Aep (x0 x1 x2 x3:IV):W Aju 1 [x0,x1,x2,x3]=
(O.proj 3 x2).bind fun x4=>
(O.len x4).bind fun x5=>
(O.lt x1 x5).bind fun x6=>
cnd x6 (
(O.index x4 x1).bind fun x7=>
(O.proj 2 x3).bind fun x8=>
(O.sEq x7 x8).bind fun x9=>
cnd x9 (
some [(.list [])]) (
(O.add .i64 x1 (.int 1)).bind fun x10=>
W Aju 1 [x0,x10,x2,x3])) (
(O.gt x5 (.int 0)).bind fun x7=>
cnd x7 (
calls (W Ahl 0 [x0,(.int 1)]) 1 fun x8=>
some [x8]) (
some [(.list [])])):=Az rfl (by kernel_rfl)
theorem Aog (x0 x1:IV):W Ahl 0 [x0,x1]=
calls (W Ag2 0 [x0]) 2 fun x2 x3=>
(O.Dp [x2,x1]).bind fun x4=>
(O.Dr [x4]).bind fun x5=>
some [x5]:=Az rfl (by kernel_rfl)
theorem Ao2 (x0:IV):W Ag2 0 [x0]=
calls (W Aso 0 [x0]) 1 fun x1=>
(O.not x1).bind fun x2=>
cnd x2 (
some [(.str ⟨#[]⟩),(.int 1)]) (
W Ag2 1 [x0,(.str ⟨#[]⟩),(.int 0)]):=Az rfl (by kernel_rfl)
theorem Adz (x0 x1 x2:IV):W Ag2 1 [x0,x1,x2]=
(O.len x0).bind fun x3=>
(O.lt x2 x3).bind fun x4=>
cnd x4 (
(O.index x0 x2).bind fun x5=>
(O.proj 0 x5).bind fun x6=>
(O.eq x6 (.int 2)).bind fun x7=>
cnd x7 (
(O.cat x1 (.str ⟨#[91]⟩)).bind fun x8=>
(O.proj 2 x5).bind fun x9=>
calls (W Ayp 0 [x9]) 1 fun x10=>
(O.cat x8 x10).bind fun x11=>
(O.cat x11 (.str ⟨#[93]⟩)).bind fun x12=>
W Ag2 2 [x0,x12,x2]) (
(O.eq x6 (.int 3)).bind fun x8=>
cnd x8 (
(O.cat x1 (.str ⟨#[91]⟩)).bind fun x9=>
(O.proj 1 x5).bind fun x10=>
(O.cat x9 x10).bind fun x11=>
(O.cat x11 (.str ⟨#[61]⟩)).bind fun x12=>
(O.proj 3 x5).bind fun x13=>
calls (W Aho 0 [x13]) 1 fun x14=>
(O.cat x12 x14).bind fun x15=>
(O.cat x15 (.str ⟨#[93]⟩)).bind fun x16=>
W Ag2 2 [x0,x16,x2]) (
(O.gt x2 (.int 0)).bind fun x9=>
cnd x9 (
(O.cat x1 (.str ⟨#[46]⟩)).bind fun x10=>
(O.proj 1 x5).bind fun x11=>
(O.cat x10 x11).bind fun x12=>
W Ag2 2 [x0,x12,x2]) (
(O.proj 1 x5).bind fun x10=>
W Ag2 2 [x0,x10,x2])))) (
some [x1,(.int 0)]):=Az rfl (by kernel_rfl)
theorem Aoa (x0 x1 x2:IV):W Ag2 2 [x0,x1,x2]=
(O.add .i64 x2 (.int 1)).bind fun x3=>
W Ag2 1 [x0,x1,x3]:=Az rfl (by kernel_rfl)
theorem Aot (x0:IV):W Aso 0 [x0]=
W Aso 1 [x0,(.int 0)]:=Az rfl (by kernel_rfl)
theorem Aff (x0 x1:IV):W Aso 1 [x0,x1]=
(O.len x0).bind fun x2=>
(O.lt x1 x2).bind fun x3=>
cnd x3 (
(O.index x0 x1).bind fun x4=>
calls (W Aym 0 [x4]) 1 fun x5=>
(O.not x5).bind fun x6=>
cnd x6 (
some [(.bool false)]) (
(O.add .i64 x1 (.int 1)).bind fun x7=>
W Aso 1 [x0,x7])) (
(O.le x2 (.int 16)).bind fun x4=>
some [x4]):=Az rfl (by kernel_rfl)
theorem An8 (x0:IV):W Aym 0 [x0]=
(O.proj 0 x0).bind fun x1=>
(O.eq x1 (.int 1)).bind fun x2=>
cnd x2 (
(O.proj 1 x0).bind fun x3=>
calls (W Aqr 0 [x3]) 1 fun x4=>
(cnd x4 (
(O.proj 2 x0).bind fun x5=>
(O.eq x5 (.int 0)).bind fun x6=>
some x6) (some (.bool false))).bind fun x5=>
(cnd x5 (
(O.proj 3 x0).bind fun x6=>
(O.sEq x6 (.str ⟨#[]⟩)).bind fun x7=>
some x7) (some (.bool false))).bind fun x6=>
some [x6]) (
(O.eq x1 (.int 2)).bind fun x3=>
cnd x3 (
(O.proj 2 x0).bind fun x4=>
(O.ge x4 (.int 0)).bind fun x5=>
(cnd x5 (
(O.le x4 (.int 64)).bind fun x6=>
some x6) (some (.bool false))).bind fun x6=>
(cnd x6 (
(O.proj 1 x0).bind fun x7=>
(O.sEq x7 (.str ⟨#[]⟩)).bind fun x8=>
some x8) (some (.bool false))).bind fun x7=>
(cnd x7 (
(O.proj 3 x0).bind fun x8=>
(O.sEq x8 (.str ⟨#[]⟩)).bind fun x9=>
some x9) (some (.bool false))).bind fun x8=>
some [x8]) (
(O.eq x1 (.int 3)).bind fun x4=>
(cnd x4 (
(O.proj 1 x0).bind fun x5=>
calls (W Aqr 0 [x5]) 1 fun x6=>
some x6) (some (.bool false))).bind fun x5=>
(cnd x5 (
(O.proj 3 x0).bind fun x6=>
calls (W Auh 0 [x6]) 1 fun x7=>
some x7) (some (.bool false))).bind fun x6=>
(cnd x6 (
(O.proj 2 x0).bind fun x7=>
(O.eq x7 (.int 0)).bind fun x8=>
some x8) (some (.bool false))).bind fun x7=>
some [x7])):=Az rfl (by kernel_rfl)
theorem Aop (x0:IV):W Aqr 0 [x0]=
W Aqr 1 [x0,(.int 0)]:=Az rfl (by kernel_rfl)
theorem Adx (x0 x1:IV):W Aqr 1 [x0,x1]=
(O.Qv x0).bind fun x2=>
(O.lt x1 x2).bind fun x3=>
cnd x3 (
(O.Ho x0 x1).bind fun x4=>
calls (W Axm 0 [x4]) 1 fun x5=>
(O.not x5).bind fun x6=>
cnd x6 (
some [(.bool false)]) (
(O.add .i64 x1 (.int 1)).bind fun x7=>
W Aqr 1 [x0,x7])) (
(O.gt x2 (.int 0)).bind fun x4=>
(cnd x4 (
(O.le x2 (.int 40)).bind fun x5=>
some x5) (some (.bool false))).bind fun x5=>
some [x5]):=Az rfl (by kernel_rfl)
theorem Ao6 (x0:IV):W Axm 0 [x0]=
(O.ge x0 (.int 97)).bind fun x1=>
(cnd x1 (
(O.le x0 (.int 122)).bind fun x2=>
some x2) (some (.bool false))).bind fun x2=>
(cnd x2 (some (.bool true)) (
(O.ge x0 (.int 65)).bind fun x3=>
(cnd x3 (
(O.le x0 (.int 90)).bind fun x4=>
some x4) (some (.bool false))).bind fun x4=>
some x4)).bind fun x3=>
(cnd x3 (some (.bool true)) (
(O.ge x0 (.int 48)).bind fun x4=>
(cnd x4 (
(O.le x0 (.int 57)).bind fun x5=>
some x5) (some (.bool false))).bind fun x5=>
some x5)).bind fun x4=>
(cnd x4 (some (.bool true)) (
(O.eq x0 (.int 45)).bind fun x5=>
some x5)).bind fun x5=>
(cnd x5 (some (.bool true)) (
(O.eq x0 (.int 95)).bind fun x6=>
some x6)).bind fun x6=>
(cnd x6 (some (.bool true)) (
(O.eq x0 (.int 47)).bind fun x7=>
some x7)).bind fun x7=>
some [x7]:=Az rfl (by kernel_rfl)
theorem Anr (x0:IV):W Auh 0 [x0]=
W Auh 1 [x0,(.int 0)]:=Az rfl (by kernel_rfl)
theorem Ae8 (x0 x1:IV):W Auh 1 [x0,x1]=
(O.Qv x0).bind fun x2=>
(O.lt x1 x2).bind fun x3=>
cnd x3 (
(O.Ho x0 x1).bind fun x4=>
(O.ne x4 (.int 10)).bind fun x5=>
(cnd x5 (
(O.lt x4 (.int 32)).bind fun x6=>
(cnd x6 (some (.bool true)) (
(O.gt x4 (.int 126)).bind fun x7=>
some x7)).bind fun x7=>
some x7) (some (.bool false))).bind fun x6=>
cnd x6 (
some [(.bool false)]) (
(O.add .i64 x1 (.int 1)).bind fun x7=>
W Auh 1 [x0,x7])) (
(O.le x2 (.int 200)).bind fun x4=>
some [x4]):=Az rfl (by kernel_rfl)
theorem Ana (x0:IV):W Ayp 0 [x0]=
(O.lt x0 (.int 10)).bind fun x1=>
cnd x1 (
(O.add .i64 x0 (.int 1)).bind fun x2=>
(O.Kd (.str ⟨#[48,49,50,51,52,53,54,55,56,57]⟩) x0 x2).bind fun x3=>
some [x3]) (
(O.quo .i64 x0 (.int 10)).bind fun x2=>
(O.quo .i64 x0 (.int 10)).bind fun x3=>
(O.add .i64 x3 (.int 1)).bind fun x4=>
(O.Kd (.str ⟨#[48,49,50,51,52,53,54,55,56,57]⟩) x2 x4).bind fun x5=>
(O.rem .i64 x0 (.int 10)).bind fun x6=>
(O.rem .i64 x0 (.int 10)).bind fun x7=>
(O.add .i64 x7 (.int 1)).bind fun x8=>
(O.Kd (.str ⟨#[48,49,50,51,52,53,54,55,56,57]⟩) x6 x8).bind fun x9=>
(O.cat x5 x9).bind fun x10=>
some [x10]):=Az rfl (by kernel_rfl)
theorem Am1 (x0:IV):W Aho 0 [x0]=
W Aho 1 [x0,(.str ⟨#[34]⟩),(.int 0)]:=Az rfl (by kernel_rfl)
theorem Ae6 (x0 x1 x2:IV):W Aho 1 [x0,x1,x2]=
(O.Qv x0).bind fun x3=>
(O.lt x2 x3).bind fun x4=>
cnd x4 (
(O.Ho x0 x2).bind fun x5=>
(O.eq x5 (.int 10)).bind fun x6=>
cnd x6 (
(O.cat x1 (.str ⟨#[92,110]⟩)).bind fun x7=>
W Aho 2 [x0,x7,x2]) (
(O.eq x5 (.int 34)).bind fun x7=>
(cnd x7 (some (.bool true)) (
(O.eq x5 (.int 92)).bind fun x8=>
some x8)).bind fun x8=>
cnd x8 (
(O.cat x1 (.str ⟨#[92]⟩)).bind fun x9=>
(O.add .i64 x2 (.int 1)).bind fun x10=>
(O.Kd x0 x2 x10).bind fun x11=>
(O.cat x9 x11).bind fun x12=>
W Aho 2 [x0,x12,x2]) (
(O.add .i64 x2 (.int 1)).bind fun x9=>
(O.Kd x0 x2 x9).bind fun x10=>
(O.cat x1 x10).bind fun x11=>
W Aho 2 [x0,x11,x2]))) (
(O.cat x1 (.str ⟨#[34]⟩)).bind fun x5=>
some [x5]):=Az rfl (by kernel_rfl)
theorem Aod (x0 x1 x2:IV):W Aho 2 [x0,x1,x2]=
(O.add .i64 x2 (.int 1)).bind fun x3=>
W Aho 1 [x0,x1,x3]:=Az rfl (by kernel_rfl)
theorem Am2 (x0 x1 x2:IV):W Tv 0 [x0,x1,x2]=
(O.proj 3 x1).bind fun x3=>
(O.len x3).bind fun x4=>
(O.proj 1 x0).bind fun x5=>
(O.lt x4 x5).bind fun x6=>
(cnd x6 (some (.bool true)) (
(O.proj 2 x0).bind fun x7=>
(O.gt x4 x7).bind fun x8=>
some x8)).bind fun x7=>
cnd x7 (
calls (W Ahl 0 [x2,(.int 5)]) 1 fun x8=>
(O.append 24 (.list []) x8).bind fun x9=>
W Tv 1 [x2,x0,x1,x9]) (
W Tv 1 [x2,x0,x1,(.list [])]):=Az rfl (by kernel_rfl)
theorem Ao7 (x0 x1 x2 x3:IV):W Tv 1 [x0,x1,x2,x3]=
W Tv 2 [x0,(.int 0),x1,x2,x3]:=Az rfl (by kernel_rfl)
theorem Adm (x0 x1 x2 x3 x4:IV):W Tv 2 [x0,x1,x2,x3,x4]=
(O.proj 3 x3).bind fun x5=>
(O.len x5).bind fun x6=>
(O.lt x1 x6).bind fun x7=>
cnd x7 (
calls (W Ax7 0 [x2,x5,x1]) 1 fun x8=>
calls (W Awc 0 [x0,x8]) 1 fun x9=>
(O.proj 5 x2).bind fun x10=>
(O.index x10 (.int 0)).bind fun x11=>
(O.index x5 x1).bind fun x12=>
calls (W Aju 0 [x11,x12,x9]) 1 fun x13=>
(O.append 24 x4 x13).bind fun x14=>
(O.proj 4 x2).bind fun x15=>
calls (W Awg 0 [x12,x15]) 2 fun x16 x17=>
W Tv 3 [x0,x1,x16,x17,(.bool false),(.int 0),x2,x3,x14,x9]) (
some [x4]):=Az rfl (by kernel_rfl)
theorem Aou (x0 x1 x2 x3 x4 x5 x6 x7 x8 x9:IV):W Tv 3 [x0,x1,x2,x3,x4,x5,x6,x7,x8,x9]=
(O.lt x5 x1).bind fun x10=>
(O.pick x10 x3 (.bool false)).bind fun x11=>
cnd x11 (
(O.proj 3 x7).bind fun x12=>
(O.index x12 x5).bind fun x13=>
(O.proj 4 x6).bind fun x14=>
calls (W Awg 0 [x13,x14]) 2 fun x15 x16=>
(cnd x4 (some (.bool true)) (
(cnd x16 (
(O.sEq x15 x2).bind fun x17=>
some x17) (some (.bool false))).bind fun x17=>
some x17)).bind fun x17=>
(O.add .i64 x5 (.int 1)).bind fun x18=>
W Tv 3 [x0,x1,x2,x3,x17,x18,x6,x7,x8,x9]) (
cnd x4 (
calls (W Ahl 0 [x9,(.int 8)]) 1 fun x12=>
(O.append 24 x8 x12).bind fun x13=>
W Tv 4 [x0,x1,x6,x7,x13]) (
W Tv 4 [x0,x1,x6,x7,x8])):=Az rfl (by kernel_rfl)
theorem Am4 (x0 x1 x2 x3 x4:IV):W Tv 4 [x0,x1,x2,x3,x4]=
(O.add .i64 x1 (.int 1)).bind fun x5=>
W Tv 2 [x0,x5,x2,x3,x4]:=Az rfl (by kernel_rfl)
theorem Aof (x0 x1 x2:IV):W Ax7 0 [x0,x1,x2]=
(O.index x1 x2).bind fun x3=>
(O.proj 4 x0).bind fun x4=>
calls (W Awg 0 [x3,x4]) 2 fun x5 x6=>
cnd x6 (
(O.Dp [(.int 3),x4,(.int 0),x5]).bind fun x7=>
some [x7]) (
(O.Dp [(.int 2),(.str ⟨#[]⟩),x2,(.str ⟨#[]⟩)]).bind fun x7=>
some [x7]):=Az rfl (by kernel_rfl)
theorem Anf (x0 x1:IV):W Awg 0 [x0,x1]=
calls (W Aoh 0 [x0,x1]) 6 fun x2 x3 x4 x5 x6 x7=>
(cnd x7 (
(O.sNe x1 (.str ⟨#[]⟩)).bind fun x8=>
some x8) (some (.bool false))).bind fun x8=>
(cnd x8 (
(O.eq x2 (.int 3)).bind fun x9=>
some x9) (some (.bool false))).bind fun x9=>
some [x4,x9]:=Az rfl (by kernel_rfl)
theorem Aoe (x0 x1:IV):W Aoh 0 [x0,x1]=
(O.proj 0 x0).bind fun x2=>
(O.eq x2 (.int 5)).bind fun x3=>
cnd x3 (
W Aoh 1 [x1,(.int 0),x0,(.int 0),(.int 0),(.str ⟨#[]⟩)]) (
some [(.int 0),(.int 0),(.str ⟨#[]⟩),(.list []),(.list []),(.bool false)]):=Az rfl (by kernel_rfl)
theorem Ae3 (x0 x1 x2 x3 x4 x5:IV):W Aoh 1 [x0,x1,x2,x3,x4,x5]=
(O.proj 4 x2).bind fun x6=>
(O.len x6).bind fun x7=>
(O.lt x1 x7).bind fun x8=>
cnd x8 (
(O.index x6 x1).bind fun x9=>
(O.proj 0 x9).bind fun x10=>
(O.sEq x10 x0).bind fun x11=>
cnd x11 (
(O.projs 1 5 x9).bind fun x12=>
calls (W F9 0 [x12]) 5 fun x13 x14 x15 x16 x17=>
some [x13,x14,x15,x16,x17,(.bool true)]) (
(O.add .i64 x1 (.int 1)).bind fun x12=>
W Aoh 1 [x0,x12,x2,x3,x4,x5])) (
some [(.int 0),(.int 0),(.str ⟨#[]⟩),(.list []),(.list []),(.bool false)]):=Az rfl (by kernel_rfl)
theorem Apr (x0 x1:IV):W Awc 0 [x0,x1]=
(O.Dr []).bind fun x2=>
(O.append 48 x2 x0).bind fun x3=>
(O.Dr [x1]).bind fun x4=>
(O.append 48 x3 x4).bind fun x5=>
some [x5]:=Az rfl (by kernel_rfl)
theorem Amx (x0 x1 x2:IV):W Uq 0 [x0,x1,x2]=
W Uq 1 [x2,(.int 0),x0,x1,(.list [])]:=Az rfl (by kernel_rfl)
theorem Afo (x0 x1 x2 x3 x4:IV):W Uq 1 [x0,x1,x2,x3,x4]=
(O.proj 4 x3).bind fun x5=>
(O.len x5).bind fun x6=>
(O.lt x1 x6).bind fun x7=>
cnd x7 (
(O.index x5 x1).bind fun x8=>
(O.proj 0 x8).bind fun x9=>
(O.Dp [(.int 1),x9,(.int 0),(.str ⟨#[]⟩)]).bind fun x10=>
calls (W Awc 0 [x0,x10]) 1 fun x11=>
calls (W Ap9 0 [x2,x9]) 2 fun x12 x13=>
(O.proj 5 x2).bind fun x14=>
(O.len x14).bind fun x15=>
(O.eq x15 (.int 0)).bind fun x16=>
(cnd x16 (
(O.not x13).bind fun x17=>
some x17) (some (.bool false))).bind fun x17=>
cnd x17 (
calls (W Ahl 0 [x11,(.int 1)]) 1 fun x18=>
(O.append 24 x4 x18).bind fun x19=>
W Uq 2 [x0,x1,x2,x3,x19]) (
(O.proj 1 x8).bind fun x18=>
(O.ne x18 (.int 0)).bind fun x19=>
(cnd x19 (
(O.eq x15 (.int 1)).bind fun x20=>
some x20) (some (.bool false))).bind fun x20=>
cnd x20 (
(O.index x14 (.int 0)).bind fun x21=>
(O.projs 1 5 x8).bind fun x22=>
calls (W Aju 0 [x21,x22,x11]) 1 fun x23=>
(O.append 24 x4 x23).bind fun x24=>
W Uq 2 [x0,x1,x2,x3,x24]) (
(O.ne x18 (.int 0)).bind fun x21=>
cnd x21 (
(O.projs 4 7 x12).bind fun x22=>
(O.projs 1 5 x8).bind fun x23=>
calls (W Aju 0 [x22,x23,x11]) 1 fun x24=>
(O.append 24 x4 x24).bind fun x25=>
W Uq 2 [x0,x1,x2,x3,x25]) (
W Uq 2 [x0,x1,x2,x3,x4])))) (
W Uq 3 [x0,(.int 0),x2,x3,x4]):=Az rfl (by kernel_rfl)
theorem Apl (x0 x1 x2 x3 x4:IV):W Uq 2 [x0,x1,x2,x3,x4]=
(O.add .i64 x1 (.int 1)).bind fun x5=>
W Uq 1 [x0,x5,x2,x3,x4]:=Az rfl (by kernel_rfl)
theorem Aes (x0 x1 x2 x3 x4:IV):W Uq 3 [x0,x1,x2,x3,x4]=
(O.proj 6 x2).bind fun x5=>
(O.len x5).bind fun x6=>
(O.lt x1 x6).bind fun x7=>
cnd x7 (
(O.index x5 x1).bind fun x8=>
(O.proj 0 x8).bind fun x9=>
calls (W Axq 0 [x3,x9]) 6 fun x10 x11 x12 x13 x14 x15=>
(O.proj 1 x8).bind fun x16=>
(cnd x16 (
(O.not x15).bind fun x17=>
some x17) (some (.bool false))).bind fun x17=>
cnd x17 (
(O.Dp [(.int 1),x9,(.int 0),(.str ⟨#[]⟩)]).bind fun x18=>
calls (W Awc 0 [x0,x18]) 1 fun x19=>
calls (W Ahl 0 [x19,(.int 7)]) 1 fun x20=>
(O.append 24 x4 x20).bind fun x21=>
W Uq 4 [x0,x1,x2,x3,x21]) (
W Uq 4 [x0,x1,x2,x3,x4])) (
some [x4]):=Az rfl (by kernel_rfl)
theorem Am3 (x0 x1 x2 x3 x4:IV):W Uq 4 [x0,x1,x2,x3,x4]=
(O.add .i64 x1 (.int 1)).bind fun x5=>
W Uq 3 [x0,x5,x2,x3,x4]:=Az rfl (by kernel_rfl)
theorem An0 (x0 x1:IV):W Axq 0 [x0,x1]=
calls (W Aoh 0 [x0,x1]) 6 fun x2 x3 x4 x5 x6 x7=>
(O.not x7).bind fun x8=>
(cnd x8 (some (.bool true)) (
(O.eq x2 (.int 0)).bind fun x9=>
some x9)).bind fun x9=>
cnd x9 (
some [(.int 0),(.int 0),(.str ⟨#[]⟩),(.list []),(.list []),(.bool false)]) (
some [x2,x3,x4,x5,x6,(.bool true)]):=Az rfl (by kernel_rfl)
theorem Api (x0 x1:IV):W Ar6 0 [x0,x1]=
W Ar6 1 [x0,x1,(.int 0)]:=Az rfl (by kernel_rfl)
theorem Ad1 (x0 x1 x2:IV):W Ar6 1 [x0,x1,x2]=
(O.len x0).bind fun x3=>
(O.lt x2 x3).bind fun x4=>
cnd x4 (
(O.index x0 x2).bind fun x5=>
(O.sEq x5 x1).bind fun x6=>
cnd x6 (
some [(.bool true)]) (
(O.add .i64 x2 (.int 1)).bind fun x7=>
W Ar6 1 [x0,x1,x7])) (
some [(.bool false)]):=Az rfl (by kernel_rfl)
theorem Anh (x0 x1 x2:IV):W Amp 0 [x0,x1,x2]=
calls (W F1 0 [x0,x1,x2]) 1 fun x3=>
(O.not x3).bind fun x4=>
(cnd x4 (some (.bool true)) (
calls (W Axu 0 [x0]) 1 fun x5=>
(O.not x5).bind fun x6=>
some x6)).bind fun x5=>
(cnd x5 (some (.bool true)) (
calls (W Axb 0 [x1]) 1 fun x6=>
(O.not x6).bind fun x7=>
some x7)).bind fun x6=>
cnd x6 (
calls (W F5 0 []) 1 fun x7=>
some [x7]) (
calls (W F12 0 [x0,x1]) 1 fun x7=>
calls (W F96 0 [x0,x1,x7]) 1 fun x8=>
calls (W Awo 0 [x8,x1]) 1 fun x9=>
(O.not x9).bind fun x10=>
(cnd x10 (some (.bool true)) (
calls (W F110 0 [x0,x1,(.list [])]) 1 fun x11=>
calls (W Awo 0 [x11,x1]) 1 fun x12=>
(O.not x12).bind fun x13=>
some x13)).bind fun x11=>
cnd x11 (
some [(.bool false)]) (
calls (W F96 0 [x0,x1,x2]) 1 fun x12=>
calls (W F12 0 [x0,x12]) 1 fun x13=>
W Amp 1 [x7,(.int 0),x13])):=Az rfl (by kernel_rfl)
theorem Afn (x0 x1 x2:IV):W Amp 1 [x0,x1,x2]=
(O.len x2).bind fun x3=>
(O.lt x1 x3).bind fun x4=>
cnd x4 (
(O.index x2 x1).bind fun x5=>
(O.sNe x5 (.str ⟨#[]⟩)).bind fun x6=>
(cnd x6 (
calls (W Ar6 0 [x0,x5]) 1 fun x7=>
(O.not x7).bind fun x8=>
some x8) (some (.bool false))).bind fun x7=>
cnd x7 (
some [(.bool false)]) (
(O.add .i64 x1 (.int 1)).bind fun x8=>
W Amp 1 [x0,x8,x2])) (
calls (W F5 0 []) 1 fun x5=>
some [x5]):=Az rfl (by kernel_rfl)
theorem mixed:Tryz.prog.follows .mixedOrders =true:=by kernel_rfl
theorem numbers:Le specs=true:=by kernel_rfl
theorem Axp: ∀i s f,(i,s)∈specs→pr i=some f→Z5 Tryz.prog f s:=by
 intro i s f hm hp
 have hs:=Ri numbers hm
 unfold pr at hp
 split at hp
 ·injection hp with hp;subst hp;have he:=hs.symm.trans (show Jd 35 specs=some ⟨135,[.data 31],[.cells 31 [true]],true⟩ by kernel_rfl);injection he with he;subst he;refine Dd.flat ?_ (by kernel_rfl)
  exact Wo mixed (e:=70) (fn:=Avn Tryz.prog 135) (root:=Aeo Tryz.prog 135) (rest:=Ah0 Tryz.prog 135) ⟨by kernel_rfl,by kernel_rfl,by kernel_rfl,by kernel_rfl,by kernel_rfl,of_decide_eq_true (by kernel_rfl),by kernel_rfl,by kernel_rfl,by kernel_rfl,by kernel_rfl,96,by kernel_rfl,of_decide_eq_true (by kernel_rfl)⟩
 ·injection hp with hp;subst hp;have he:=hs.symm.trans (show Jd 42 specs=some ⟨199,[.data 9,.data 9],[.whole 3],false⟩ by kernel_rfl);injection he with he;subst he;refine Dd.flat ?_ (by kernel_rfl)
  exact Ahb (fn:=Avn Tryz.prog 199) (ts:=9) (ti:=3) (by kernel_rfl) (by kernel_rfl) (by kernel_rfl) (by kernel_rfl) (by kernel_rfl) (by kernel_rfl) (by kernel_rfl)
 ·injection hp with hp;subst hp;have he:=hs.symm.trans (show Jd 47 specs=some ⟨190,[.data 30],[.cells 30 [true]],true⟩ by kernel_rfl);injection he with he;subst he;refine Dd.flat ?_ (by kernel_rfl)
  exact Wo mixed (e:=33) (fn:=Avn Tryz.prog 190) (root:=Aeo Tryz.prog 190) (rest:=Ah0 Tryz.prog 190) ⟨by kernel_rfl,by kernel_rfl,by kernel_rfl,by kernel_rfl,by kernel_rfl,of_decide_eq_true (by kernel_rfl),by kernel_rfl,by kernel_rfl,by kernel_rfl,by kernel_rfl,80,by kernel_rfl,of_decide_eq_true (by kernel_rfl)⟩
 ·injection hp with hp;subst hp;have he:=hs.symm.trans (show Jd 60 specs=some ⟨233,[.bld 176 true],[],false⟩ by kernel_rfl);injection he with he;subst he;refine Dd.flat ?_ (by kernel_rfl)
  exact Yi Atf Anj (by kernel_rfl) (by kernel_rfl)
 ·injection hp with hp;subst hp;have he:=hs.symm.trans (show Jd 61 specs=some ⟨209,[.data 3],[.whole 9],false⟩ by kernel_rfl);injection he with he;subst he;refine Dd.flat ?_ (by kernel_rfl)
  exact Asy Tryz.Ate (by kernel_rfl) (by kernel_rfl) (by kernel_rfl)
 ·injection hp with hp;subst hp;have he:=hs.symm.trans (show Jd 64 specs=some ⟨211,[.bld 176 false],[.whole 9],false⟩ by kernel_rfl);injection he with he;subst he;refine Dd.flat ?_ (by kernel_rfl)
  exact Ak5 Tryz.Aul Tryz.extra (by kernel_rfl) (by kernel_rfl) (by kernel_rfl) (by kernel_rfl)
 ·injection hp with hp;subst hp;have he:=hs.symm.trans (show Jd 67 specs=some ⟨262,[.data 174,.data 21],[.cells 174 [true]],false⟩ by kernel_rfl);injection he with he;subst he;refine Dd.flat ?_ (by kernel_rfl)
  exact Aup
 ·injection hp with hp;subst hp;have he:=hs.symm.trans (show Jd 75 specs=some ⟨195,[.data 39],[.cells 39 [true]],false⟩ by kernel_rfl);injection he with he;subst he;refine Dd.flat ?_ (by kernel_rfl)
  exact Wo mixed (e:=74) (fn:=Avn Tryz.prog 195) (root:=Aeo Tryz.prog 195) (rest:=Ah0 Tryz.prog 195) ⟨by kernel_rfl,by kernel_rfl,by kernel_rfl,by kernel_rfl,by kernel_rfl,of_decide_eq_true (by kernel_rfl),by kernel_rfl,by kernel_rfl,by kernel_rfl,by kernel_rfl,48,by kernel_rfl,of_decide_eq_true (by kernel_rfl)⟩
 ·injection hp with hp;subst hp;have he:=hs.symm.trans (show Jd 76 specs=some ⟨194,[.own 39],[.clip 39],true⟩ by kernel_rfl);injection he with he;subst he;refine Dd.flat ?_ (by kernel_rfl)
  exact As6 (fn:=Avn Tryz.prog 194) (e:=74) (by kernel_rfl) (by kernel_rfl) (by kernel_rfl) (by kernel_rfl) Aai
 ·injection hp with hp;subst hp;have he:=hs.symm.trans (show Jd 92 specs=some ⟨212,[.fn 214 [22]],[.cells 22 [true]],false⟩ by kernel_rfl);injection he with he;subst he;refine Dd.flat ?_ (by kernel_rfl)
  exact Coll.Agw
 ·injection hp with hp;subst hp;have he:=hs.symm.trans (show Jd 93 specs=some ⟨213,[.arr 22],[],false⟩ by kernel_rfl);injection he with he;subst he;refine Dd.flat ?_ (by kernel_rfl)
  exact Coll.Aum
 ·injection hp with hp;subst hp;have he:=hs.symm.trans (show Jd 94 specs=some ⟨162,[.own 22],[.cells 22 [true]],false⟩ by kernel_rfl);injection he with he;subst he;refine Dd.flat ?_ (by kernel_rfl)
  exact Coll.Agi
 ·injection hp with hp;subst hp;have he:=hs.symm.trans (show Jd 113 specs=some ⟨168,[.own 22,.data 3],[.cells 22 [true]],false⟩ by kernel_rfl);injection he with he;subst he;refine Dd.flat ?_ (by kernel_rfl)
  exact Coll.Arq
 ·cases hp
theorem Aww: ∀k,Sound Tryz.prog specs (run (tab Tryz.prog specs Ua 3000) pr k):=Ahx mixed numbers (by kernel_rfl) Axp
end Go.CT.Sch
