import Derived.Test.YtfealnpkfnjbkaaGreatDoorCtC
import Derived.Test.YtfealnpkfnjbkaaGreatDoorLib
import Derived.Test.YtfealnpkfnjbkaaGreatDoorRows
set_option linter.unusedVariables false
set_option linter.unusedSimpArgs false
open Go.CT.C4 renaming flat->aP
open Go.CT.O renaming proj->aA,index->aB,len->aC,add->aD,eq->aE,lt->aF,not->aG,append->aH,projs->aI,Bg->aJ,ne->aK,gt->aL,sEq->aM,Bn->aN,le->aO,sub->aQ,cat->aR,ge->aS,sNe->aT,Mo->aU,C8->aV,setAt->aW,Hq->aX,sGe->aY,Io->aZ,E7->bA,Afz->bB
namespace Go.CT.Sch
open Go.Proofs
def F0:Nat:=0
def F1:Nat:=1
def F2:Nat:=2
def F3:Nat:=3
def F4:Nat:=4
def F5:Nat:=5
def F6:Nat:=6
def F7:Nat:=7
def F8:Nat:=8
def F10:Nat:=10
def F15:Nat:=15
def F16:Nat:=16
def F17:Nat:=17
def F18:Nat:=18
def F19:Nat:=19
def F20:Nat:=20
def F21:Nat:=21
def F22:Nat:=22
def F23:Nat:=23
def F24:Nat:=24
def F25:Nat:=25
def F26:Nat:=26
def F27:Nat:=27
def F28:Nat:=28
def F29:Nat:=29
def F30:Nat:=30
def F31:Nat:=31
def F32:Nat:=32
def F33:Nat:=33
def F34:Nat:=34
def F35:Nat:=35
def F36:Nat:=36
def F37:Nat:=37
def F38:Nat:=38
def F39:Nat:=39
def F40:Nat:=40
def F41:Nat:=41
def F42:Nat:=42
def F43:Nat:=43
def F44:Nat:=44
def F45:Nat:=45
def F46:Nat:=46
def F47:Nat:=47
def F48:Nat:=48
def F49:Nat:=49
def F50:Nat:=50
def F51:Nat:=51
def F52:Nat:=52
def F53:Nat:=53
def F54:Nat:=54
def F55:Nat:=55
def F56:Nat:=56
def F57:Nat:=57
def F58:Nat:=58
def F59:Nat:=59
def F60:Nat:=60
def F61:Nat:=61
def F62:Nat:=62
def F63:Nat:=63
def F64:Nat:=64
def F65:Nat:=65
def F66:Nat:=66
def F67:Nat:=67
def F68:Nat:=68
def F69:Nat:=69
def F70:Nat:=70
def F71:Nat:=71
def F72:Nat:=72
def F73:Nat:=73
def F74:Nat:=74
def F75:Nat:=75
def F76:Nat:=76
def F77:Nat:=77
def F78:Nat:=78
def F79:Nat:=79
def F80:Nat:=80
def F81:Nat:=81
def F82:Nat:=82
def F83:Nat:=83
def F84:Nat:=84
def F85:Nat:=85
def F86:Nat:=86
def F87:Nat:=87
def F88:Nat:=88
def F89:Nat:=89
def F90:Nat:=90
def F91:Nat:=91
def F92:Nat:=92
def F93:Nat:=93
def F94:Nat:=94
def F95:Nat:=95
def F96:Nat:=96
def F97:Nat:=97
def F98:Nat:=98
def F99:Nat:=99
def Apg:Nat:=100
def Bd0:Nat:=101
def Ank:Nat:=102
def A7c:Nat:=103
def F104:Nat:=104
def A65:Nat:=105
def F106:Nat:=106
def Bcj:Nat:=107
def Bax:Nat:=108
def F109:Nat:=109
def F110:Nat:=110
def F111:Nat:=111
def F112:Nat:=112
def F113:Nat:=113
def Aqd:Nat:=114
def A3i:Nat:=115
def Avm:Nat:=116
def A8m:Nat:=117
def Bbv:Nat:=118
def Bbl:Nat:=119
def Bbk:Nat:=120
def Agr:Nat:=121
def Bd1:Nat:=122
def A2e:Nat:=123
def F124:Nat:=124
def Anr:Nat:=125
def Aqo:Nat:=126
def Bdq:Nat:=127
def A8z:Nat:=128
def F129:Nat:=129
def A89:Nat:=130
def F131:Nat:=131
def Bdy:Nat:=132
def Afy:Nat:=133
def Bcr:Nat:=134
def A81:Nat:=135
def Bb5:Nat:=136
def Bdu:Nat:=137
def A9b:Nat:=138
def A9a:Nat:=139
def Bb1:Nat:=140
def A2r:Nat:=141
def Bcc:Nat:=145
def Atv:Nat:=148
def Bc0:Nat:=149
def Bcy:Nat:=150
def Aq8:Nat:=151
def F152:Nat:=152
def Bd3:Nat:=153
def Bbz:Nat:=163
def Bb7:Nat:=164
def Bca:Nat:=167
def Bcg:Nat:=169
def Atr:Nat:=170
def A2s:Nat:=171
def Avv:Nat:=172
def Bb8:Nat:=173
def Akq:Nat:=174
def F175:Nat:=175
def Apk:Nat:=176
def A29:Nat:=177
def P2:Nat:=178
def A1t:Nat:=179
def Akp:Nat:=180
def Avn:Nat:=181
def Avy:Nat:=182
def Yr:Nat:=183
def Ans:Nat:=184
def Bbx:Nat:=185
def A3w:Nat:=186
def Bad:Nat:=187
def Avr:Nat:=188
def Bbi:Nat:=189
def A80:Nat:=190
def A12:Nat:=191
def A7i:Nat:=192
def A15:Nat:=193
def A6c:Nat:=194
def A18:Nat:=195
def A85:Nat:=196
def Afx:Nat:=197
def A5o:Nat:=198
def Abk:Nat:=199
def Aph:Nat:=200
def Ape:Nat:=201
def Am0:Nat:=202
def Azn:Nat:=203
def Bch:Nat:=204
def A2h:Nat:=205
def Bb3:Nat:=206
def A8t:Nat:=207
def Bdw:Nat:=208
def Apd:Nat:=209
def Xf:Nat:=210
def Bb2:Nat:=211
def A2d:Nat:=212
def Aw0:Nat:=213
def A5g:Nat:=214
def Yz:Nat:=215
def Bcs:Nat:=216
def Bdt:Nat:=217
def Ah6:Nat:=218
def A4n:Nat:=219
def Tf:Nat:=220
def Bcl:Nat:=221
def A4t:Nat:=222
def Auu:Nat:=223
def Bcf:Nat:=224
def Bdf:Nat:=225
def Aa7:Nat:=226
def Bcz:Nat:=227
def Api:Nat:=228
def A8a:Nat:=229
def Aom:Nat:=230
def Ach:Nat:=231
def A90:Nat:=232
def A5b:Nat:=233
def A5s:Nat:=234
def Bce:Nat:=235
def A4e:Nat:=236
def F237:Nat:=237
def F238:Nat:=238
def Ahj:Nat:=239
def Ar6:Nat:=240
def A8f:Nat:=241
def A28:Nat:=242
def Bdp:Nat:=243
def Aqq:Nat:=244
def Avs:Nat:=245
def A2t:Nat:=246
def Ab6:Nat:=247
def specs:List (Nat × Spec):= [
 (0,⟨4,[.data 26,.data 30,.data 30,.data 31,.data 9,.data 9],[.whole 4],false⟩),
 (1,⟨8,[.data 26,.data 30,.data 30,.data 31],[.whole 4],false⟩),
 (2,⟨28,[.data 26,.data 3],[.whole 3],false⟩),
 (3,⟨29,[.data 30,.data 3],[.whole 4],false⟩),
 (4,⟨79,[.data 30,.data 3,.data 3],[.whole 3],false⟩),
 (5,⟨9,[],[.whole 4],false⟩),
 (6,⟨30,[],[.cells 26 [false,false,false,true,false,true,true]],true⟩),
 (7,⟨80,[],[.cells 26 [false,false,false,true,false,true,true]],true⟩),
 (8,⟨31,[.data 3,.data 3,.data 3],[.cells 30 [false,false,false,true,true]],true⟩),
 (9,⟨25,[.data 28],[.cells 30 [false,false,false,true,true]],true⟩),
 (10,⟨77,[.data 30],[.cells 30 [false,false,false,true,true]],true⟩),
 (11,⟨76,[.data 28,.data 84],[.cells 28 [true]],true⟩),
 (12,⟨82,[.data 3],[.cells 30 [false,false,false,true,true]],true⟩),
 (13,⟨81,[.data 30,.data 9,.data 30],[.cells 30 [false,false,false,true,true]],true⟩),
 (14,⟨130,[.data 30,.data 9],[.cells 28 [true]],true⟩),
 (15,⟨10,[.data 26,.data 30,.data 31,.data 9,.data 30,.data 4],[.whole 30,.cells 31 [true],.cells 34 [true],.whole 35],true⟩),
 (16,⟨32,[.data 26],[.whole 4],false⟩),
 (17,⟨83,[.data 26,.data 3],[.whole 4],false⟩),
 (18,⟨131,[.data 26,.data 3],[.whole 4],false⟩),
 (19,⟨132,[.data 26],[.whole 4],false⟩),
 (20,⟨189,[.data 9],[.cells 30 [false,false,false,true,true]],true⟩),
 (21,⟨33,[.data 30],[.whole 4],false⟩),
 (22,⟨84,[.data 30,.data 3],[.whole 4],false⟩),
 (23,⟨137,[.data 30],[.whole 4],false⟩),
 (24,⟨192,[.data 9],[.whole 4],false⟩),
 (25,⟨138,[.data 9],[.whole 4],false⟩),
 (26,⟨85,[.data 30],[.whole 3],false⟩),
 (27,⟨133,[.data 26],[.whole 4],false⟩),
 (28,⟨190,[.data 26,.data 9],[.whole 94,.whole 4],true⟩),
 (29,⟨243,[.data 24,.fn 244 [9]],[.whole 3],false⟩),
 (30,⟨244,[.data 94,.rd 9],[.whole 4],false⟩),
 (31,⟨245,[.data 26],[.whole 4],false⟩),
 (32,⟨134,[.data 23,.fn 135 [3]],[.whole 4],false⟩),
 (33,⟨191,[.data 23,.fn 135 [3]],[.whole 3],false⟩),
 (34,⟨135,[.data 26,.rd 3],[.whole 4],false⟩),
 (35,⟨136,[.data 26,.data 3],[.whole 4],false⟩),
 (36,⟨92,[.data 28],[.cells 30 [false,false,false,true,true]],true⟩),
 (37,⟨141,[.data 28],[.cells 28 [true]],true⟩),
 (38,⟨142,[.arr 28,.fn 143 []],[],false⟩),
 (39,⟨194,[.arr 28,.data 3,.fn 143 []],[],false⟩),
 (40,⟨251,[.arr 28,.data 3,.data 3,.fn 143 []],[],false⟩),
 (41,⟨143,[.data 84,.data 84],[.whole 3],false⟩),
 (42,⟨144,[.data 9,.data 9],[.whole 3],false⟩),
 (43,⟨195,[.data 9,.data 9],[.whole 3],false⟩),
 (44,⟨253,[.data 9,.data 9],[.whole 3],false⟩),
 (45,⟨252,[.arr 28,.data 3,.data 3,.data 3,.fn 143 []],[],false⟩),
 (46,⟨282,[.arr 28,.data 3,.data 3,.data 3,.fn 143 []],[],false⟩),
 (47,⟨299,[.arr 28,.data 3,.data 3,.data 3,.fn 143 []],[],false⟩),
 (48,⟨145,[.data 30],[.cells 30 [false,false,false,true,true]],true⟩),
 (49,⟨196,[.data 27],[.cells 27 [true]],true⟩),
 (50,⟨139,[.data 26,.data 30],[.cells 79 [true]],false⟩),
 (51,⟨193,[.box 175 [true],.data 26,.data 30,.data 87],[],false⟩),
 (52,⟨246,[.box 175 [true],.data 87,.data 35],[],false⟩),
 (53,⟨198,[.data 87],[.whole 9,.whole 35],false⟩),
 (54,⟨153,[.data 87],[.whole 4],false⟩),
 (55,⟨210,[.data 87,.fn 211 []],[.whole 4],false⟩),
 (56,⟨269,[.data 87,.fn 211 []],[.whole 3],false⟩),
 (57,⟨211,[.data 123],[.whole 4],false⟩),
 (58,⟨212,[.data 123],[.whole 4],false⟩),
 (59,⟨270,[.data 9],[.whole 4],false⟩),
 (60,⟨209,[.data 21],[.whole 4],false⟩),
 (61,⟨256,[.bld 223 true,.data 5],[.skip],false⟩),
 (62,⟨284,[.bld 223 true],[],false⟩),
 (63,⟨258,[.data 3],[.whole 9],false⟩),
 (64,⟨257,[.bld 223 true,.data 9],[.whole 3,.skip],false⟩),
 (65,⟨259,[.data 9],[.whole 9],false⟩),
 (66,⟨260,[.bld 223 false],[.whole 9],false⟩),
 (67,⟨286,[.bld 223 true,.data 21],[.whole 3,.skip],false⟩),
 (68,⟨302,[.own 98,.data 21],[.cells 98 [true]],false⟩),
 (69,⟨316,[.data 98,.data 21],[.cells 98 [true]],false⟩),
 (70,⟨40,[.data 22,.data 9],[.whole 4],false⟩),
 (71,⟨99,[.data 22,.data 9],[.whole 3],false⟩),
 (72,⟨247,[.box 175 [true],.data 26,.data 30,.data 87],[],false⟩),
 (73,⟨278,[.data 26,.data 3,.data 30],[.whole 123],false⟩),
 (74,⟨279,[.data 30,.data 9],[.whole 9,.whole 4],false⟩),
 (75,⟨102,[.data 30,.data 9],[.cells 30 [false,false,false,true,true],.whole 4],true⟩),
 (76,⟨248,[.data 87,.data 123],[.cells 87 [true]],false⟩),
 (77,⟨261,[.data 87],[.cells 87 [true]],false⟩),
 (78,⟨280,[.own 87],[.clip 87],true⟩),
 (79,⟨213,[.data 26],[.whole 4],false⟩),
 (80,⟨250,[.box 175 [true],.data 26,.data 30,.data 87],[],false⟩),
 (81,⟨249,[.data 9],[.whole 123],false⟩),
 (82,⟨281,[.data 30,.data 9],[.cells 30 [false,false,false,true,true],.whole 4],true⟩),
 (83,⟨34,[.data 31],[.whole 4],false⟩),
 (84,⟨35,[.data 9],[.whole 4],false⟩),
 (85,⟨86,[.data 22],[.whole 4],false⟩),
 (86,⟨36,[.data 26,.data 30],[.whole 4],false⟩),
 (87,⟨87,[.data 26,.data 30],[.cells 79 [true]],false⟩),
 (88,⟨88,[.data 26,.data 30],[.whole 4],false⟩),
 (89,⟨140,[.data 26,.data 30],[.whole 9,.whole 4],false⟩),
 (90,⟨98,[.data 26],[.whole 4],false⟩),
 (91,⟨101,[.data 26,.data 9],[.whole 26,.whole 4],true⟩),
 (92,⟨37,[.data 26,.data 30],[.whole 30],true⟩),
 (93,⟨89,[.data 30],[.whole 30],true⟩),
 (94,⟨109,[.data 27],[.cells 30 [false,false,false,true,true]],true⟩),
 (95,⟨90,[.data 26,.data 30,.fn 37 []],[.whole 30],true⟩),
 (96,⟨91,[.data 26,.data 9],[.whole 26,.whole 4],true⟩),
 (97,⟨38,[.data 26,.data 30],[.cells 22 [true]],false⟩),
 (98,⟨93,[.data 26,.data 30],[.cells 22 [true]],false⟩),
 (99,⟨146,[.data 26,.data 30],[.whole 4],false⟩),
 (100,⟨147,[.data 140,.data 87,.fnb 148 1,.box 22 [true]],[],false⟩),
 (101,⟨197,[.data 140],[.cells 179 [true]],true⟩),
 (102,⟨254,[.data 26,.data 30],[.cells 179 [true]],true⟩),
 (103,⟨243,[.data 24,.fn 283 [84]],[.whole 3],false⟩),
 (104,⟨283,[.data 94,.rd 84],[.whole 4],false⟩),
 (105,⟨255,[.data 26,.data 30],[.cells 179 [true]],true⟩),
 (106,⟨148,[.data 9,.box 22 [true]],[],false⟩),
 (107,⟨199,[.data 87,.data 123],[.cells 87 [true]],false⟩),
 (108,⟨119,[.data 22],[.cells 22 [true]],false⟩),
 (109,⟨170,[.data 22],[.clo 232 [(22,[false])]],true⟩),
 (110,⟨169,[.fn 232 [22]],[.cells 22 [true]],false⟩),
 (111,⟨230,[.fn 232 [22]],[.cells 22 [true]],false⟩),
 (112,⟨231,[.arr 22],[],false⟩),
 (113,⟨168,[.own 22],[.cells 22 [true]],false⟩),
 (114,⟨41,[.data 22,.data 22],[.cells 22 [true]],false⟩),
 (115,⟨100,[.data 22,.data 22,.data 4],[.cells 22 [true]],false⟩),
 (116,⟨156,[.own 22,.fnb 157 2,.box 147 [true],.box 4 [false]],[.cells 22 [true]],false⟩),
 (117,⟨216,[.data 22,.fnb 157 2,.box 147 [true],.box 4 [false]],[.whole 3],false⟩),
 (118,⟨157,[.data 9,.box 147 [true],.box 4 [false]],[.whole 4],false⟩),
 (119,⟨39,[.data 26,.data 30,.data 30,.data 9],[.whole 4],false⟩),
 (120,⟨94,[.data 30,.data 9],[.cells 30 [false,false,false,true,true],.whole 4],true⟩),
 (121,⟨96,[.data 9],[.cells 87 [true],.whole 35],false⟩),
 (122,⟨151,[.data 9],[.whole 123,.whole 9,.whole 4],false⟩),
 (123,⟨152,[.data 9],[.whole 3],false⟩),
 (124,⟨207,[.data 9],[.whole 3,.whole 4],false⟩),
 (125,⟨208,[.data 9],[.whole 9,.whole 9,.whole 4],false⟩),
 (126,⟨149,[.data 30,.data 87],[.cells 30 [false,false,false,true,true],.whole 4],true⟩),
 (127,⟨200,[.data 30,.data 123],[.whole 3],false⟩),
 (128,⟨262,[.data 28,.fn 263 [123]],[.whole 3],false⟩),
 (129,⟨263,[.data 84,.rd 123],[.whole 4],false⟩),
 (130,⟨264,[.data 27,.fn 265 [123]],[.whole 3],false⟩),
 (131,⟨265,[.data 30,.rd 123],[.whole 4],false⟩),
 (132,⟨266,[.data 30,.data 123],[.whole 4],false⟩),
 (133,⟨201,[.data 30],[.cells 30 [false,false,false,true,true]],true⟩),
 (134,⟨95,[.data 30,.data 30],[.whole 4],false⟩),
 (135,⟨150,[.data 30,.data 30],[.whole 3],false⟩),
 (136,⟨203,[.data 3,.data 3],[.whole 3],false⟩),
 (137,⟨267,[.data 3],[.whole 4],false⟩),
 (138,⟨204,[.data 27,.data 27,.fn 150 []],[.whole 3],false⟩),
 (139,⟨205,[.data 28,.data 28,.fn 206 []],[.whole 3],false⟩),
 (140,⟨206,[.data 84,.data 84],[.whole 3],false⟩),
 (141,⟨202,[.data 96],[.whole 3],false⟩),
 (142,⟨97,[.data 26,.data 87],[.cells 26 [false,false,false,true,false,true,true],.whole 4],true⟩),
 (143,⟨154,[.data 26,.data 123],[.whole 26,.whole 4],true⟩),
 (144,⟨155,[.data 26],[.cells 26 [false,false,false,true,false,true,true]],true⟩),
 (145,⟨60,[.data 22],[.cells 22 [true]],false⟩),
 (146,⟨214,[.data 23],[.cells 23 [true]],true⟩),
 (147,⟨215,[.data 24],[.cells 24 [true]],true⟩),
 (148,⟨42,[.data 31,.data 9],[.strict 22],true⟩),
 (149,⟨43,[.data 31,.data 9],[.cells 22 [true]],false⟩),
 (150,⟨62,[.data 22,.data 22],[.cells 22 [true]],false⟩),
 (151,⟨120,[.data 160],[.cells 22 [true]],false⟩),
 (152,⟨171,[.own 22,.data 3],[.cells 22 [true]],false⟩),
 (153,⟨45,[.data 26,.data 30,.data 22],[.whole 30],true⟩),
 (154,⟨105,[.data 26,.data 30,.data 22,.data 4],[.whole 30],true⟩),
 (155,⟨160,[.data 140,.data 87,.fnb 161 2,.box 147 [true],.box 4 [false]],[.whole 30,.whole 4],true⟩),
 (156,⟨161,[.data 9,.box 147 [true],.box 4 [false]],[.whole 4],false⟩),
 (157,⟨103,[.data 30,.data 9,.data 30],[.cells 30 [false,false,false,true,true]],true⟩),
 (158,⟨158,[.data 30,.data 9],[.cells 28 [true]],true⟩),
 (159,⟨217,[.own 28,.fn 218 [9]],[.cells 28 [true]],true⟩),
 (160,⟨262,[.data 28,.fn 218 [9]],[.whole 3],false⟩),
 (161,⟨218,[.data 84,.rd 9],[.whole 4],false⟩),
 (162,⟨162,[],[.cells 30 [false,false,false,true,true]],true⟩),
 (163,⟨44,[.data 26,.data 30,.data 30,.data 4],[.whole 30],true⟩),
 (164,⟨48,[.data 30],[.whole 30],true⟩),
 (165,⟨104,[.data 26,.data 30,.data 30],[.cells 30 [false,false,false,true,true]],true⟩),
 (166,⟨159,[.data 26,.data 27,.data 9],[.whole 30,.whole 4],true⟩),
 (167,⟨46,[.data 31,.data 9,.data 22,.fn 47 [34]],[.cells 31 [true]],true⟩),
 (168,⟨47,[.data 52,.rd 34],[.cells 22 [true]],false⟩),
 (169,⟨106,[.arr 31,.fn 107 []],[],false⟩),
 (170,⟨108,[.data 31],[.cells 31 [true]],true⟩),
 (171,⟨17,[.data 26,.data 30,.data 30,.data 31,.data 9],[.cells 31 [true]],true⟩),
 (172,⟨61,[.data 26,.data 30,.data 30],[.cells 22 [true]],false⟩),
 (173,⟨63,[.data 22,.data 22],[.cells 22 [true]],false⟩),
 (174,⟨46,[.data 31,.data 9,.data 22,.fn 64 [22,22]],[.cells 31 [true]],true⟩),
 (175,⟨64,[.data 52,.rd 22,.rd 22],[.cells 22 [true]],false⟩),
 (176,⟨15,[.data 31,.data 9],[.cells 22 [true]],false⟩),
 (177,⟨12,[.data 30,.data 30],[.whole 4],false⟩),
 (178,⟨58,[.data 30,.data 30],[.whole 3],false⟩),
 (179,⟨118,[.data 4,.data 4],[.whole 3],false⟩),
 (180,⟨13,[.data 31,.data 31],[.whole 4],false⟩),
 (181,⟨16,[.data 31,.data 9],[.cells 22 [true]],false⟩),
 (182,⟨59,[.data 22,.data 9],[.whole 4],false⟩),
 (183,⟨18,[.data 26,.data 30,.data 30,.data 31,.data 9],[.whole 31],true⟩),
 (184,⟨20,[.data 31],[.whole 4],false⟩),
 (185,⟨49,[.data 9],[.whole 4],false⟩),
 (186,⟨19,[.data 26,.data 30],[.whole 4],false⟩),
 (187,⟨67,[.data 26],[.whole 4],false⟩),
 (188,⟨121,[.data 26,.data 3],[.whole 4],false⟩),
 (189,⟨172,[.data 26],[.whole 4],false⟩),
 (190,⟨173,[.data 26],[.whole 4],false⟩),
 (191,⟨229,[.data 9],[.whole 4],false⟩),
 (192,⟨174,[.data 26,.data 3],[.whole 4],false⟩),
 (193,⟨128,[.data 26,.data 9],[.whole 94,.whole 4],true⟩),
 (194,⟨175,[.data 26,.data 3],[.whole 4],false⟩),
 (195,⟨167,[.data 9],[.whole 4],false⟩),
 (196,⟨57,[.data 30],[.whole 4],false⟩),
 (197,⟨116,[.data 30,.data 3],[.whole 4],false⟩),
 (198,⟨166,[.data 30],[.whole 4],false⟩),
 (199,⟨117,[.data 30],[.whole 3],false⟩),
 (200,⟨122,[.data 26,.data 30,.data 87],[.cells 79 [true]],false⟩),
 (201,⟨176,[.data 87,.data 35],[.cells 79 [true]],false⟩),
 (202,⟨180,[.data 87],[.whole 9,.whole 35],false⟩),
 (203,⟨127,[.data 87],[.whole 4],false⟩),
 (204,⟨186,[.data 123],[.whole 4],false⟩),
 (205,⟨241,[.data 9],[.whole 4],false⟩),
 (206,⟨240,[.data 5],[.whole 4],false⟩),
 (207,⟨242,[.data 9],[.whole 4],false⟩),
 (208,⟨235,[.data 3],[.whole 9],false⟩),
 (209,⟨236,[.data 9],[.whole 9],false⟩),
 (210,⟨177,[.data 26,.data 30,.data 87],[.cells 79 [true]],false⟩),
 (211,⟨182,[.data 26,.data 27,.data 3],[.whole 123],false⟩),
 (212,⟨123,[.data 30,.data 9],[.whole 9,.whole 4],false⟩),
 (213,⟨111,[.data 30,.data 9],[.cells 30 [false,false,false,true,true],.whole 4],true⟩),
 (214,⟨181,[.data 87,.data 123],[.cells 87 [true]],false⟩),
 (215,⟨178,[.data 26,.data 30,.data 87],[.cells 79 [true]],false⟩),
 (216,⟨233,[.data 30,.data 9],[.cells 30 [false,false,false,true,true],.whole 4],true⟩),
 (217,⟨68,[.data 26,.data 30],[.cells 79 [true]],false⟩),
 (218,⟨69,[.data 26,.data 30],[.whole 4],false⟩),
 (219,⟨112,[.data 26,.data 9],[.whole 26],true⟩),
 (220,⟨21,[.data 26,.data 30],[.whole 30],true⟩),
 (221,⟨70,[.data 26],[.whole 4],false⟩),
 (222,⟨71,[.data 26,.data 9],[.whole 26,.whole 4],true⟩),
 (223,⟨22,[.data 26,.data 30],[.cells 22 [true]],false⟩),
 (224,⟨72,[.data 26,.data 30],[.cells 22 [true]],false⟩),
 (225,⟨124,[.data 26,.data 30],[.whole 4],false⟩),
 (226,⟨125,[.data 26,.data 4,.data 30,.data 87],[.cells 22 [true]],false⟩),
 (227,⟨179,[.data 26,.data 4,.data 30],[.whole 4],false⟩),
 (228,⟨234,[.data 26,.data 30],[.whole 4],false⟩),
 (229,⟨183,[.data 26,.data 9],[.whole 26,.whole 4],true⟩),
 (230,⟨66,[.data 22,.data 22],[.cells 22 [true]],false⟩),
 (231,⟨110,[.data 22,.data 9],[.cells 22 [true]],false⟩),
 (232,⟨26,[.data 30,.data 9],[.whole 30,.whole 4],true⟩),
 (233,⟨73,[.data 9],[.cells 87 [true],.whole 35],false⟩),
 (234,⟨126,[.data 9,.data 3],[.whole 125],false⟩),
 (235,⟨184,[.data 9,.data 3],[.whole 125],false⟩),
 (236,⟨185,[.data 9,.data 3],[.whole 3],false⟩),
 (237,⟨237,[.data 9],[.whole 3],false⟩),
 (238,⟨238,[.data 9],[.whole 4],false⟩),
 (239,⟨239,[.data 9,.data 3],[.whole 9,.whole 3,.whole 4],false⟩),
 (240,⟨78,[.data 30,.data 87],[.whole 30,.whole 4],true⟩),
 (241,⟨129,[.data 30,.data 123],[.whole 3],false⟩),
 (242,⟨187,[.data 30,.data 9],[.whole 3],false⟩),
 (243,⟨188,[.data 30,.data 9,.data 9],[.whole 4],false⟩),
 (244,⟨65,[.data 22,.data 22],[.cells 22 [true]],false⟩),
 (245,⟨51,[.data 22,.data 22],[.cells 22 [true]],false⟩),
 (246,⟨52,[.data 31,.data 9],[.whole 22],true⟩),
 (247,⟨56,[.data 31,.data 9,.data 22],[.cells 31 [true]],true⟩)]
def zB:Nat->Nat->List Bool
 | 0,_=> []
 | n+1,k=>Nat.beq (k % 2) 1::zB n (k / 2)
def zk (a b n k:Nat):Key:=(a,b,zB n k)
def za (k n t:Nat):Nat × SV:=(k,⟨[],.one (.leaf (.at (.v n) t))⟩)
def zp (k o:Nat):Nat × SV:=(k,⟨[],.one (.leaf (.ptr (.p o 0)))⟩)
def zr (k o t:Nat):Nat × SV:=(k,⟨[],.one (.leaf (.ref o t))⟩)
def zf (k f:Nat):Nat × SV:=(k,⟨[],.one (.leaf (.fn f []))⟩)
def zx (k t n:Nat):Nat × Ob:=(k,.box t (.leaf (.at (.v n) t)))
def zy (k e t n:Nat):Nat × Ob:=(k,.arr e t (.v n))
def zv (n t:Nat):LV:= .at (.v n) t
def b0:List Blk:= [
 ⟨[zk 0 0 8 244,zk 2 0 8 244,(1,0,[]),zk 0 0 5 31],⟨8,5,[za 3 0 31,za 4 1 9,zp 6 0,zp 7 1,zp 8 2,zr 13 3 22,zr 14 4 22,za 15 2 3],[zx 0 26 3,zx 1 30 4,zx 2 30 5,zy 3 9 22 6,zy 4 9 22 7]⟩⟩]
def b1:List Blk:= [
 ⟨[zk 0 0 6 52,zk 2 0 6 52,(1,0,[]),zk 0 0 3 7],⟨6,3,[za 3 0 31,zp 4 0,zp 5 1,zp 6 2,za 9 1 3,za 10 2 3],[zx 0 26 3,zx 1 30 4,zx 2 30 5]⟩⟩]
def b2:List Blk:= [
 ⟨[zk 0 0 6 52,zk 2 0 6 52,(1,0,[]),zk 0 0 3 7],⟨4,1,[za 1 0 3,zp 2 0,za 5 1 3,za 6 2 3],[zx 0 26 3]⟩⟩,
 ⟨[zk 0 0 7 116,zk 2 0 7 116,(1,2,[]),zk 0 0 4 15],⟨4,1,[za 1 0 3,zp 2 0,za 5 1 3,za 7 2 3],[zx 0 26 3]⟩⟩]
def b4:List Blk:= [
 ⟨[zk 0 0 7 116,zk 2 0 7 116,(1,0,[]),zk 0 0 4 15],⟨4,1,[za 1 0 3,za 2 1 3,zp 3 0,za 7 2 3],[zx 0 30 3]⟩⟩,
 ⟨[zk 0 0 8 244,zk 2 0 8 244,(1,2,[]),zk 0 0 5 31],⟨4,1,[za 1 0 3,za 2 1 3,zp 3 0,za 8 2 3],[zx 0 30 3]⟩⟩]
def b8:List Blk:= [
 ⟨[zk 0 0 7 116,zk 2 0 7 116,(1,0,[]),zk 0 0 4 15],⟨10,5,[zp 6 0,zp 7 1,zr 8 2 96,za 9 0 3],[(0,.box 30 (.agg 30 [zv 1 3,zv 2 3,zv 3 9,.nil 27,.nil 28])),(1,.box 30 (.agg 30 [zv 4 3,zv 5 3,zv 6 9,.ref 3 27,.ref 4 28])),zy 2 3 96 7,zy 3 30 27 8,zy 4 84 28 9]⟩⟩,
 ⟨[(1,1,[]),zk 0 0 9 467,zk 2 0 7 116,(1,0,[]),zk 0 0 4 15],⟨10,5,[zp 6 0,zp 7 1,zr 8 2 96,za 9 0 3],[(0,.box 30 (.agg 30 [zv 1 3,zv 2 3,zv 3 9,.nil 27,.nil 28])),(1,.box 30 (.agg 30 [zv 4 3,zv 5 3,zv 6 9,.ref 3 27,.ref 4 28])),zy 2 3 96 7,zy 3 30 27 8,zy 4 84 28 9]⟩⟩]
def b9:List Blk:= [
 ⟨[zk 0 0 6 52,zk 2 0 6 52,(1,0,[]),zk 0 0 3 7],⟨9,3,[za 0 0 28,zp 2 0,zp 3 1,za 4 1 3],[(0,.box 30 (.agg 30 [zv 2 3,zv 3 3,zv 4 9,.nil 27,.nil 28])),(1,.box 30 (.agg 30 [zv 5 3,zv 6 3,zv 7 9,.nil 27,.ref 2 28])),zy 2 84 28 8]⟩⟩]
def b10:List Blk:= [
 ⟨[zk 0 0 6 52,zk 2 0 6 52,(1,0,[]),zk 0 0 3 7],⟨9,4,[zp 1 0,zp 2 1,zp 3 2,za 4 0 3],[zx 0 30 1,(1,.box 30 (.agg 30 [zv 2 3,zv 3 3,zv 4 9,.nil 27,.nil 28])),(2,.box 30 (.agg 30 [zv 5 3,zv 6 3,zv 7 9,.ref 3 27,.nil 28])),zy 3 30 27 8]⟩⟩,
 ⟨[zk 0 0 7 116,zk 2 0 7 116,(1,2,[]),zk 0 0 4 15],⟨10,5,[zp 1 0,zp 2 1,zp 3 2,za 5 0 3],[zx 0 30 1,(1,.box 30 (.agg 30 [zv 2 3,zv 3 3,zv 4 9,.nil 27,.nil 28])),(2,.box 30 (.agg 30 [zv 5 3,zv 6 3,zv 7 9,.ref 3 27,.ref 4 28])),zy 3 30 27 8,zy 4 84 28 9]⟩⟩]
def b11:List Blk:= [
 ⟨[zk 0 0 7 116,zk 2 0 7 116,(1,0,[]),zk 0 0 4 15],⟨5,2,[za 0 0 28,zp 3 0,zr 5 1 28,za 6 1 4,za 7 2 3],[zx 0 84 3,zy 1 84 28 4]⟩⟩,
 ⟨[zk 0 0 11 1865,(1,1,[]),zk 0 0 9 467,zk 2 0 7 116,(1,0,[]),zk 0 0 4 15],⟨5,2,[za 0 0 28,zp 3 0,zr 5 1 28,za 6 1 4,za 7 2 3],[zx 0 84 3,zy 1 84 28 4]⟩⟩,
 ⟨[(1,1,[]),zk 0 0 9 467,zk 2 0 7 116,(1,0,[]),zk 0 0 4 15],⟨5,2,[za 0 0 28,zp 3 0,zr 5 1 28,za 6 1 4,za 7 2 3],[zx 0 84 3,zy 1 84 28 4]⟩⟩]
def b14:List Blk:= [
 ⟨[zk 0 0 6 52,zk 2 0 6 52,(1,0,[]),zk 0 0 3 7],⟨4,2,[za 1 0 9,zp 2 0,zr 5 1 28,za 6 1 3],[zx 0 30 2,zy 1 84 28 3]⟩⟩,
 ⟨[(1,1,[]),zk 0 0 8 211,zk 2 0 6 52,(1,0,[]),zk 0 0 3 7],⟨4,2,[za 1 0 9,zp 2 0,zr 5 1 28,za 6 1 3],[zx 0 30 2,zy 1 84 28 3]⟩⟩]
def b15:List Blk:= [
 ⟨[zk 0 0 9 500,zk 2 0 9 500,(1,0,[]),zk 0 0 6 63],⟨13,7,[za 2 0 31,za 3 1 9,za 5 2 4,zp 6 0,zp 7 1,zp 10 2,zp 12 3,zr 16 4 22,zp 17 5,zr 70 4 22,za 71 3 3,za 72 4 3],[zx 0 26 5,zx 1 30 6,zx 2 30 7,(3,.box 30 (.agg 30 [zv 8 3,zv 9 3,zv 10 9,.nil 27,.nil 28])),zy 4 9 22 11,(5,.box 34 (.leaf (.ref 6 34))),zy 6 55 34 12]⟩⟩,
 ⟨[zk 0 0 12 4007,zk 2 0 9 500,(1,0,[]),zk 0 0 6 63],⟨13,7,[za 2 0 31,za 3 1 9,za 5 2 4,zp 6 0,zp 7 1,zp 10 2,zp 12 3,zr 16 4 22,zp 17 5,zr 70 4 22,za 71 3 3,za 72 4 3],[zx 0 26 5,zx 1 30 6,zx 2 30 7,(3,.box 30 (.agg 30 [zv 8 3,zv 9 3,zv 10 9,.nil 27,.nil 28])),zy 4 9 22 11,(5,.box 34 (.leaf (.ref 6 34))),zy 6 55 34 12]⟩⟩,
 ⟨[zk 0 0 18 256412,zk 2 0 18 256412,(1,2,[]),(1,1,[]),zk 0 0 12 4007,zk 2 0 9 500,(1,0,[]),zk 0 0 6 63],⟨17,7,[za 2 0 31,za 3 1 9,za 5 2 4,zp 6 0,zp 7 1,zp 10 2,zp 12 3,zr 16 4 22,zp 17 5,za 19 3 9,zr 70 4 22,za 71 4 3,za 72 5 3,za 81 6 31,za 82 7 3,za 83 8 3],[zx 0 26 9,zx 1 30 10,zx 2 30 11,(3,.box 30 (.agg 30 [zv 12 3,zv 13 3,zv 14 9,.nil 27,.nil 28])),zy 4 9 22 15,(5,.box 34 (.leaf (.ref 6 34))),zy 6 55 34 16]⟩⟩,
 ⟨[(1,3,[]),zk 0 0 21 2051303,zk 2 0 18 256412,(1,2,[]),(1,1,[]),zk 0 0 12 4007,zk 2 0 9 500,(1,0,[]),zk 0 0 6 63],⟨17,7,[za 2 0 31,za 3 1 9,za 5 2 4,zp 6 0,zp 7 1,zp 10 2,zp 12 3,zr 16 4 22,zp 17 5,za 19 3 9,zr 70 4 22,za 71 4 3,za 72 5 3,za 81 6 31,za 82 7 3,za 83 8 3],[zx 0 26 9,zx 1 30 10,zx 2 30 11,(3,.box 30 (.agg 30 [zv 12 3,zv 13 3,zv 14 9,.nil 27,.nil 28])),zy 4 9 22 15,(5,.box 34 (.leaf (.ref 6 34))),zy 6 55 34 16]⟩⟩]
def b19:List Blk:= [
 ⟨[zk 0 0 5 20,zk 2 0 5 20,(1,0,[]),zk 0 0 2 3],⟨4,1,[zp 1 0,za 6 0 22,za 7 1 3,za 8 2 3],[zx 0 26 3]⟩⟩]
def b22:List Blk:= [
 ⟨[zk 0 0 6 52,zk 2 0 6 52,(1,0,[]),zk 0 0 3 7],⟨5,1,[za 1 0 3,zp 2 0,za 51 1 27,za 52 2 3,za 53 3 3],[zx 0 30 4]⟩⟩,
 ⟨[zk 0 0 7 116,zk 2 0 7 116,(1,2,[]),zk 0 0 4 15],⟨5,1,[za 1 0 3,zp 2 0,za 64 1 28,za 65 2 3,za 66 3 3],[zx 0 30 4]⟩⟩]
def b23:List Blk:= [
 ⟨[zk 0 0 11 1407,(1,0,[]),zk 0 0 2 3],⟨2,1,[zp 1 0,za 45 0 4],[zx 0 30 1]⟩⟩]
def b24:List Blk:= [
 ⟨[zk 0 0 5 20,zk 2 0 5 20,(1,0,[]),zk 0 0 2 3],⟨3,0,[za 0 0 9,za 5 1 3,za 6 2 3],[]⟩⟩]
def b25:List Blk:= [
 ⟨[zk 0 0 5 20,zk 2 0 5 20,(1,0,[]),zk 0 0 2 3],⟨3,0,[za 0 0 9,za 6 1 3,za 7 2 3],[]⟩⟩]
def b26:List Blk:= [
 ⟨[zk 0 0 6 52,zk 2 0 6 52,(1,0,[]),zk 0 0 3 7],⟨5,1,[zp 1 0,za 3 0 3,za 9 1 27,za 10 2 3,za 11 3 3],[zx 0 30 4]⟩⟩,
 ⟨[zk 0 0 7 116,zk 2 0 7 116,(1,2,[]),zk 0 0 4 15],⟨4,0,[za 3 0 3,za 21 1 28,za 22 2 3,za 23 3 3],[]⟩⟩]
def b29:List Blk:= [
 ⟨[zk 0 0 5 20,zk 2 0 5 20,(1,0,[]),zk 0 0 2 3],⟨4,0,[za 0 0 24,(1,⟨[],.one (.leaf (.fn 244 [.im (.v 1) 9 0]))⟩),za 7 2 3,za 8 3 3],[]⟩⟩]
def b33:List Blk:= [
 ⟨[zk 0 0 5 20,zk 2 0 5 20,(1,0,[]),zk 0 0 2 3],⟨4,0,[za 0 0 23,(1,⟨[],.one (.leaf (.fn 135 [.im (.v 1) 3 0]))⟩),za 7 2 3,za 8 3 3],[]⟩⟩]
def b35:List Blk:= [
 ⟨[zk 0 0 5 20,zk 2 0 5 20,(1,0,[]),zk 0 0 2 3],⟨5,1,[za 1 0 3,zp 2 0,za 11 1 24,za 12 2 3,za 13 3 3],[zx 0 26 4]⟩⟩,
 ⟨[zk 0 0 15 21308,zk 2 0 15 21308,(1,2,[]),(1,1,[]),zk 0 0 8 167,zk 2 0 5 20,(1,0,[]),zk 0 0 2 3],⟨9,2,[za 1 0 3,zp 2 0,zp 6 1,za 11 1 24,za 12 2 3,za 13 3 3,za 56 4 27,za 57 5 3,za 58 6 3],[zx 0 26 7,zx 1 94 8]⟩⟩]
def b36:List Blk:= [
 ⟨[zk 0 0 8 244,zk 2 0 8 244,(1,0,[]),zk 0 0 5 31],⟨10,4,[zp 2 0,zr 3 1 28,zp 4 2,zr 12 1 28,za 13 0 3,za 14 1 3],[(0,.box 30 (.agg 30 [zv 2 3,zv 3 3,zv 4 9,.nil 27,.nil 28])),zy 1 84 28 5,(2,.box 30 (.agg 30 [zv 6 3,zv 7 3,zv 8 9,.nil 27,.ref 3 28])),zy 3 84 28 9]⟩⟩,
 ⟨[(1,1,[]),zk 0 0 11 1959,zk 2 0 8 244,(1,0,[]),zk 0 0 5 31],⟨10,4,[zp 2 0,zr 3 1 28,zp 4 2,zr 12 1 28,za 13 0 3,za 14 1 3],[(0,.box 30 (.agg 30 [zv 2 3,zv 3 3,zv 4 9,.nil 27,.nil 28])),zy 1 84 28 5,(2,.box 30 (.agg 30 [zv 6 3,zv 7 3,zv 8 9,.nil 27,.ref 3 28])),zy 3 84 28 9]⟩⟩]
def b39:List Blk:= [
 ⟨[zk 0 0 5 24,zk 2 0 5 24,(1,0,[]),zk 0 0 3 7],⟨5,1,[zr 0 0 28,za 1 0 3,zf 2 143,za 6 1 3,za 7 2 3,za 8 3 3],[zy 0 84 28 4]⟩⟩,
 ⟨[zk 0 0 6 60,zk 2 0 6 60,(1,2,[])],⟨3,1,[zr 0 0 28,za 1 0 3,zf 2 143,za 6 1 3],[zy 0 84 28 2]⟩⟩,
 ⟨[zk 0 0 12 3880,zk 2 0 12 3880,(1,4,[]),zk 0 0 10 971,(1,3,[]),zk 2 0 6 60,(1,2,[])],⟨5,1,[zr 0 0 28,za 1 0 3,zf 2 143,za 6 1 3,za 7 2 3,za 8 3 3],[zy 0 84 28 4]⟩⟩,
 ⟨[zk 0 0 11 1943,(1,3,[]),zk 2 0 6 60,(1,2,[])],⟨3,1,[zr 0 0 28,za 1 0 3,zf 2 143,za 6 1 3],[zy 0 84 28 2]⟩⟩]
def b40:List Blk:= [
 ⟨[zk 0 0 3 4,zk 2 0 3 4,(1,0,[])],⟨4,1,[zr 0 0 28,za 1 0 3,za 2 1 3,zf 3 143,za 8 2 3],[zy 0 84 28 3]⟩⟩,
 ⟨[zk 0 0 9 292,zk 2 0 9 292,(1,2,[]),(1,1,[]),zk 0 0 5 19,zk 2 0 3 4,(1,0,[])],⟨5,1,[zr 0 0 28,za 1 0 3,za 2 1 3,zf 3 143,za 8 2 3,za 9 3 3],[zy 0 84 28 4]⟩⟩]
def b45:List Blk:= [
 ⟨[zk 0 0 8 88,zk 2 0 8 88,(1,0,[]),zk 0 0 6 23,zk 0 0 1 1],⟨4,1,[zr 0 0 28,za 1 0 3,zf 4 143,za 10 1 3,za 11 2 3],[zy 0 84 28 3]⟩⟩,
 ⟨[zk 0 0 9 344,zk 2 0 9 344,(1,4,[]),zk 0 0 7 87,zk 0 0 2 3],⟨4,1,[zr 0 0 28,za 2 0 3,zf 4 143,za 14 1 3,za 15 2 3],[zy 0 84 28 3]⟩⟩,
 ⟨[zk 0 0 6 63],⟨8,1,[zr 0 0 28,za 1 0 3,za 2 1 3,za 3 2 3,zf 4 143,za 18 3 3,za 19 4 3,za 20 5 3,za 21 6 3],[zy 0 84 28 7]⟩⟩,
 ⟨[(1,1,[]),zk 2 0 8 88,(1,0,[]),zk 0 0 6 23,zk 0 0 1 1],⟨4,1,[zr 0 0 28,za 1 0 3,zf 4 143,za 10 1 3,za 11 2 3],[zy 0 84 28 3]⟩⟩,
 ⟨[zk 0 0 10 372,zk 2 0 10 372,(1,2,[]),zk 0 0 7 47,zk 0 0 1 1],⟨3,1,[zr 0 0 28,za 10 0 3,za 13 1 3],[zy 0 84 28 2]⟩⟩,
 ⟨[(1,5,[]),zk 2 0 9 344,(1,4,[]),zk 0 0 7 87,zk 0 0 2 3],⟨4,1,[zr 0 0 28,za 2 0 3,zf 4 143,za 14 1 3,za 15 2 3],[zy 0 84 28 3]⟩⟩,
 ⟨[zk 0 0 11 1396,zk 2 0 11 1396,(1,6,[]),zk 0 0 8 175,zk 0 0 2 3],⟨3,1,[zr 0 0 28,za 14 0 3,za 17 1 3],[zy 0 84 28 2]⟩⟩,
 ⟨[zk 0 0 10 1016,zk 2 0 10 1016,(1,8,[]),zk 0 0 8 255],⟨9,1,[zr 0 0 28,za 1 0 3,za 2 1 3,za 3 2 3,zf 4 143,za 18 3 3,za 19 4 3,za 20 5 3,za 21 6 3,za 22 7 3],[zy 0 84 28 8]⟩⟩,
 ⟨[(1,9,[]),zk 2 0 10 1016,(1,8,[]),zk 0 0 8 255],⟨9,1,[zr 0 0 28,za 1 0 3,za 2 1 3,za 3 2 3,zf 4 143,za 18 3 3,za 19 4 3,za 20 5 3,za 21 6 3,za 22 7 3],[zy 0 84 28 8]⟩⟩,
 ⟨[zk 0 0 10 1023],⟨6,1,[zr 0 0 28,za 1 0 3,za 3 1 3,zf 4 143,za 18 2 3,za 20 3 3,za 24 4 3],[zy 0 84 28 5]⟩⟩,
 ⟨[zk 0 0 11 2047],⟨4,1,[zr 0 0 28,za 3 0 3,zf 4 143,za 18 1 3,za 24 2 3],[zy 0 84 28 3]⟩⟩]
def b46:List Blk:= [
 ⟨[zk 0 0 5 24,zk 2 0 5 24,(1,0,[]),zk 0 0 3 7],⟨4,1,[zr 0 0 28,za 2 0 3,zf 4 143,za 10 1 3,za 11 2 3],[zy 0 84 28 3]⟩⟩,
 ⟨[(1,1,[]),zk 2 0 5 24,(1,0,[]),zk 0 0 3 7],⟨4,1,[zr 0 0 28,za 2 0 3,zf 4 143,za 10 1 3,za 11 2 3],[zy 0 84 28 3]⟩⟩]
def b47:List Blk:= [
 ⟨[zk 0 0 3 4,zk 2 0 3 4,(1,0,[])],⟨5,1,[zr 0 0 28,za 1 0 3,za 2 1 3,za 3 2 3,za 10 3 3],[zy 0 84 28 4]⟩⟩]
def b48:List Blk:= [
 ⟨[zk 0 0 6 52,zk 2 0 6 52,(1,0,[]),zk 0 0 3 7],⟨10,3,[zp 1 0,zp 2 1,zr 12 2 27,za 13 0 3,za 14 1 3],[(0,.box 30 (.agg 30 [zv 2 3,zv 3 3,zv 4 9,.ref 2 27,zv 5 28])),(1,.box 30 (.agg 30 [zv 6 3,zv 7 3,zv 8 9,.nil 27,.nil 28])),zy 2 30 27 9]⟩⟩,
 ⟨[zk 0 0 8 244,zk 2 0 8 244,(1,2,[]),zk 0 0 5 31],⟨10,4,[zp 1 0,zp 2 1,zr 31 2 28,za 32 0 3,za 33 1 3],[(0,.box 30 (.agg 30 [zv 2 3,zv 3 3,zv 4 9,.ref 3 27,.ref 2 28])),(1,.box 30 (.agg 30 [zv 5 3,zv 6 3,zv 7 9,.nil 27,.nil 28])),zy 2 84 28 8,zy 3 30 27 9]⟩⟩]
def b51:List Blk:= [
 ⟨[zk 0 0 15 24564,zk 2 0 15 24564,(1,1,[]),(1,0,[])],⟨6,4,[zp 0 1,za 3 0 87,zp 5 2,za 87 1 28,za 88 2 3,za 89 3 3],[(1,.box 175 (.agg 175 [.ref 3 79])),zx 2 26 4,zy 3 82 79 5]⟩⟩,
 ⟨[(1,2,[]),zk 0 0 18 196519,zk 2 0 15 24564,(1,1,[]),(1,0,[])],⟨6,4,[zp 0 1,za 3 0 87,zp 5 2,za 87 1 28,za 88 2 3,za 89 3 3],[(1,.box 175 (.agg 175 [.ref 3 79])),zx 2 26 4,zy 3 82 79 5]⟩⟩]
def b53:List Blk:= [
 ⟨[zk 0 0 7 116,zk 2 0 7 116,(1,0,[]),zk 0 0 4 15],⟨4,2,[zp 4 0,za 10 0 87,za 11 1 3,za 12 2 3],[(0,.box 223 (.agg 223 [.hid 0,.ref 1 98])),zy 1 5 98 3]⟩⟩,
 ⟨[zk 0 0 17 119605,(1,2,[]),(1,1,[]),zk 0 0 10 935,zk 2 0 7 116,(1,0,[]),zk 0 0 4 15],⟨5,3,[zp 4 0,zp 6 1,za 10 0 87,za 11 1 3,za 12 2 3],[(0,.box 223 (.agg 223 [.hid 0,.ref 2 98])),zx 1 123 3,zy 2 5 98 4]⟩⟩,
 ⟨[(1,2,[]),(1,1,[]),zk 0 0 10 935,zk 2 0 7 116,(1,0,[]),zk 0 0 4 15],⟨4,2,[zp 4 0,za 10 0 87,za 11 1 3,za 12 2 3],[(0,.box 223 (.agg 223 [.hid 0,.ref 1 98])),zy 1 5 98 3]⟩⟩]
def b56:List Blk:= [
 ⟨[zk 0 0 5 20,zk 2 0 5 20,(1,0,[]),zk 0 0 2 3],⟨3,0,[za 0 0 87,zf 1 211,za 7 1 3,za 8 2 3],[]⟩⟩]
def b59:List Blk:= [
 ⟨[zk 0 0 5 20,zk 2 0 5 20,(1,0,[]),zk 0 0 2 3],⟨3,1,[za 0 0 9,zp 6 0],[(0,.iter (.v 1) (.v 2))]⟩⟩]
def b65:List Blk:= [
 ⟨[zk 0 0 7 116,zk 2 0 7 116,(1,0,[]),zk 0 0 4 15],⟨3,3,[zp 3 0,zp 8 1],[(0,.box 223 (.agg 223 [.hid 0,.ref 2 98])),(1,.iter (.v 0) (.v 1)),zy 2 5 98 2]⟩⟩,
 ⟨[zk 0 0 14 14957,(1,2,[]),(1,1,[]),zk 2 0 7 116,(1,0,[]),zk 0 0 4 15],⟨6,3,[zp 3 0,za 5 0 21,zp 8 1,za 12 1 21,za 15 2 4],[(0,.box 223 (.agg 223 [.hid 0,.ref 2 98])),(1,.iter (.v 3) (.v 4)),zy 2 5 98 5]⟩⟩,
 ⟨[(1,2,[]),(1,1,[]),zk 2 0 7 116,(1,0,[]),zk 0 0 4 15],⟨3,3,[zp 3 0,zp 8 1],[(0,.box 223 (.agg 223 [.hid 0,.ref 2 98])),(1,.iter (.v 0) (.v 1)),zy 2 5 98 2]⟩⟩]
def b71:List Blk:= [
 ⟨[zk 0 0 5 20,zk 2 0 5 20,(1,0,[]),zk 0 0 2 3],⟨4,0,[za 0 0 22,za 1 1 9,za 7 2 3,za 8 3 3],[]⟩⟩]
def b72:List Blk:= [
 ⟨[zk 0 0 2 3],⟨4,5,[zp 0 1,za 3 0 87,zp 5 2,zp 6 3],[(1,.box 175 (.agg 175 [.ref 4 79])),zx 2 26 1,zx 3 30 2,zy 4 82 79 3]⟩⟩,
 ⟨[zk 0 0 6 60,zk 2 0 6 60,(1,0,[])],⟨7,5,[zp 0 1,za 3 0 87,zp 5 2,(8,⟨[],.one (.leaf (.mref 3 147))⟩),za 33 1 27,za 34 2 3,za 35 3 3],[(1,.box 175 (.agg 175 [.ref 4 79])),zx 2 26 4,(3,.mp 147 9 4 (.v 5)),zy 4 82 79 6]⟩⟩,
 ⟨[zk 0 0 17 124541,(1,1,[]),zk 0 0 9 487,zk 2 0 6 60,(1,0,[])],⟨8,5,[zp 0 1,za 3 0 87,zp 5 2,(8,⟨[],.one (.leaf (.mref 3 147))⟩),za 12 1 9,za 33 2 27,za 34 3 3,za 35 4 3],[(1,.box 175 (.agg 175 [.ref 4 79])),zx 2 26 5,(3,.mp 147 9 4 (.v 6)),zy 4 82 79 7]⟩⟩,
 ⟨[(1,1,[]),zk 0 0 9 487,zk 2 0 6 60,(1,0,[])],⟨7,5,[zp 0 1,za 3 0 87,zp 5 2,(8,⟨[],.one (.leaf (.mref 3 147))⟩),za 33 1 27,za 34 2 3,za 35 3 3],[(1,.box 175 (.agg 175 [.ref 4 79])),zx 2 26 4,(3,.mp 147 9 4 (.v 5)),zy 4 82 79 6]⟩⟩]
def b75:List Blk:= [
 ⟨[zk 0 0 7 84,zk 2 0 7 84,(1,0,[]),zk 0 0 2 3],⟨7,1,[za 1 0 9,zp 4 0,za 12 1 28,za 13 2 3,za 14 3 3],[(0,.box 30 (.agg 30 [zv 4 3,zv 5 3,zv 6 9,.nil 27,.nil 28]))]⟩⟩]
def b80:List Blk:= [
 ⟨[zk 0 0 5 20,zk 2 0 5 20,(1,0,[]),zk 0 0 2 3],⟨7,5,[zp 0 1,za 3 0 87,zp 5 2,zp 6 3,za 18 1 28,za 19 2 3,za 20 3 3],[(1,.box 175 (.agg 175 [.ref 4 79])),zx 2 26 4,zx 3 30 5,zy 4 82 79 6]⟩⟩,
 ⟨[(1,1,[]),zk 0 0 8 167,zk 2 0 5 20,(1,0,[]),zk 0 0 2 3],⟨7,5,[zp 0 1,za 3 0 87,zp 5 2,zp 6 3,za 18 1 28,za 19 2 3,za 20 3 3],[(1,.box 175 (.agg 175 [.ref 4 79])),zx 2 26 4,zx 3 30 5,zy 4 82 79 6]⟩⟩,
 ⟨[zk 0 0 5 28,zk 2 0 5 28,(1,2,[])],⟨6,4,[zp 0 1,za 3 0 87,zp 6 2,za 54 1 24,za 55 2 3,za 56 3 3],[(1,.box 175 (.agg 175 [.ref 3 79])),zx 2 30 4,zy 3 82 79 5]⟩⟩,
 ⟨[(1,3,[]),zk 0 0 8 231,zk 2 0 5 28,(1,2,[])],⟨6,4,[zp 0 1,za 3 0 87,zp 6 2,za 54 1 24,za 55 2 3,za 56 3 3],[(1,.box 175 (.agg 175 [.ref 3 79])),zx 2 30 4,zy 3 82 79 5]⟩⟩]
def b83:List Blk:= [
 ⟨[zk 0 0 6 52,zk 2 0 6 52,(1,0,[]),zk 0 0 3 7],⟨5,1,[za 0 0 31,zr 3 0 22,za 6 1 31,za 7 2 3,za 8 3 3],[zy 0 9 22 4]⟩⟩]
def b85:List Blk:= [
 ⟨[zk 0 0 5 20,zk 2 0 5 20,(1,0,[]),zk 0 0 2 3],⟨2,0,[za 0 0 22,za 3 1 3],[]⟩⟩]
def b86:List Blk:= [
 ⟨[zk 0 0 5 20,zk 2 0 5 20,(1,0,[]),zk 0 0 2 3],⟨5,3,[zp 2 0,zp 3 1,zr 9 2 79,za 10 0 3,za 11 1 3],[zx 0 26 2,zx 1 30 3,zy 2 82 79 4]⟩⟩]
def b88:List Blk:= [
 ⟨[zk 0 0 6 52,zk 2 0 6 52,(1,0,[]),zk 0 0 3 7],⟨5,2,[zp 2 0,zp 3 1,za 19 0 27,za 20 1 3,za 21 2 3],[zx 0 26 3,zx 1 30 4]⟩⟩,
 ⟨[zk 0 0 7 116,zk 2 0 7 116,(1,2,[]),zk 0 0 4 15],⟨4,1,[zp 2 0,za 52 0 28,za 53 1 3,za 54 2 3],[zx 0 26 3]⟩⟩]
def b91:List Blk:= [
 ⟨[zk 0 0 6 52,zk 2 0 6 52,(1,0,[]),zk 0 0 3 7],⟨8,1,[za 1 0 9,zp 4 0,za 17 1 24,za 18 2 3,za 19 3 3],[(0,.box 26 (.agg 26 [zv 4 3,zv 5 3,zv 6 3,.nil 22,zv 7 9,.nil 23,.nil 24]))]⟩⟩]
def b92:List Blk:= [
 ⟨[zk 0 0 7 116,zk 2 0 7 116,(1,1,[]),zk 0 0 4 15],⟨8,3,[zp 2 0,zp 4 1,zr 5 2 28,za 36 0 28,za 37 1 3,za 38 2 3],[zx 0 26 3,(1,.box 30 (.agg 30 [zv 4 3,zv 5 3,zv 6 9,.nil 27,.nil 28])),zy 2 84 28 7]⟩⟩,
 ⟨[(1,2,[]),zk 0 0 10 935,zk 2 0 7 116,(1,1,[]),zk 0 0 4 15],⟨8,3,[zp 2 0,zp 4 1,zr 5 2 28,za 36 0 28,za 37 1 3,za 38 2 3],[zx 0 26 3,(1,.box 30 (.agg 30 [zv 4 3,zv 5 3,zv 6 9,.nil 27,.nil 28])),zy 2 84 28 7]⟩⟩]
def b95:List Blk:= [
 ⟨[zk 0 0 7 116,zk 2 0 7 116,(1,0,[]),zk 0 0 4 15],⟨8,3,[zf 2 37,zp 3 0,zp 6 1,zr 7 2 27,za 17 0 27,za 18 1 3,za 19 2 3],[zx 0 26 3,(1,.box 30 (.agg 30 [zv 4 3,zv 5 3,zv 6 9,.nil 27,.nil 28])),zy 2 30 27 7]⟩⟩]
def b96:List Blk:= [
 ⟨[zk 0 0 6 52,zk 2 0 6 52,(1,0,[]),zk 0 0 3 7],⟨8,1,[za 1 0 9,zp 4 0,za 17 1 24,za 18 2 3,za 19 3 3],[(0,.box 26 (.agg 26 [zv 4 3,zv 5 3,zv 6 3,.nil 22,zv 7 9,.nil 23,.nil 24]))]⟩⟩]
def b100:List Blk:= [
 ⟨[zk 0 0 3 7],⟨3,4,[za 1 0 87,(2,⟨[],.one (.leaf (.fn 148 [.p 1 0]))⟩),zr 6 2 179],[(1,.box 22 (.leaf (.ref 3 22))),zy 2 140 179 1,zy 3 9 22 2]⟩⟩,
 ⟨[zk 0 0 6 60,zk 2 0 6 60,(1,0,[])],⟨5,4,[za 1 0 87,(2,⟨[],.one (.leaf (.fn 148 [.p 1 0]))⟩),zr 24 2 179,za 25 1 3,za 26 2 3],[(1,.box 22 (.leaf (.ref 3 22))),zy 2 140 179 3,zy 3 9 22 4]⟩⟩]
def b102:List Blk:= [
 ⟨[zk 0 0 6 52,zk 2 0 6 52,(1,0,[]),zk 0 0 3 7],⟨5,2,[zp 2 0,zr 5 1 179,za 11 0 28,za 12 1 3,za 13 2 3],[zx 0 26 3,zy 1 140 179 4]⟩⟩,
 ⟨[zk 0 0 13 6759,(1,1,[]),zk 0 0 9 423,zk 2 0 6 52,(1,0,[]),zk 0 0 3 7],⟨22,3,[zp 2 0,zr 5 1 179,zp 8 2,za 11 0 28,za 12 1 3,za 13 2 3],[zx 0 26 3,zy 1 140 179 4,(2,.box 140 (.agg 140 [zv 5 3,zv 6 9,zv 7 3,zv 8 9,zv 9 3,zv 10 3,zv 11 9,zv 12 27,zv 13 28,zv 14 3,zv 15 3,zv 16 3,zv 17 22,zv 18 9,zv 19 23,zv 20 24,zv 21 4]))]⟩⟩]
def b103:List Blk:= [
 ⟨[zk 0 0 5 20,zk 2 0 5 20,(1,0,[]),zk 0 0 2 3],⟨4,0,[za 0 0 24,(1,⟨[],.one (.leaf (.fn 283 [.im (.v 1) 84 0]))⟩),za 7 2 3,za 8 3 3],[]⟩⟩]
def b105:List Blk:= [
 ⟨[zk 0 0 7 116,zk 2 0 7 116,(1,0,[]),zk 0 0 4 15],⟨6,3,[zp 2 0,zr 5 1 179,(6,⟨[],.one (.leaf (.mref 2 147))⟩),za 13 0 27,za 14 1 3,za 15 2 3],[zx 0 26 3,zy 1 140 179 4,(2,.mp 147 9 4 (.v 5))]⟩⟩]
def b115:List Blk:= [
 ⟨[zk 0 0 6 52,zk 2 0 6 52,(1,0,[]),zk 0 0 3 7],⟨6,3,[za 0 0 22,zp 5 0,zp 7 1,za 11 1 22,za 12 2 3,za 13 3 3],[zx 0 4 4,(1,.box 147 (.leaf (.mref 2 147))),(2,.mp 147 9 4 (.v 5))]⟩⟩]
def b116:List Blk:= [
 ⟨[zk 0 0 7 116,zk 2 0 7 116,(1,0,[]),zk 0 0 4 15],⟨5,6,[zr 0 4 22,(1,⟨[],.one (.leaf (.fn 157 [.p 2 0,.p 3 0]))⟩),za 5 0 3,za 6 1 3],[(2,.box 147 (.leaf (.mref 5 147))),zx 3 4 2,zy 4 9 22 3,(5,.mp 147 9 4 (.v 4))]⟩⟩,
 ⟨[(1,1,[]),zk 0 0 9 467,zk 2 0 7 116,(1,0,[]),zk 0 0 4 15],⟨5,6,[zr 0 4 22,(1,⟨[],.one (.leaf (.fn 157 [.p 2 0,.p 3 0]))⟩),za 5 0 3,za 6 1 3],[(2,.box 147 (.leaf (.mref 5 147))),zx 3 4 2,zy 4 9 22 3,(5,.mp 147 9 4 (.v 4))]⟩⟩]
def b117:List Blk:= [
 ⟨[zk 0 0 5 20,zk 2 0 5 20,(1,0,[]),zk 0 0 2 3],⟨5,4,[za 0 0 22,(1,⟨[],.one (.leaf (.fn 157 [.p 1 0,.p 2 0]))⟩),za 7 1 3,za 8 2 3],[(1,.box 147 (.leaf (.mref 3 147))),zx 2 4 3,(3,.mp 147 9 4 (.v 4))]⟩⟩]
def b121:List Blk:= [
 ⟨[zk 0 0 7 116,zk 2 0 7 116,(1,0,[]),zk 0 0 4 15],⟨2,1,[zr 4 0 87,za 5 0 9],[zy 0 123 87 1]⟩⟩,
 ⟨[zk 2 0 7 116,(1,0,[]),zk 0 0 4 15],⟨2,1,[zr 4 0 87,za 5 0 9],[zy 0 123 87 1]⟩⟩,
 ⟨[zk 0 0 11 1867,(1,1,[]),zk 2 0 7 116,(1,0,[]),zk 0 0 4 15],⟨2,1,[zr 4 0 87,za 5 0 9],[zy 0 123 87 1]⟩⟩]
def b123:List Blk:= [
 ⟨[zk 0 0 5 20,zk 2 0 5 20,(1,0,[]),zk 0 0 2 3],⟨3,1,[za 0 0 9,zp 6 0],[(0,.iter (.v 1) (.v 2))]⟩⟩]
def b125:List Blk:= [
 ⟨[zk 0 0 7 116,zk 2 0 7 116,(1,0,[]),zk 0 0 4 15],⟨3,2,[za 0 0 9,zp 5 0,za 6 1 3],[(0,.box 223 (.agg 223 [.hid 0,.ref 1 98])),zy 1 5 98 2]⟩⟩,
 ⟨[(1,2,[]),(1,1,[]),zk 0 0 9 467,zk 2 0 7 116,(1,0,[]),zk 0 0 4 15],⟨3,2,[za 0 0 9,zp 5 0,za 6 1 3],[(0,.box 223 (.agg 223 [.hid 0,.ref 1 98])),zy 1 5 98 2]⟩⟩]
def b126:List Blk:= [
 ⟨[zk 0 0 6 52,zk 2 0 6 52,(1,0,[]),zk 0 0 3 7],⟨7,2,[zp 2 0,zp 4 1,za 13 0 87,za 14 1 3,za 15 2 3],[zx 0 30 3,(1,.box 30 (.agg 30 [zv 4 3,zv 5 3,zv 6 9,.nil 27,.nil 28]))]⟩⟩,
 ⟨[(1,2,[]),(1,1,[]),zk 0 0 9 423,zk 2 0 6 52,(1,0,[]),zk 0 0 3 7],⟨7,2,[zp 2 0,zp 4 1,za 13 0 87,za 14 1 3,za 15 2 3],[zx 0 30 3,(1,.box 30 (.agg 30 [zv 4 3,zv 5 3,zv 6 9,.nil 27,.nil 28]))]⟩⟩]
def b128:List Blk:= [
 ⟨[zk 0 0 5 20,zk 2 0 5 20,(1,0,[]),zk 0 0 2 3],⟨4,0,[za 0 0 28,(1,⟨[],.one (.leaf (.fn 263 [.im (.v 1) 123 0]))⟩),za 7 2 3,za 8 3 3],[]⟩⟩]
def b130:List Blk:= [
 ⟨[zk 0 0 5 20,zk 2 0 5 20,(1,0,[]),zk 0 0 2 3],⟨4,0,[za 0 0 27,(1,⟨[],.one (.leaf (.fn 265 [.im (.v 1) 123 0]))⟩),za 7 2 3,za 8 3 3],[]⟩⟩]
def b133:List Blk:= [
 ⟨[zk 0 0 6 52,zk 2 0 6 52,(1,0,[]),zk 0 0 3 7],⟨10,4,[zp 1 0,zp 2 1,za 15 0 3,za 16 1 3],[(0,.box 30 (.agg 30 [zv 2 3,zv 3 3,zv 4 9,.ref 2 27,.ref 3 28])),(1,.box 30 (.agg 30 [zv 5 3,zv 6 3,zv 7 9,.nil 27,.nil 28])),zy 2 30 27 8,zy 3 84 28 9]⟩⟩,
 ⟨[zk 0 0 7 116,zk 2 0 7 116,(1,2,[]),zk 0 0 4 15],⟨10,4,[zp 1 0,zp 2 1,za 32 0 3,za 33 1 3],[(0,.box 30 (.agg 30 [zv 2 3,zv 3 3,zv 4 9,.ref 2 27,.ref 3 28])),(1,.box 30 (.agg 30 [zv 5 3,zv 6 3,zv 7 9,.nil 27,.nil 28])),zy 2 30 27 8,zy 3 84 28 9]⟩⟩]
def b138:List Blk:= [
 ⟨[zk 0 0 5 20,zk 2 0 5 20,(1,0,[]),zk 0 0 2 3],⟨5,0,[za 0 0 27,za 1 1 27,zf 2 150,za 11 2 27,za 12 3 3,za 13 4 3],[]⟩⟩]
def b139:List Blk:= [
 ⟨[zk 0 0 5 20,zk 2 0 5 20,(1,0,[]),zk 0 0 2 3],⟨5,0,[za 0 0 28,za 1 1 28,zf 2 206,za 11 2 28,za 12 3 3,za 13 4 3],[]⟩⟩]
def b141:List Blk:= [
 ⟨[zk 0 0 6 52,zk 2 0 6 52,(1,0,[]),zk 0 0 3 7],⟨4,0,[za 3 0 3,za 6 1 96,za 7 2 3,za 8 3 3],[]⟩⟩]
def b142:List Blk:= [
 ⟨[zk 0 0 6 52,zk 2 0 6 52,(1,0,[]),zk 0 0 3 7],⟨8,2,[zp 2 0,zp 4 1,za 19 0 87,za 20 1 3,za 21 2 3],[zx 0 26 3,(1,.box 26 (.agg 26 [zv 4 3,zv 5 3,zv 6 3,.nil 22,zv 7 9,.nil 23,.nil 24]))]⟩⟩]
def b144:List Blk:= [
 ⟨[zk 0 0 7 116,zk 2 0 7 116,(1,0,[]),zk 0 0 4 15],⟨13,4,[zp 1 0,zp 2 1,zr 16 2 23,za 17 0 3,za 18 1 3],[(0,.box 26 (.agg 26 [zv 2 3,zv 3 3,zv 4 3,.ref 3 22,zv 5 9,.ref 2 23,zv 6 24])),(1,.box 26 (.agg 26 [zv 7 3,zv 8 3,zv 9 3,.nil 22,zv 10 9,.nil 23,.nil 24])),zy 2 26 23 11,zy 3 9 22 12]⟩⟩,
 ⟨[zk 0 0 9 500,zk 2 0 9 500,(1,2,[]),zk 0 0 6 63],⟨13,5,[zp 1 0,zp 2 1,zr 35 2 24,za 36 0 3,za 37 1 3],[(0,.box 26 (.agg 26 [zv 2 3,zv 3 3,zv 4 3,.ref 3 22,zv 5 9,.ref 4 23,.ref 2 24])),(1,.box 26 (.agg 26 [zv 6 3,zv 7 3,zv 8 3,.nil 22,zv 9 9,.nil 23,.nil 24])),zy 2 94 24 10,zy 3 9 22 11,zy 4 26 23 12]⟩⟩]
def b148:List Blk:= [
 ⟨[zk 0 0 5 20,zk 2 0 5 20,(1,0,[]),zk 0 0 2 3],⟨4,0,[za 1 0 9,za 7 1 31,za 8 2 3,za 9 3 3],[]⟩⟩]
def b149:List Blk:= [
 ⟨[zk 0 0 6 52,zk 2 0 6 52,(1,0,[]),zk 0 0 3 7],⟨5,1,[za 1 0 9,zr 5 0 22,za 8 1 31,za 9 2 3,za 10 3 3],[zy 0 9 22 4]⟩⟩,
 ⟨[(1,1,[]),zk 0 0 9 423,zk 2 0 6 52,(1,0,[]),zk 0 0 3 7],⟨5,1,[za 1 0 9,zr 5 0 22,za 8 1 31,za 9 2 3,za 10 3 3],[zy 0 9 22 4]⟩⟩]
def b151:List Blk:= [
 ⟨[zk 0 0 6 52,zk 2 0 6 52,(1,0,[]),zk 0 0 3 7],⟨5,0,[za 0 0 160,za 3 1 3,za 9 2 160,za 10 3 3,za 11 4 3],[]⟩⟩,
 ⟨[(1,1,[]),zk 0 0 9 423,zk 2 0 6 52,(1,0,[]),zk 0 0 3 7],⟨5,0,[za 0 0 160,za 3 1 3,za 9 2 160,za 10 3 3,za 11 4 3],[]⟩⟩,
 ⟨[zk 0 0 8 244,zk 2 0 8 244,(1,2,[]),zk 0 0 5 31],⟨4,1,[zr 6 0 22,za 25 0 160,za 26 1 3,za 27 2 3],[zy 0 9 22 3]⟩⟩]
def b154:List Blk:= [
 ⟨[zk 0 0 7 116,zk 2 0 7 116,(1,0,[]),zk 0 0 4 15],⟨10,6,[zp 4 0,zp 5 1,zp 7 2,zp 8 3,zp 9 4,za 25 0 22,za 26 1 3,za 27 2 3],[zx 0 26 3,zx 1 30 4,zx 2 4 5,(3,.box 30 (.agg 30 [zv 6 3,zv 7 3,zv 8 9,.nil 27,.nil 28])),(4,.box 147 (.leaf (.mref 5 147))),(5,.mp 147 9 4 (.v 9))]⟩⟩]
def b155:List Blk:= [
 ⟨[zk 0 0 8 244,zk 2 0 8 244,(1,0,[]),zk 0 0 5 31],⟨14,9,[za 1 0 87,(2,⟨[],.one (.leaf (.fn 161 [.p 1 0,.p 2 0]))⟩),zp 6 3,zp 11 4,zr 35 5 179,za 36 1 3,za 37 2 3],[(1,.box 147 (.leaf (.mref 6 147))),zx 2 4 3,(3,.box 30 (.agg 30 [zv 4 3,zv 5 3,zv 6 9,.nil 27,.nil 28])),(4,.box 30 (.agg 30 [zv 7 3,zv 8 3,zv 9 9,.ref 7 27,.ref 8 28])),zy 5 140 179 10,(6,.mp 147 9 4 (.v 11)),zy 7 30 27 12,zy 8 84 28 13]⟩⟩,
 ⟨[(1,2,[]),(1,1,[]),zk 0 0 11 1959,zk 2 0 8 244,(1,0,[]),zk 0 0 5 31],⟨14,9,[za 1 0 87,(2,⟨[],.one (.leaf (.fn 161 [.p 1 0,.p 2 0]))⟩),zp 6 3,zp 11 4,zr 35 5 179,za 36 1 3,za 37 2 3],[(1,.box 147 (.leaf (.mref 6 147))),zx 2 4 3,(3,.box 30 (.agg 30 [zv 4 3,zv 5 3,zv 6 9,.nil 27,.nil 28])),(4,.box 30 (.agg 30 [zv 7 3,zv 8 3,zv 9 9,.ref 7 27,.ref 8 28])),zy 5 140 179 10,(6,.mp 147 9 4 (.v 11)),zy 7 30 27 12,zy 8 84 28 13]⟩⟩]
def b159:List Blk:= [
 ⟨[zk 0 0 7 116,zk 2 0 7 116,(1,0,[]),zk 0 0 4 15],⟨4,2,[zr 0 1 28,(1,⟨[],.one (.leaf (.fn 218 [.im (.v 0) 9 0]))⟩),za 5 1 3,za 6 2 3],[zy 1 84 28 3]⟩⟩,
 ⟨[(1,1,[]),zk 0 0 9 467,zk 2 0 7 116,(1,0,[]),zk 0 0 4 15],⟨4,2,[zr 0 1 28,(1,⟨[],.one (.leaf (.fn 218 [.im (.v 0) 9 0]))⟩),za 5 1 3,za 6 2 3],[zy 1 84 28 3]⟩⟩]
def b160:List Blk:= [
 ⟨[zk 0 0 5 20,zk 2 0 5 20,(1,0,[]),zk 0 0 2 3],⟨4,0,[za 0 0 28,(1,⟨[],.one (.leaf (.fn 218 [.im (.v 1) 9 0]))⟩),za 7 2 3,za 8 3 3],[]⟩⟩]
def b163:List Blk:= [
 ⟨[zk 0 0 7 75,(1,0,[]),zk 0 0 2 3],⟨7,5,[zp 4 0,zp 5 1,zp 6 2,zp 8 3,zp 9 4],[zx 0 26 0,zx 1 30 1,zx 2 30 2,(3,.box 30 (.agg 30 [zv 3 3,zv 4 3,zv 5 9,.nil 27,.nil 28])),zx 4 30 6]⟩⟩,
 ⟨[zk 0 0 11 1204,zk 2 0 11 1204,(1,1,[]),zk 0 0 8 151,(1,0,[]),zk 0 0 2 3],⟨9,4,[zp 4 0,zp 6 1,zp 8 2,zp 9 3,za 36 0 28,za 37 1 3,za 38 2 3],[zx 0 26 3,zx 1 30 4,(2,.box 30 (.agg 30 [zv 5 3,zv 6 3,zv 7 9,.nil 27,.nil 28])),zx 3 30 8]⟩⟩]
def b165:List Blk:= [
 ⟨[zk 0 0 6 52,zk 2 0 6 52,(1,0,[]),zk 0 0 3 7],⟨10,5,[zp 3 0,zp 4 1,zp 5 2,zp 6 3,zr 7 4 27,za 21 0 27,za 22 1 3,za 23 2 3],[zx 0 26 3,zx 1 30 4,zx 2 30 5,(3,.box 30 (.agg 30 [zv 6 3,zv 7 3,zv 8 9,.nil 27,.nil 28])),zy 4 30 27 9]⟩⟩,
 ⟨[zk 0 0 13 6759,(1,1,[]),zk 0 0 9 423,zk 2 0 6 52,(1,0,[]),zk 0 0 3 7],⟨11,6,[zp 3 0,zp 4 1,zp 5 2,zp 6 3,zr 7 4 27,zp 9 5,za 21 0 27,za 22 1 3,za 23 2 3],[zx 0 26 3,zx 1 30 4,zx 2 30 5,(3,.box 30 (.agg 30 [zv 6 3,zv 7 3,zv 8 9,.nil 27,.nil 28])),zy 4 30 27 9,zx 5 30 10]⟩⟩,
 ⟨[zk 0 0 7 116,zk 2 0 7 116,(1,2,[]),zk 0 0 4 15],⟨9,4,[zp 3 0,zp 5 1,zp 6 2,zr 7 3 27,za 55 0 27,za 56 1 3,za 57 2 3],[zx 0 26 3,zx 1 30 4,(2,.box 30 (.agg 30 [zv 5 3,zv 6 3,zv 7 9,.nil 27,.nil 28])),zy 3 30 27 8]⟩⟩,
 ⟨[(1,3,[]),zk 0 0 10 935,zk 2 0 7 116,(1,2,[]),zk 0 0 4 15],⟨9,4,[zp 3 0,zp 5 1,zp 6 2,zr 7 3 27,za 55 0 27,za 56 1 3,za 57 2 3],[zx 0 26 3,zx 1 30 4,(2,.box 30 (.agg 30 [zv 5 3,zv 6 3,zv 7 9,.nil 27,.nil 28])),zy 3 30 27 8]⟩⟩]
def b166:List Blk:= [
 ⟨[zk 0 0 5 20,zk 2 0 5 20,(1,0,[]),zk 0 0 2 3],⟨8,2,[za 2 0 9,zp 3 0,zp 6 1,za 12 1 27,za 13 2 3,za 14 3 3],[zx 0 26 4,(1,.box 30 (.agg 30 [zv 5 3,zv 6 3,zv 7 9,.nil 27,.nil 28]))]⟩⟩]
def b167:List Blk:= [
 ⟨[zk 0 0 6 52,zk 2 0 6 52,(1,0,[]),zk 0 0 3 7],⟨6,1,[za 1 0 9,(3,⟨[],.one (.leaf (.fn 47 [.im (.v 1) 34 0]))⟩),zr 9 0 31,za 16 2 31,za 17 3 3,za 18 4 3],[zy 0 52 31 5]⟩⟩,
 ⟨[(1,1,[]),zk 0 0 9 423,zk 2 0 6 52,(1,0,[]),zk 0 0 3 7],⟨6,1,[za 1 0 9,(3,⟨[],.one (.leaf (.fn 47 [.im (.v 1) 34 0]))⟩),zr 9 0 31,za 16 2 31,za 17 3 3,za 18 4 3],[zy 0 52 31 5]⟩⟩]
def b168:List Blk:= [
 ⟨[zk 0 0 6 52,zk 2 0 6 52,(1,0,[]),zk 0 0 3 7],⟨5,2,[zp 2 0,zr 4 1 22,za 7 0 34,za 8 1 3,za 9 2 3],[zx 0 52 3,zy 1 9 22 4]⟩⟩,
 ⟨[(1,1,[]),zk 0 0 9 423,zk 2 0 6 52,(1,0,[]),zk 0 0 3 7],⟨5,2,[zp 2 0,zr 4 1 22,za 7 0 34,za 8 1 3,za 9 2 3],[zx 0 52 3,zy 1 9 22 4]⟩⟩]
def b170:List Blk:= [
 ⟨[zk 0 0 6 52,zk 2 0 6 52,(1,0,[]),zk 0 0 3 7],⟨4,1,[zr 3 0 31,za 6 0 31,za 7 1 3,za 8 2 3],[zy 0 52 31 3]⟩⟩,
 ⟨[(1,1,[]),zk 0 0 9 423,zk 2 0 6 52,(1,0,[]),zk 0 0 3 7],⟨4,1,[zr 3 0 31,za 6 0 31,za 7 1 3,za 8 2 3],[zy 0 52 31 3]⟩⟩]
def b171:List Blk:= [
 ⟨[zk 0 0 9 340,zk 2 0 9 340,(1,0,[]),zk 0 0 6 43,zk 0 0 2 3],⟨4,1,[zr 11 0 31,za 53 0 31,za 54 1 3,za 55 2 3],[zy 0 52 31 3]⟩⟩]
def b172:List Blk:= [
 ⟨[zk 0 0 7 116,zk 2 0 7 116,(1,0,[]),zk 0 0 4 15],⟨7,5,[zp 4 0,zp 5 1,zr 7 2 22,zr 8 3 22,zr 20 4 22,za 21 0 3,za 22 1 3],[zx 0 30 2,zx 1 30 3,zy 2 9 22 4,zy 3 9 22 5,zy 4 9 22 6]⟩⟩,
 ⟨[(1,1,[]),zk 0 0 10 935,zk 2 0 7 116,(1,0,[]),zk 0 0 4 15],⟨7,5,[zp 4 0,zp 5 1,zr 7 2 22,zr 8 3 22,zr 20 4 22,za 21 0 3,za 22 1 3],[zx 0 30 2,zx 1 30 3,zy 2 9 22 4,zy 3 9 22 5,zy 4 9 22 6]⟩⟩]
def b174:List Blk:= [
 ⟨[zk 0 0 6 52,zk 2 0 6 52,(1,0,[]),zk 0 0 3 7],⟨7,1,[za 1 0 9,(3,⟨[],.one (.leaf (.fn 64 [.im (.v 1) 22 0,.im (.v 2) 22 0]))⟩),zr 9 0 31,za 16 3 31,za 17 4 3,za 18 5 3],[zy 0 52 31 6]⟩⟩,
 ⟨[(1,1,[]),zk 0 0 9 423,zk 2 0 6 52,(1,0,[]),zk 0 0 3 7],⟨7,1,[za 1 0 9,(3,⟨[],.one (.leaf (.fn 64 [.im (.v 1) 22 0,.im (.v 2) 22 0]))⟩),zr 9 0 31,za 16 3 31,za 17 4 3,za 18 5 3],[zy 0 52 31 6]⟩⟩]
def b176:List Blk:= [
 ⟨[zk 0 0 6 52,zk 2 0 6 52,(1,0,[]),zk 0 0 3 7],⟨5,1,[za 1 0 9,zr 5 0 22,za 8 1 31,za 9 2 3,za 10 3 3],[zy 0 9 22 4]⟩⟩,
 ⟨[(1,1,[]),zk 0 0 9 423,zk 2 0 6 52,(1,0,[]),zk 0 0 3 7],⟨5,1,[za 1 0 9,zr 5 0 22,za 8 1 31,za 9 2 3,za 10 3 3],[zy 0 9 22 4]⟩⟩]
def b178:List Blk:= [
 ⟨[zk 0 0 3 7],⟨3,2,[zp 2 0,zp 3 1,za 5 0 3],[zx 0 30 1,zx 1 30 2]⟩⟩,
 ⟨[zk 0 0 4 15],⟨3,2,[zp 2 0,zp 3 1,za 5 0 3],[zx 0 30 1,zx 1 30 2]⟩⟩,
 ⟨[zk 0 0 8 244,zk 2 0 8 244,(1,0,[]),zk 0 0 5 31],⟨4,2,[zp 2 0,zp 3 1,za 5 0 3,za 6 1 3],[zx 0 30 2,zx 1 30 3]⟩⟩,
 ⟨[zk 0 0 6 63],⟨3,2,[zp 2 0,zp 3 1,za 5 0 3],[zx 0 30 1,zx 1 30 2]⟩⟩,
 ⟨[zk 0 0 10 1012,zk 2 0 10 1012,(1,2,[]),zk 0 0 7 127],⟨4,2,[zp 2 0,zp 3 1,za 5 0 3,za 7 1 3],[zx 0 30 2,zx 1 30 3]⟩⟩,
 ⟨[(1,3,[]),zk 0 0 12 4051,zk 2 0 10 1012,(1,2,[]),zk 0 0 7 127],⟨4,2,[zp 2 0,zp 3 1,za 5 0 3,za 7 1 3],[zx 0 30 2,zx 1 30 3]⟩⟩]
def b180:List Blk:= [
 ⟨[zk 0 0 6 52,zk 2 0 6 52,(1,0,[]),zk 0 0 3 7],⟨3,0,[za 0 0 31,za 1 1 31,za 5 2 3],[]⟩⟩,
 ⟨[zk 0 0 13 6732,zk 2 0 13 6732,(1,2,[]),(1,1,[]),zk 0 0 8 211,zk 2 0 6 52,(1,0,[]),zk 0 0 3 7],⟨4,0,[za 0 0 31,za 1 1 31,za 5 2 3,za 6 3 3],[]⟩⟩]
def b181:List Blk:= [
 ⟨[zk 0 0 6 52,zk 2 0 6 52,(1,0,[]),zk 0 0 3 7],⟨4,1,[za 0 0 31,za 1 1 9,zr 5 0 22,za 6 2 3],[zy 0 9 22 3]⟩⟩,
 ⟨[(1,1,[]),zk 0 0 8 211,zk 2 0 6 52,(1,0,[]),zk 0 0 3 7],⟨4,1,[za 0 0 31,za 1 1 9,zr 5 0 22,za 6 2 3],[zy 0 9 22 3]⟩⟩]
def b182:List Blk:= [
 ⟨[zk 0 0 5 20,zk 2 0 5 20,(1,0,[]),zk 0 0 2 3],⟨3,0,[za 0 0 22,za 1 1 9,za 5 2 3],[]⟩⟩]
def b183:List Blk:= [
 ⟨[zk 0 0 10 1012,zk 2 0 10 1012,(1,0,[]),zk 0 0 7 127],⟨8,5,[za 3 0 31,za 4 1 9,zp 6 0,zp 7 1,zr 11 2 22,zr 12 3 22,zr 13 4 22,za 14 2 3],[zx 0 30 3,zx 1 30 4,zy 2 9 22 5,zy 3 9 22 6,zy 4 9 22 7]⟩⟩,
 ⟨[(1,1,[]),zk 0 0 12 4051,zk 2 0 10 1012,(1,0,[]),zk 0 0 7 127],⟨8,5,[za 3 0 31,za 4 1 9,zp 6 0,zp 7 1,zr 11 2 22,zr 12 3 22,zr 13 4 22,za 14 2 3],[zx 0 30 3,zx 1 30 4,zy 2 9 22 5,zy 3 9 22 6,zy 4 9 22 7]⟩⟩,
 ⟨[zk 0 0 13 8180,zk 2 0 13 8180,(1,2,[]),zk 0 0 10 1023],⟨7,3,[za 3 0 31,za 4 1 9,zr 11 0 22,zr 13 1 22,zr 19 2 31,za 20 2 3,za 21 3 3],[zy 0 9 22 4,zy 1 9 22 5,zy 2 52 31 6]⟩⟩,
 ⟨[(1,3,[]),zk 0 0 15 32723,zk 2 0 13 8180,(1,2,[]),zk 0 0 10 1023],⟨7,3,[za 3 0 31,za 4 1 9,zr 11 0 22,zr 13 1 22,zr 19 2 31,za 20 2 3,za 21 3 3],[zy 0 9 22 4,zy 1 9 22 5,zy 2 52 31 6]⟩⟩]
def b184:List Blk:= [
 ⟨[zk 0 0 6 52,zk 2 0 6 52,(1,0,[]),zk 0 0 3 7],⟨2,0,[za 0 0 31,za 3 1 3],[]⟩⟩,
 ⟨[zk 0 0 13 6732,zk 2 0 13 6732,(1,2,[]),(1,1,[]),zk 0 0 8 211,zk 2 0 6 52,(1,0,[]),zk 0 0 3 7],⟨3,0,[za 0 0 31,za 3 1 3,za 4 2 3],[]⟩⟩]
def b186:List Blk:= [
 ⟨[zk 0 0 7 116,zk 2 0 7 116,(1,0,[]),zk 0 0 4 15],⟨4,3,[zp 2 0,zp 3 1,zr 5 2 79,za 6 0 3],[zx 0 26 1,zx 1 30 2,zy 2 82 79 3]⟩⟩]
def b190:List Blk:= [
 ⟨[zk 0 0 5 20,zk 2 0 5 20,(1,0,[]),zk 0 0 2 3],⟨2,1,[zp 1 0,za 3 0 3],[zx 0 26 1]⟩⟩]
def b191:List Blk:= [
 ⟨[zk 0 0 5 20,zk 2 0 5 20,(1,0,[]),zk 0 0 2 3],⟨2,0,[za 0 0 9,za 3 1 3],[]⟩⟩]
def b192:List Blk:= [
 ⟨[zk 0 0 3 7],⟨2,1,[za 1 0 3,zp 2 0],[zx 0 26 1]⟩⟩]
def b193:List Blk:= [
 ⟨[zk 0 0 5 20,zk 2 0 5 20,(1,0,[]),zk 0 0 2 3],⟨10,2,[za 1 0 9,zp 2 0,zp 4 1,za 6 1 3],[zx 0 26 2,(1,.box 94 (.agg 94 [zv 3 9,zv 4 4,zv 5 4,.nil 27,zv 6 3,zv 7 3,zv 8 3,.nil 22,zv 9 9,.nil 23,.nil 24]))]⟩⟩]
def b194:List Blk:= [
 ⟨[zk 0 0 7 116,zk 2 0 7 116,(1,0,[]),zk 0 0 4 15],⟨3,1,[za 1 0 3,zp 2 0,za 5 1 3],[zx 0 26 2]⟩⟩]
def b195:List Blk:= [
 ⟨[zk 0 0 5 20,zk 2 0 5 20,(1,0,[]),zk 0 0 2 3],⟨2,0,[za 0 0 9,za 3 1 3],[]⟩⟩]
def b197:List Blk:= [
 ⟨[zk 0 0 7 116,zk 2 0 7 116,(1,0,[]),zk 0 0 4 15],⟨3,1,[za 1 0 3,zp 2 0,za 5 1 3],[zx 0 30 2]⟩⟩,
 ⟨[zk 0 0 8 244,zk 2 0 8 244,(1,2,[]),zk 0 0 5 31],⟨3,1,[za 1 0 3,zp 2 0,za 6 1 3],[zx 0 30 2]⟩⟩]
def b198:List Blk:= [
 ⟨[zk 0 0 11 1407,(1,0,[]),zk 0 0 2 3],⟨2,1,[zp 1 0,za 45 0 4],[zx 0 30 1]⟩⟩]
def b199:List Blk:= [
 ⟨[zk 0 0 6 52,zk 2 0 6 52,(1,0,[]),zk 0 0 3 7],⟨3,1,[zp 1 0,za 3 0 3,za 4 1 3],[zx 0 30 2]⟩⟩,
 ⟨[zk 0 0 7 116,zk 2 0 7 116,(1,2,[]),zk 0 0 4 15],⟨3,1,[zp 1 0,za 3 0 3,za 5 1 3],[zx 0 30 2]⟩⟩]
def b200:List Blk:= [
 ⟨[zk 0 0 14 13780,zk 2 0 14 13780,(1,1,[]),zk 0 0 11 1723,(1,0,[]),zk 0 0 3 7],⟨4,2,[za 2 0 87,zp 3 0,zp 4 1,za 7 1 3],[zx 0 26 2,zx 1 30 3]⟩⟩]
def b202:List Blk:= [
 ⟨[zk 0 0 7 116,zk 2 0 7 116,(1,0,[]),zk 0 0 4 15],⟨3,0,[za 0 0 87,za 4 1 9,za 5 2 3],[]⟩⟩,
 ⟨[(1,1,[]),zk 0 0 9 467,zk 2 0 7 116,(1,0,[]),zk 0 0 4 15],⟨3,0,[za 0 0 87,za 4 1 9,za 5 2 3],[]⟩⟩]
def b203:List Blk:= [
 ⟨[zk 0 0 5 20,zk 2 0 5 20,(1,0,[]),zk 0 0 2 3],⟨2,0,[za 0 0 87,za 3 1 3],[]⟩⟩]
def b205:List Blk:= [
 ⟨[zk 0 0 5 20,zk 2 0 5 20,(1,0,[]),zk 0 0 2 3],⟨2,0,[za 0 0 9,za 3 1 3],[]⟩⟩]
def b207:List Blk:= [
 ⟨[zk 0 0 5 20,zk 2 0 5 20,(1,0,[]),zk 0 0 2 3],⟨2,0,[za 0 0 9,za 3 1 3],[]⟩⟩]
def b209:List Blk:= [
 ⟨[zk 0 0 6 52,zk 2 0 6 52,(1,0,[]),zk 0 0 3 7],⟨3,0,[za 0 0 9,za 3 1 9,za 4 2 3],[]⟩⟩,
 ⟨[(1,1,[]),zk 0 0 8 211,zk 2 0 6 52,(1,0,[]),zk 0 0 3 7],⟨3,0,[za 0 0 9,za 3 1 9,za 4 2 3],[]⟩⟩]
def b210:List Blk:= [
 ⟨[zk 0 0 3 7],⟨4,3,[za 2 0 87,zp 3 0,zp 4 1,zr 7 2 79],[zx 0 26 1,zx 1 30 2,zy 2 82 79 3]⟩⟩,
 ⟨[zk 0 0 7 116,zk 2 0 7 116,(1,0,[]),zk 0 0 4 15],⟨5,3,[za 2 0 87,zp 3 0,zp 4 1,zr 7 2 79,za 8 1 3],[zx 0 26 2,zx 1 30 3,zy 2 82 79 4]⟩⟩,
 ⟨[zk 0 0 18 238836,zk 2 0 18 238836,(1,2,[]),zk 0 0 15 29855,(1,1,[]),zk 0 0 9 467,zk 2 0 7 116,(1,0,[]),zk 0 0 4 15],⟨10,4,[za 2 0 87,zp 3 0,zp 4 1,zr 7 2 79,za 8 1 3,zr 9 3 87,za 10 2 9,za 11 3 4,za 12 4 4,za 13 5 3],[zx 0 26 6,zx 1 30 7,zy 2 82 79 8,zy 3 123 87 9]⟩⟩,
 ⟨[(1,1,[]),zk 0 0 9 467,zk 2 0 7 116,(1,0,[]),zk 0 0 4 15],⟨5,3,[za 2 0 87,zp 3 0,zp 4 1,zr 7 2 79,za 8 1 3],[zx 0 26 2,zx 1 30 3,zy 2 82 79 4]⟩⟩]
def b213:List Blk:= [
 ⟨[zk 0 0 7 84,zk 2 0 7 84,(1,0,[]),zk 0 0 2 3],⟨6,2,[za 1 0 9,zp 2 0,zp 4 1,za 6 1 3],[zx 0 30 2,(1,.box 30 (.agg 30 [zv 3 3,zv 4 3,zv 5 9,.nil 27,.nil 28]))]⟩⟩]
def b215:List Blk:= [
 ⟨[zk 0 0 6 52,zk 2 0 6 52,(1,0,[]),zk 0 0 3 7],⟨5,3,[za 2 0 87,zp 3 0,zp 4 1,zr 7 2 79,za 8 1 3],[zx 0 26 2,zx 1 30 3,zy 2 82 79 4]⟩⟩,
 ⟨[(1,1,[]),zk 0 0 8 211,zk 2 0 6 52,(1,0,[]),zk 0 0 3 7],⟨5,3,[za 2 0 87,zp 3 0,zp 4 1,zr 7 2 79,za 8 1 3],[zx 0 26 2,zx 1 30 3,zy 2 82 79 4]⟩⟩,
 ⟨[zk 0 0 7 116,zk 2 0 7 116,(1,2,[]),zk 0 0 4 15],⟨5,3,[za 2 0 87,zp 3 0,zp 4 1,zr 7 2 79,za 13 1 3],[zx 0 26 2,zx 1 30 3,zy 2 82 79 4]⟩⟩,
 ⟨[(1,3,[]),zk 0 0 9 467,zk 2 0 7 116,(1,2,[]),zk 0 0 4 15],⟨5,3,[za 2 0 87,zp 3 0,zp 4 1,zr 7 2 79,za 13 1 3],[zx 0 26 2,zx 1 30 3,zy 2 82 79 4]⟩⟩]
def b218:List Blk:= [
 ⟨[zk 0 0 6 52,zk 2 0 6 52,(1,0,[]),zk 0 0 3 7],⟨3,2,[zp 2 0,zp 3 1,za 5 0 3],[zx 0 26 1,zx 1 30 2]⟩⟩,
 ⟨[zk 0 0 7 116,zk 2 0 7 116,(1,2,[]),zk 0 0 4 15],⟨3,2,[zp 2 0,zp 3 1,za 8 0 3],[zx 0 26 1,zx 1 30 2]⟩⟩]
def b219:List Blk:= [
 ⟨[zk 0 0 6 52,zk 2 0 6 52,(1,0,[]),zk 0 0 3 7],⟨7,2,[za 1 0 9,zp 2 0,zp 4 1,za 5 1 3],[zx 0 26 2,(1,.box 26 (.agg 26 [zv 3 3,zv 4 3,zv 5 3,.nil 22,zv 6 9,.nil 23,.nil 24]))]⟩⟩]
def b220:List Blk:= [
 ⟨[zk 0 0 10 852,zk 2 0 10 852,(1,0,[]),zk 0 0 7 107,zk 0 0 3 7],⟨7,4,[zp 2 0,zp 3 1,zp 4 2,zr 5 3 27,za 6 0 3],[zx 0 26 1,zx 1 30 2,(2,.box 30 (.agg 30 [zv 3 3,zv 4 3,zv 5 9,.nil 27,.nil 28])),zy 3 30 27 6]⟩⟩,
 ⟨[zk 0 0 9 500,zk 2 0 9 500,(1,2,[]),zk 0 0 6 63],⟨7,4,[zp 2 0,zp 3 1,zp 4 2,zr 7 3 28,za 8 0 3],[zx 0 26 1,zx 1 30 2,(2,.box 30 (.agg 30 [zv 3 3,zv 4 3,zv 5 9,.nil 27,.nil 28])),zy 3 84 28 6]⟩⟩,
 ⟨[zk 0 0 11 2003,zk 2 0 9 500,(1,2,[]),zk 0 0 6 63],⟨7,4,[zp 2 0,zp 3 1,zp 4 2,zr 7 3 28,za 8 0 3],[zx 0 26 1,zx 1 30 2,(2,.box 30 (.agg 30 [zv 3 3,zv 4 3,zv 5 9,.nil 27,.nil 28])),zy 3 84 28 6]⟩⟩,
 ⟨[(1,3,[]),zk 0 0 11 2003,zk 2 0 9 500,(1,2,[]),zk 0 0 6 63],⟨7,4,[zp 2 0,zp 3 1,zp 4 2,zr 7 3 28,za 8 0 3],[zx 0 26 1,zx 1 30 2,(2,.box 30 (.agg 30 [zv 3 3,zv 4 3,zv 5 9,.nil 27,.nil 28])),zy 3 84 28 6]⟩⟩]
def b222:List Blk:= [
 ⟨[zk 0 0 5 20,zk 2 0 5 20,(1,0,[]),zk 0 0 2 3],⟨7,2,[za 1 0 9,zp 2 0,zp 4 1,za 6 1 3],[zx 0 26 2,(1,.box 26 (.agg 26 [zv 3 3,zv 4 3,zv 5 3,.nil 22,zv 6 9,.nil 23,.nil 24]))]⟩⟩]
def b223:List Blk:= [
 ⟨[zk 0 0 7 116,zk 2 0 7 116,(1,0,[]),zk 0 0 4 15],⟨3,2,[zr 5 0 22,zr 6 1 22,za 7 0 3],[zy 0 9 22 1,zy 1 9 22 2]⟩⟩,
 ⟨[(1,1,[]),zk 0 0 9 467,zk 2 0 7 116,(1,0,[]),zk 0 0 4 15],⟨3,2,[zr 5 0 22,zr 6 1 22,za 7 0 3],[zy 0 9 22 1,zy 1 9 22 2]⟩⟩]
def b226:List Blk:= [
 ⟨[zk 0 0 7 116,zk 2 0 7 116,(1,0,[]),zk 0 0 4 15],⟨5,3,[za 3 0 87,zp 4 0,zp 6 1,zr 11 2 22,za 12 1 3],[zx 0 26 2,zx 1 30 3,zy 2 9 22 4]⟩⟩,
 ⟨[zk 0 0 8 244,zk 2 0 8 244,(1,2,[]),zk 0 0 5 31],⟨5,3,[za 3 0 87,zp 4 0,zp 6 1,zr 11 2 22,za 13 1 3],[zx 0 26 2,zx 1 30 3,zy 2 9 22 4]⟩⟩]
def b228:List Blk:= [
 ⟨[zk 0 0 6 52,zk 2 0 6 52,(1,0,[]),zk 0 0 3 7],⟨3,2,[zp 2 0,zp 3 1,za 5 0 3],[zx 0 26 1,zx 1 30 2]⟩⟩,
 ⟨[zk 0 0 14 13468,zk 2 0 14 13468,(1,2,[]),(1,1,[]),zk 0 0 8 211,zk 2 0 6 52,(1,0,[]),zk 0 0 3 7],⟨5,2,[zp 2 0,zp 3 1,za 5 0 3,za 6 1 9,za 8 2 3],[zx 0 26 3,zx 1 30 4]⟩⟩]
def b229:List Blk:= [
 ⟨[zk 0 0 6 52,zk 2 0 6 52,(1,0,[]),zk 0 0 3 7],⟨7,2,[za 1 0 9,zp 2 0,zp 4 1,za 6 1 3],[zx 0 26 2,(1,.box 26 (.agg 26 [zv 3 3,zv 4 3,zv 5 3,.nil 22,zv 6 9,.nil 23,.nil 24]))]⟩⟩]
def b230:List Blk:= [
 ⟨[zk 0 0 6 52,zk 2 0 6 52,(1,0,[]),zk 0 0 3 7],⟨4,1,[za 0 0 22,za 1 1 22,zr 5 0 22,za 6 2 3],[zy 0 9 22 3]⟩⟩,
 ⟨[zk 0 0 7 116,zk 2 0 7 116,(1,2,[]),zk 0 0 4 15],⟨3,1,[za 1 0 22,zr 5 0 22,za 7 1 3],[zy 0 9 22 2]⟩⟩]
def b231:List Blk:= [
 ⟨[zk 0 0 7 116,zk 2 0 7 116,(1,0,[]),zk 0 0 4 15],⟨5,1,[za 0 0 22,za 1 1 9,zr 5 0 22,za 6 2 4,za 7 3 3],[zy 0 9 22 4]⟩⟩,
 ⟨[zk 0 0 11 1865,(1,1,[]),zk 0 0 9 467,zk 2 0 7 116,(1,0,[]),zk 0 0 4 15],⟨5,1,[za 0 0 22,za 1 1 9,zr 5 0 22,za 6 2 4,za 7 3 3],[zy 0 9 22 4]⟩⟩,
 ⟨[(1,1,[]),zk 0 0 9 467,zk 2 0 7 116,(1,0,[]),zk 0 0 4 15],⟨5,1,[za 0 0 22,za 1 1 9,zr 5 0 22,za 6 2 4,za 7 3 3],[zy 0 9 22 4]⟩⟩]
def b233:List Blk:= [
 ⟨[zk 0 0 7 120,zk 2 0 7 120,(1,0,[]),zk 0 0 5 31],⟨3,1,[za 0 0 9,zr 4 0 87,za 5 1 3],[zy 0 123 87 2]⟩⟩]
def b234:List Blk:= [
 ⟨[zk 0 0 3 7],⟨8,1,[za 0 0 9,za 1 1 3,zp 4 0],[(0,.box 125 (.agg 125 [zv 2 3,zv 3 9,zv 4 3,zv 5 9,zv 6 3,zv 7 4]))]⟩⟩]
def b236:List Blk:= [
 ⟨[zk 0 0 4 8,zk 2 0 4 8,(1,0,[]),zk 0 0 2 3],⟨2,0,[za 0 0 9,za 1 1 3],[]⟩⟩]
def b237:List Blk:= [
 ⟨[zk 0 0 6 52,zk 2 0 6 52,(1,0,[]),zk 0 0 3 7],⟨3,0,[za 0 0 9,za 3 1 3,za 4 2 3],[]⟩⟩]
def b238:List Blk:= [
 ⟨[zk 0 0 5 20,zk 2 0 5 20,(1,0,[]),zk 0 0 2 3],⟨2,0,[za 0 0 9,za 3 1 3],[]⟩⟩]
def b239:List Blk:= [
 ⟨[zk 0 0 7 120,zk 2 0 7 120,(1,0,[]),zk 0 0 5 31],⟨3,0,[za 0 0 9,za 1 1 3,za 7 2 9],[]⟩⟩,
 ⟨[zk 2 0 7 120,(1,0,[]),zk 0 0 5 31],⟨3,0,[za 0 0 9,za 1 1 3,za 7 2 9],[]⟩⟩,
 ⟨[zk 0 0 13 7727,(1,1,[]),zk 2 0 7 120,(1,0,[]),zk 0 0 5 31],⟨3,0,[za 0 0 9,za 1 1 3,za 7 2 9],[]⟩⟩]
def b240:List Blk:= [
 ⟨[zk 0 0 6 52,zk 2 0 6 52,(1,0,[]),zk 0 0 3 7],⟨6,2,[za 1 0 87,zp 2 0,zp 4 1,za 6 1 3],[zx 0 30 2,(1,.box 30 (.agg 30 [zv 3 3,zv 4 3,zv 5 9,.nil 27,.nil 28]))]⟩⟩,
 ⟨[(1,1,[]),zk 0 0 8 211,zk 2 0 6 52,(1,0,[]),zk 0 0 3 7],⟨6,2,[za 1 0 87,zp 2 0,zp 4 1,za 6 1 3],[zx 0 30 2,(1,.box 30 (.agg 30 [zv 3 3,zv 4 3,zv 5 9,.nil 27,.nil 28]))]⟩⟩]
def b241:List Blk:= [
 ⟨[zk 0 0 8 244,zk 2 0 8 244,(1,0,[]),zk 0 0 5 31],⟨3,2,[zp 2 0,zp 3 1,za 5 0 3],[zx 0 30 1,zx 1 123 2]⟩⟩]
def b242:List Blk:= [
 ⟨[zk 0 0 5 20,zk 2 0 5 20,(1,0,[]),zk 0 0 2 3],⟨3,1,[za 1 0 9,zp 2 0,za 5 1 3],[zx 0 30 2]⟩⟩]
def b244:List Blk:= [
 ⟨[zk 0 0 6 52,zk 2 0 6 52,(1,0,[]),zk 0 0 3 7],⟨4,1,[za 0 0 22,za 1 1 22,zr 5 0 22,za 6 2 3],[zy 0 9 22 3]⟩⟩,
 ⟨[(1,1,[]),zk 0 0 8 211,zk 2 0 6 52,(1,0,[]),zk 0 0 3 7],⟨4,1,[za 0 0 22,za 1 1 22,zr 5 0 22,za 6 2 3],[zy 0 9 22 3]⟩⟩]
def b245:List Blk:= [
 ⟨[zk 0 0 6 52,zk 2 0 6 52,(1,0,[]),zk 0 0 3 7],⟨4,1,[za 0 0 22,za 1 1 22,zr 5 0 22,za 6 2 3],[zy 0 9 22 3]⟩⟩,
 ⟨[(1,1,[]),zk 0 0 8 211,zk 2 0 6 52,(1,0,[]),zk 0 0 3 7],⟨4,1,[za 0 0 22,za 1 1 22,zr 5 0 22,za 6 2 3],[zy 0 9 22 3]⟩⟩]
def b246:List Blk:= [
 ⟨[zk 0 0 5 20,zk 2 0 5 20,(1,0,[]),zk 0 0 2 3],⟨3,0,[za 0 0 31,za 1 1 9,za 5 2 3],[]⟩⟩]
def b247:List Blk:= [
 ⟨[zk 0 0 7 116,zk 2 0 7 116,(1,0,[]),zk 0 0 4 15],⟨6,1,[za 0 0 31,za 1 1 9,za 2 2 22,zr 7 0 31,za 8 3 4,za 9 4 3],[zy 0 52 31 5]⟩⟩,
 ⟨[zk 0 0 11 1865,(1,1,[]),zk 0 0 9 467,zk 2 0 7 116,(1,0,[]),zk 0 0 4 15],⟨6,1,[za 0 0 31,za 1 1 9,za 2 2 22,zr 7 0 31,za 8 3 4,za 9 4 3],[zy 0 52 31 5]⟩⟩,
 ⟨[(1,1,[]),zk 0 0 9 467,zk 2 0 7 116,(1,0,[]),zk 0 0 4 15],⟨6,1,[za 0 0 31,za 1 1 9,za 2 2 22,zr 7 0 31,za 8 3 4,za 9 4 3],[zy 0 52 31 5]⟩⟩]
def Yy (i:Nat):List Blk:=
 match i with
 | 0=>b0
 | 1=>b1
 | 2=>b2
 | 4=>b4
 | 8=>b8
 | 9=>b9
 | 10=>b10
 | 11=>b11
 | 14=>b14
 | 15=>b15
 | 19=>b19
 | 22=>b22
 | 23=>b23
 | 24=>b24
 | 25=>b25
 | 26=>b26
 | 29=>b29
 | 33=>b33
 | 35=>b35
 | 36=>b36
 | 39=>b39
 | 40=>b40
 | 45=>b45
 | 46=>b46
 | 47=>b47
 | 48=>b48
 | 51=>b51
 | 53=>b53
 | 56=>b56
 | 59=>b59
 | 65=>b65
 | 71=>b71
 | 72=>b72
 | 75=>b75
 | 80=>b80
 | 83=>b83
 | 85=>b85
 | 86=>b86
 | 88=>b88
 | 91=>b91
 | 92=>b92
 | 95=>b95
 | 96=>b96
 | 100=>b100
 | 102=>b102
 | 103=>b103
 | 105=>b105
 | 115=>b115
 | 116=>b116
 | 117=>b117
 | 121=>b121
 | 123=>b123
 | 125=>b125
 | 126=>b126
 | 128=>b128
 | 130=>b130
 | 133=>b133
 | 138=>b138
 | 139=>b139
 | 141=>b141
 | 142=>b142
 | 144=>b144
 | 148=>b148
 | 149=>b149
 | 151=>b151
 | 154=>b154
 | 155=>b155
 | 159=>b159
 | 160=>b160
 | 163=>b163
 | 165=>b165
 | 166=>b166
 | 167=>b167
 | 168=>b168
 | 170=>b170
 | 171=>b171
 | 172=>b172
 | 174=>b174
 | 176=>b176
 | 178=>b178
 | 180=>b180
 | 181=>b181
 | 182=>b182
 | 183=>b183
 | 184=>b184
 | 186=>b186
 | 190=>b190
 | 191=>b191
 | 192=>b192
 | 193=>b193
 | 194=>b194
 | 195=>b195
 | 197=>b197
 | 198=>b198
 | 199=>b199
 | 200=>b200
 | 202=>b202
 | 203=>b203
 | 205=>b205
 | 207=>b207
 | 209=>b209
 | 210=>b210
 | 213=>b213
 | 215=>b215
 | 218=>b218
 | 219=>b219
 | 220=>b220
 | 222=>b222
 | 223=>b223
 | 226=>b226
 | 228=>b228
 | 229=>b229
 | 230=>b230
 | 231=>b231
 | 233=>b233
 | 234=>b234
 | 236=>b236
 | 237=>b237
 | 238=>b238
 | 239=>b239
 | 240=>b240
 | 241=>b241
 | 242=>b242
 | 244=>b244
 | 245=>b245
 | 246=>b246
 | 247=>b247
 | _=> []
def pr (i:Nat):Option (List IV->Option (List IV)):=
 match i with
 | 37=>some aZ
 | 44=>some O.Nw
 | 49=>some aZ
 | 62=>some O.Kk
 | 63=>some O.An5
 | 66=>some O.R6
 | 69=>some O.Azo
 | 77=>some aZ
 | 78=>some O.Att
 | 111=>some O.K9
 | 112=>some O.Af4
 | 113=>some O.Lj
 | 124=>some O.Azo
 | 145=>some aZ
 | 146=>some aZ
 | 147=>some aZ
 | 152=>some (O.Aia 16)
 | 169=>some O.Ub
 | _=>none
noncomputable def W (f b:Nat) (xs:List IV):Option (List IV):=V (tab Tryz.prog specs Yy 3000) pr ⟨f,b⟩ xs
section
variable (a b c d e g h i j k l m n o p q r s t u v x y z:IV)
theorem Baq:W F0 0 [a,b,c,d,e,g]=
 calls (W F1 0 [a,b,c,d]) 1 λh=>
 (aG h).bind λi=>
 cnd i (
 calls (W F5 0 []) 1 λj=>
 some [j]) (
 calls (W Apk 0 [d,g]) 1 λj=>
 calls (W Avn 0 [d,g]) 1 λk=>
 (aC j).bind λl=>
 (aC k).bind λm=>
 (aK l m).bind λn=>
 cnd n (
 some [(.bool false)]) (
 W F0 1 [d,e,(.int 0),a,b,c,j,k])):=Aq rfl (by kernel_rfl)
theorem A3e:W F0 1 [a,b,c,d,e,g,h,i]=
 (aC h).bind λj=>
 (aF c j).bind λk=>
 cnd k (
 (aB h c).bind λl=>
 (aB i c).bind λm=>
 (aT l m).bind λn=>
 cnd n (
 some [(.bool false)]) (
 (aD .i64 c (.int 1)).bind λo=>
 W F0 1 [a,b,o,d,e,g,h,i])) (
 calls (W F5 0 []) 1 λl=>
 (cnd l (
 calls (W A2s 0 [d,e,g,a,b]) 1 λm=>
 calls (W Yr 0 [d,e,g,a,b]) 1 λn=>
 calls (W Akp 0 [m,n]) 1 λo=>
 some o) (some (.bool false))).bind λm=>
 some [m]):=Aq rfl (by kernel_rfl)
theorem Ba7:W F1 0 [a,b,c,d]=
 (aC d).bind λe=>
 W F1 1 [d,e,(.int 0),a,b,c]:=Aq rfl (by kernel_rfl)
theorem A1x:W F1 1 [a,b,c,d,e,g]=
 (aC a).bind λh=>
 (aF c h).bind λi=>
 (cnd i (
 (aF b (.int 400)).bind λj=>
 some j) (some (.bool false))).bind λj=>
 cnd j (
 (aB a c).bind λk=>
 (aA 1 k).bind λl=>
 (aC l).bind λm=>
 (aD .i64 b m).bind λn=>
 (aD .i64 c (.int 1)).bind λo=>
 W F1 1 [a,n,o,d,e,g]) (
 (aF b (.int 400)).bind λk=>
 (cnd k (
 calls (W F2 0 [d,(.int 300)]) 1 λl=>
 (aF l (.int 300)).bind λm=>
 some m) (some (.bool false))).bind λl=>
 (cnd l (
 calls (W F3 0 [e,(.int 200)]) 1 λm=>
 some m) (some (.bool false))).bind λm=>
 (cnd m (
 calls (W F3 0 [g,(.int 200)]) 1 λn=>
 some n) (some (.bool false))).bind λn=>
 some [n]):=Aq rfl (by kernel_rfl)
theorem A9y:W F2 0 [a,b]=
 W F2 1 [b,(.int 1),(.int 0),a]:=Aq rfl (by kernel_rfl)
theorem A1w:W F2 1 [a,b,c,d]=
 (aA 5 d).bind λe=>
 (aC e).bind λg=>
 (aF c g).bind λh=>
 (cnd h (
 (aF b a).bind λi=>
 some i) (some (.bool false))).bind λi=>
 cnd i (
 (aB e c).bind λj=>
 (aQ .i64 a b).bind λk=>
 calls (W F2 0 [j,k]) 1 λl=>
 (aD .i64 b l).bind λm=>
 (aD .i64 c (.int 1)).bind λn=>
 W F2 1 [a,m,n,d]) (
 W F2 2 [a,b,(.int 0),d]):=Aq rfl (by kernel_rfl)
theorem A2i:W F2 2 [a,b,c,d]=
 (aA 6 d).bind λe=>
 (aC e).bind λg=>
 (aF c g).bind λh=>
 (cnd h (
 (aF b a).bind λi=>
 some i) (some (.bool false))).bind λi=>
 cnd i (
 (aB e c).bind λj=>
 (aI 4 7 j).bind λk=>
 (aQ .i64 a b).bind λl=>
 calls (W F2 0 [k,l]) 1 λm=>
 (aD .i64 b m).bind λn=>
 (aD .i64 c (.int 1)).bind λo=>
 W F2 2 [a,n,o,d]) (
 some [b]):=Aq rfl (by kernel_rfl)
theorem Baa:W F3 0 [a,b]=
 calls (W F4 0 [a,b,b]) 1 λc=>
 (aS c (.int 0)).bind λd=>
 some [d]:=Aq rfl (by kernel_rfl)
theorem Bam:W F4 0 [a,b,c]=
 (aO b (.int 0)).bind λd=>
 (cnd d (some (.bool true)) (
 (aO c (.int 0)).bind λe=>
 some e)).bind λe=>
 (cnd e (some (.bool true)) (
 (aA 2 a).bind λg=>
 (aU g).bind λh=>
 (aL h (.int 1000)).bind λi=>
 some i)).bind λg=>
 cnd g (
 some [(.int (-1))]) (
 (aQ .i64 b (.int 1)).bind λh=>
 W F4 1 [h,c,(.int 0),a]):=Aq rfl (by kernel_rfl)
theorem A3h:W F4 1 [a,b,c,d]=
 (aA 3 d).bind λe=>
 (aC e).bind λg=>
 (aF c g).bind λh=>
 (cnd h (
 (aS a (.int 0)).bind λi=>
 some i) (some (.bool false))).bind λi=>
 cnd i (
 (aB e c).bind λj=>
 (aQ .i64 b (.int 1)).bind λk=>
 calls (W F4 0 [j,a,k]) 1 λl=>
 (aD .i64 c (.int 1)).bind λm=>
 W F4 1 [l,b,m,d]) (
 W F4 2 [a,b,(.int 0),d]):=Aq rfl (by kernel_rfl)
theorem A13:W F4 2 [a,b,c,d]=
 (aA 4 d).bind λe=>
 (aC e).bind λg=>
 (aF c g).bind λh=>
 (cnd h (
 (aS a (.int 0)).bind λi=>
 some i) (some (.bool false))).bind λi=>
 cnd i (
 (aB e c).bind λj=>
 (aA 0 j).bind λk=>
 (aU k).bind λl=>
 (aL l (.int 1000)).bind λm=>
 cnd m (
 some [(.int (-1))]) (
 (aI 1 5 j).bind λn=>
 (aQ .i64 b (.int 1)).bind λo=>
 calls (W F4 0 [n,a,o]) 1 λp=>
 (aD .i64 c (.int 1)).bind λq=>
 W F4 2 [p,b,q,d])) (
 some [a]):=Aq rfl (by kernel_rfl)
theorem A9k:W F5 0 []=
 (aN [(.str ⟨#[97]⟩),(.str ⟨#[98]⟩)]).bind λa=>
 (aJ [(.str ⟨#[109]⟩),a]).bind λb=>
 (aN [b]).bind λc=>
 calls (W F6 0 []) 7 λd e g h i j k=>
 calls (W F8 0 [(.int 1),(.int 2),(.int 0)]) 5 λl m n o p=>
 calls (W F8 0 [(.int 1),(.int 0),(.int 3)]) 5 λq r s t u=>
 (aJ [d,e,g,h,i,j,k]).bind λv=>
 (aJ [l,m,n,o,p]).bind λx=>
 (aJ [q,r,s,t,u]).bind λy=>
 calls (W F15 0 [v,x,c,(.str ⟨#[110]⟩),y,(.bool false)]) 4 λz aa ab ac=>
 calls (W F6 0 []) 7 λad ae ag ah ai aj ak=>
 calls (W F8 0 [(.int 1),(.int 2),(.int 0)]) 5 λal am an ao ap=>
 calls (W F8 0 [(.int 5),(.int 0),(.int 0)]) 5 λaq ar au av ax=>
 (aJ [ad,ae,ag,ah,ai,aj,ak]).bind λay=>
 (aJ [al,am,an,ao,ap]).bind λaz=>
 (aJ [aq,ar,au,av,ax]).bind λba=>
 calls (W F15 0 [ay,az,c,(.str ⟨#[110]⟩),ba,(.bool false)]) 4 λbb bc bd be=>
 calls (W F6 0 []) 7 λbg bh bi bj bk bl bm=>
 calls (W F8 0 [(.int 1),(.int 2),(.int 0)]) 5 λbn bo bp bq br=>
 calls (W F8 0 [(.int 5),(.int 0),(.int 0)]) 5 λbs bt bu bv bx=>
 (aJ [bg,bh,bi,bj,bk,bl,bm]).bind λbz=>
 (aJ [bn,bo,bp,bq,br]).bind λca=>
 (aJ [bs,bt,bu,bv,bx]).bind λcb=>
 calls (W F15 0 [bz,ca,c,(.str ⟨#[110]⟩),cb,(.bool true)]) 4 λcc cd ce cg=>
 calls (W F6 0 []) 7 λch ci cj ck cl cm cn=>
 calls (W F8 0 [(.int 1),(.int 2),(.int 0)]) 5 λco cp cq cr cs=>
 calls (W F8 0 [(.int 1),(.int 0),(.int 0)]) 5 λct cu cv cx cy=>
 (aJ [ch,ci,cj,ck,cl,cm,cn]).bind λcz=>
 (aJ [co,cp,cq,cr,cs]).bind λda=>
 (aJ [ct,cu,cv,cx,cy]).bind λdb=>
 calls (W F15 0 [cz,da,c,(.str ⟨#[109]⟩),db,(.bool false)]) 4 λdc dd de dg=>
 calls (W F6 0 []) 7 λdh di dj dk dl dm dn=>
 calls (W F8 0 [(.int 1),(.int 2),(.int 0)]) 5 λdp dq dr ds dt=>
 calls (W F8 0 [(.int 1),(.int 4),(.int 0)]) 5 λdu dv dx dy dz=>
 (aJ [dh,di,dj,dk,dl,dm,dn]).bind λea=>
 (aJ [dp,dq,dr,ds,dt]).bind λeb=>
 (aJ [du,dv,dx,dy,dz]).bind λec=>
 calls (W A2s 0 [ea,eb,ec,c,(.str ⟨#[110]⟩)]) 1 λed=>
 (aC aa).bind λee=>
 (aK ee (.int 2)).bind λeg=>
 (cnd eg (some (.bool true)) (
 (aC bd).bind λeh=>
 (aK eh (.int 1)).bind λei=>
 some ei)).bind λeh=>
 (cnd eh (some (.bool true)) (
 (aC cd).bind λei=>
 (aK ei (.int 2)).bind λej=>
 some ej)).bind λei=>
 (cnd ei (some (.bool true)) (
 (aC ed).bind λej=>
 (aK ej (.int 2)).bind λek=>
 some ek)).bind λej=>
 (cnd ej (some (.bool true)) (
 calls (W Apk 0 [aa,(.str ⟨#[97]⟩)]) 1 λek=>
 (aC ek).bind λel=>
 (aK el (.int 2)).bind λem=>
 some em)).bind λek=>
 cnd ek (
 some [(.bool false)]) (
 (aE ac (.int 0)).bind λel=>
 (cnd el (
 (aC ab).bind λem=>
 (aE em (.int 0)).bind λen=>
 some en) (some (.bool false))).bind λem=>
 (cnd em (
 calls (W F8 0 [(.int 1),(.int 2),(.int 3)]) 5 λen eo ep eq er=>
 (aJ [en,eo,ep,eq,er]).bind λes=>
 calls (W A29 0 [z,es]) 1 λet=>
 some et) (some (.bool false))).bind λen=>
 (cnd en (
 (aE be (.int 9)).bind λeo=>
 some eo) (some (.bool false))).bind λeo=>
 (cnd eo (
 (aB bd (.int 0)).bind λep=>
 (aJ [(.str ⟨#[97]⟩),(.str ⟨#[109]⟩)]).bind λeq=>
 (O.aEq ep eq).bind λer=>
 some er) (some (.bool false))).bind λep=>
 (cnd ep (
 (aE cg (.int 0)).bind λeq=>
 some eq) (some (.bool false))).bind λeq=>
 (cnd eq (
 calls (W F8 0 [(.int 5),(.int 2),(.int 0)]) 5 λer es et eu ev=>
 (aJ [er,es,et,eu,ev]).bind λex=>
 calls (W A29 0 [cc,ex]) 1 λey=>
 some ey) (some (.bool false))).bind λer=>
 (cnd er (
 (aE dg (.int 0)).bind λes=>
 some es) (some (.bool false))).bind λes=>
 (cnd es (
 calls (W F8 0 [(.int 1),(.int 0),(.int 0)]) 5 λet eu ev ex ey=>
 (aJ [et,eu,ev,ex,ey]).bind λez=>
 calls (W A29 0 [dc,ez]) 1 λga=>
 some ga) (some (.bool false))).bind λet=>
 (cnd et (
 (aN [(.str ⟨#[97]⟩)]).bind λeu=>
 (aN [(.str ⟨#[98]⟩)]).bind λev=>
 (aJ [(.str ⟨#[109]⟩),eu]).bind λex=>
 (aJ [(.str ⟨#[110]⟩),ev]).bind λey=>
 (aN [ex,ey]).bind λez=>
 calls (W Akp 0 [ed,ez]) 1 λga=>
 some ga) (some (.bool false))).bind λeu=>
 some [eu]):=Aq rfl (by kernel_rfl)
theorem Bbn:W F6 0 []=
 calls (W F7 0 []) 7 λa b c d e g h=>
 calls (W F7 0 []) 7 λi j k l m n o=>
 calls (W F7 0 []) 7 λp q r s t u v=>
 (aJ [(.str ⟨#[97]⟩),(.bool false),(.bool false),(.list []),a,b,c,d,e,g,h]).bind λx=>
 (aJ [(.str ⟨#[98]⟩),(.bool false),(.bool false),(.list []),i,j,k,l,m,n,o]).bind λy=>
 (aJ [(.str ⟨#[99]⟩),(.bool false),(.bool false),(.list []),p,q,r,s,t,u,v]).bind λz=>
 (aN [x,y,z]).bind λaa=>
 some [(.int 5),(.int 0),(.int 0),(.list []),(.str ⟨#[]⟩),(.list []),aa]:=Aq rfl (by kernel_rfl)
theorem A9r:W F7 0 []=
 some [(.int 2),(.int 0),(.int 9),(.list []),(.str ⟨#[]⟩),(.list []),(.list [])]:=Aq rfl (by kernel_rfl)
theorem A5d:W F10 0 [a]=
 (aA 0 a).bind λb=>
 (aA 1 a).bind λc=>
 (aA 2 a).bind λd=>
 W F10 1 [(.int 0),a,(.int 0),(.int 0),(.str ⟨#[]⟩),b,c,d,(.list [])]:=Aq rfl (by kernel_rfl)
theorem As2:W F10 1 [a,b,c,d,e,g,h,i,j]=
 (aA 3 b).bind λk=>
 (aC k).bind λl=>
 (aF a l).bind λm=>
 cnd m (
 (aB k a).bind λn=>
 calls (W F10 0 [n]) 5 λo p q r s=>
 (aJ [o,p,q,r,s]).bind λt=>
 (aN [t]).bind λu=>
 (aH 80 j u).bind λv=>
 (aD .i64 a (.int 1)).bind λx=>
 W F10 1 [x,b,c,d,e,g,h,i,v]) (
 W F10 2 [(.int 0),b,c,d,e,g,h,i,j,(.list [])]):=Aq rfl (by kernel_rfl)
theorem Au4:W F10 2 [a,b,c,d,e,g,h,i,j,k]=
 (aA 4 b).bind λl=>
 (aC l).bind λm=>
 (aF a m).bind λn=>
 cnd n (
 (aB l a).bind λo=>
 (aA 0 o).bind λp=>
 (aI 1 5 o).bind λq=>
 calls (W F10 0 [q]) 5 λr s t u v=>
 (aJ [p,r,s,t,u,v]).bind λx=>
 (aN [x]).bind λy=>
 (aH 96 k y).bind λz=>
 (aD .i64 a (.int 1)).bind λaa=>
 W F10 2 [aa,b,c,d,e,g,h,i,j,z]) (
 some [g,h,i,j,k]):=Aq rfl (by kernel_rfl)
theorem A4g:W F15 0 [a,b,c,d,e,g]=
 calls (W F16 0 [a]) 1 λh=>
 (aG h).bind λi=>
 (cnd i (some (.bool true)) (
 calls (W F21 0 [b]) 1 λj=>
 (aG j).bind λk=>
 some k)).bind λj=>
 (cnd j (some (.bool true)) (
 calls (W F21 0 [e]) 1 λk=>
 (aG k).bind λl=>
 some l)).bind λk=>
 (cnd k (some (.bool true)) (
 calls (W F83 0 [c]) 1 λl=>
 (aG l).bind λm=>
 some m)).bind λl=>
 (cnd l (some (.bool true)) (
 calls (W F84 0 [d]) 1 λm=>
 (aG m).bind λn=>
 some n)).bind λm=>
 (cnd m (some (.bool true)) (
 calls (W F86 0 [a,b]) 1 λn=>
 (aG n).bind λo=>
 some o)).bind λn=>
 (cnd n (some (.bool true)) (
 calls (W F86 0 [a,e]) 1 λo=>
 (aG o).bind λp=>
 some p)).bind λo=>
 cnd o (
 (aJ [(.int 0),(.int 0),(.str ⟨#[]⟩),(.list []),(.list [])]).bind λp=>
 some [p,(.list []),(.list []),(.int 1)]) (
 calls (W F92 0 [a,b]) 1 λp=>
 calls (W F92 0 [a,e]) 1 λq=>
 calls (W F97 0 [a,q]) 1 λr=>
 (aC r).bind λs=>
 W F15 1 [c,d,g,s,(.int 0),a,p,q,(.int 0),(.int 0),(.str ⟨#[]⟩),r,(.list [])]):=Aq rfl (by kernel_rfl)
theorem Ai8:W F15 1 [a,b,c,d,e,g,h,i,j,k,l,m,n]=
 (aF e d).bind λo=>
 cnd o (
 (aB m e).bind λp=>
 calls (W Bbl 0 [g,i,h,p]) 1 λq=>
 cnd q (
 W F15 2 [a,b,c,d,e,g,h,i,j,k,l,m,n]) (
 (aC a).bind λr=>
 W F15 3 [a,b,c,p,d,e,a,r,(.int 0),g,h,i,j,k,l,m,n])) (
 (aC n).bind λp=>
 (aL p (.int 0)).bind λq=>
 (cnd q (
 (aG c).bind λr=>
 some r) (some (.bool false))).bind λr=>
 cnd r (
 (aJ [(.int 0),(.int 0),(.str ⟨#[]⟩),(.list []),(.list [])]).bind λs=>
 some [s,(.list []),n,(.int 9)]) (
 calls (W Atv 0 [a,b]) 1 λs=>
 calls (W Aqd 0 [s,m]) 1 λt=>
 calls (W Bc0 0 [a,b]) 1 λu=>
 calls (W Aqd 0 [t,u]) 1 λv=>
 calls (W Bd3 0 [g,h,v]) 1 λx=>
 calls (W Bbz 0 [g,i,x,(.bool true)]) 1 λy=>
 calls (W Bca 0 [a,b,m,n]) 1 λz=>
 (aC z).bind λaa=>
 (aL aa (.int 16)).bind λab=>
 cnd ab (
 (aJ [(.int 0),(.int 0),(.str ⟨#[]⟩),(.list []),(.list [])]).bind λac=>
 some [ac,(.list []),(.list []),(.int 15)]) (
 calls (W F21 0 [y]) 1 λac=>
 (aG ac).bind λad=>
 cnd ad (
 (aJ [(.int 0),(.int 0),(.str ⟨#[]⟩),(.list []),(.list [])]).bind λae=>
 some [ae,(.list []),(.list []),(.int 4)]) (
 calls (W Bb7 0 [y]) 1 λae=>
 some [ae,z,(.list []),(.int 0)])))):=Aq rfl (by kernel_rfl)
theorem Zv:W F15 2 [a,b,c,d,e,g,h,i,j,k,l,m,n]=
 (aD .i64 e (.int 1)).bind λo=>
 W F15 1 [a,b,c,d,o,g,h,i,j,k,l,m,n]:=Aq rfl (by kernel_rfl)
theorem Zr:W F15 3 [a,b,c,d,e,g,h,i,j,k,l,m,n,o,p,q,r]=
 (aF j i).bind λs=>
 cnd s (
 (aB h j).bind λt=>
 (aA 0 t).bind λu=>
 (aT u b).bind λv=>
 (cnd v (
 (aA 1 t).bind λx=>
 calls (W F70 0 [x,d]) 1 λy=>
 some y) (some (.bool false))).bind λx=>
 cnd x (
 (aJ [d,u]).bind λy=>
 (aN [y]).bind λz=>
 (aH 32 r z).bind λaa=>
 W F15 4 [a,b,c,d,e,g,h,i,j,k,l,m,n,o,p,q,aa]) (
 W F15 4 [a,b,c,d,e,g,h,i,j,k,l,m,n,o,p,q,r])) (
 W F15 2 [a,b,c,e,g,k,l,m,n,o,p,q,r]):=Aq rfl (by kernel_rfl)
theorem Aab:W F15 4 [a,b,c,d,e,g,h,i,j,k,l,m,n,o,p,q,r]=
 (aD .i64 j (.int 1)).bind λs=>
 W F15 3 [a,b,c,d,e,g,h,i,s,k,l,m,n,o,p,q,r]:=Aq rfl (by kernel_rfl)
theorem A8d:W F16 0 [a]=
 calls (W F17 0 [a,(.int 12)]) 1 λb=>
 some [b]:=Aq rfl (by kernel_rfl)
theorem As5:W F17 0 [a,b]=
 (aE b (.int 0)).bind λc=>
 (cnd c (some (.bool true)) (
 (aA 0 a).bind λd=>
 (aK d (.int 3)).bind λe=>
 (cnd e (
 (aA 3 a).bind λg=>
 (aC g).bind λh=>
 (aL h (.int 0)).bind λi=>
 some i) (some (.bool false))).bind λg=>
 some g)).bind λd=>
 (cnd d (some (.bool true)) (
 (aA 0 a).bind λe=>
 (aK e (.int 4)).bind λg=>
 (cnd g (
 (aA 4 a).bind λh=>
 (aT h (.str ⟨#[]⟩)).bind λi=>
 some i) (some (.bool false))).bind λh=>
 some h)).bind λe=>
 (cnd e (some (.bool true)) (
 (aA 0 a).bind λg=>
 (aK g (.int 5)).bind λh=>
 (cnd h (
 (aA 6 a).bind λi=>
 (aC i).bind λj=>
 (aL j (.int 0)).bind λk=>
 some k) (some (.bool false))).bind λi=>
 some i)).bind λg=>
 (cnd g (some (.bool true)) (
 (aA 0 a).bind λh=>
 (aK h (.int 5)).bind λi=>
 (cnd i (
 (aK h (.int 4)).bind λj=>
 some j) (some (.bool false))).bind λj=>
 (cnd j (
 (aA 5 a).bind λk=>
 (aC k).bind λl=>
 (aL l (.int 0)).bind λm=>
 some m) (some (.bool false))).bind λk=>
 some k)).bind λh=>
 cnd h (
 some [(.bool false)]) (
 (aA 0 a).bind λi=>
 (aE i (.int 1)).bind λj=>
 cnd j (
 (aA 1 a).bind λk=>
 (aE k (.int 0)).bind λl=>
 (cnd l (
 (aA 2 a).bind λm=>
 (aE m (.int 0)).bind λn=>
 some n) (some (.bool false))).bind λm=>
 some [m]) (
 (aE i (.int 2)).bind λk=>
 cnd k (
 (aA 1 a).bind λl=>
 (aO (.int (-1000000000000000)) l).bind λm=>
 (cnd m (
 (aA 2 a).bind λn=>
 (aO l n).bind λo=>
 some o) (some (.bool false))).bind λn=>
 (cnd n (
 (aA 2 a).bind λo=>
 (aO o (.int 1000000000000000)).bind λp=>
 some p) (some (.bool false))).bind λo=>
 some [o]) (
 (aE i (.int 3)).bind λl=>
 cnd l (
 calls (W F18 0 [a,(.int 200)]) 1 λm=>
 (cnd m (
 calls (W F19 0 [a]) 1 λn=>
 some n) (some (.bool false))).bind λn=>
 some [n]) (
 (aE i (.int 4)).bind λm=>
 cnd m (
 calls (W F18 0 [a,(.int 64)]) 1 λn=>
 (cnd n (
 (aA 5 a).bind λo=>
 (aC o).bind λp=>
 (aE p (.int 1)).bind λq=>
 some q) (some (.bool false))).bind λo=>
 (cnd o (
 (aA 5 a).bind λp=>
 (aB p (.int 0)).bind λq=>
 (aQ .i64 b (.int 1)).bind λr=>
 calls (W F17 0 [q,r]) 1 λs=>
 some s) (some (.bool false))).bind λp=>
 (cnd p (
 calls (W F27 0 [a]) 1 λq=>
 some q) (some (.bool false))).bind λq=>
 some [q]) (
 (aE i (.int 5)).bind λn=>
 cnd n (
 (aA 1 a).bind λo=>
 (aK o (.int 0)).bind λp=>
 (cnd p (some (.bool true)) (
 (aA 2 a).bind λq=>
 (aK q (.int 0)).bind λr=>
 some r)).bind λq=>
 (cnd q (some (.bool true)) (
 (aA 5 a).bind λr=>
 (aC r).bind λs=>
 (aL s (.int 1)).bind λt=>
 some t)).bind λr=>
 (cnd r (some (.bool true)) (
 (aA 5 a).bind λs=>
 (aC s).bind λt=>
 (aE t (.int 1)).bind λu=>
 (cnd u (
 (aA 6 a).bind λv=>
 (aC v).bind λx=>
 (aL x (.int 0)).bind λy=>
 some y) (some (.bool false))).bind λv=>
 some v)).bind λs=>
 (cnd s (some (.bool true)) (
 (aA 6 a).bind λt=>
 (aC t).bind λu=>
 (aL u (.int 64)).bind λv=>
 some v)).bind λt=>
 cnd t (
 some [(.bool false)]) (
 (aA 5 a).bind λu=>
 calls (W F32 0 [u,b]) 1 λv=>
 (aG v).bind λx=>
 (cnd x (
 (aQ .i64 b (.int 1)).bind λy=>
 calls (W F35 0 [a,y]) 1 λz=>
 some z) (some (.bool false))).bind λy=>
 some [y])) (
 some [(.bool false)])))))):=Aq rfl (by kernel_rfl)
theorem A30:W F18 0 [a,b]=
 (aA 1 a).bind λc=>
 (aO (.int 0) c).bind λd=>
 (cnd d (
 (aA 2 a).bind λe=>
 (aO c e).bind λg=>
 some g) (some (.bool false))).bind λe=>
 (cnd e (
 (aA 2 a).bind λg=>
 (aO g b).bind λh=>
 some h) (some (.bool false))).bind λg=>
 some [g]:=Aq rfl (by kernel_rfl)
theorem A8v:W F19 0 [a]=
 (aA 3 a).bind λb=>
 (aC b).bind λc=>
 W F19 1 [b,c,(.int 0),a]:=Aq rfl (by kernel_rfl)
theorem Ar8:W F19 1 [a,b,c,d]=
 (aF c b).bind λe=>
 cnd e (
 (aB a c).bind λg=>
 (aU g).bind λh=>
 (aA 1 d).bind λi=>
 (aF h i).bind λj=>
 (cnd j (some (.bool true)) (
 (aA 2 d).bind λk=>
 (aL h k).bind λl=>
 some l)).bind λk=>
 (cnd k (some (.bool true)) (
 (aL c (.int 0)).bind λl=>
 (cnd l (
 (aA 3 d).bind λm=>
 (aQ .i64 c (.int 1)).bind λn=>
 (aB m n).bind λo=>
 (aY o g).bind λp=>
 some p) (some (.bool false))).bind λm=>
 some m)).bind λl=>
 (cnd l (some (.bool true)) (
 calls (W F20 0 [g]) 5 λm n o p q=>
 (aJ [m,n,o,p,q]).bind λr=>
 calls (W F21 0 [r]) 1 λs=>
 (aG s).bind λt=>
 some t)).bind λm=>
 cnd m (
 some [(.bool false)]) (
 (aD .i64 c (.int 1)).bind λn=>
 W F19 1 [a,b,n,d])) (
 (aA 3 d).bind λg=>
 (aC g).bind λh=>
 (aO h (.int 64)).bind λi=>
 some [i]):=Aq rfl (by kernel_rfl)
theorem Ar4:W F20 0 [a]=
 some [(.int 3),(.int 0),a,(.list []),(.list [])]:=Aq rfl (by kernel_rfl)
theorem A4k:W F21 0 [a]=
 calls (W F22 0 [a,(.int 12)]) 1 λb=>
 (cnd b (
 calls (W F26 0 [a]) 1 λc=>
 (aO c (.int 600)).bind λd=>
 some d) (some (.bool false))).bind λc=>
 some [c]:=Aq rfl (by kernel_rfl)
theorem Ar0:W F22 0 [a,b]=
 (aE b (.int 0)).bind λc=>
 (cnd c (some (.bool true)) (
 calls (W F23 0 [a]) 1 λd=>
 (aG d).bind λe=>
 some e)).bind λd=>
 (cnd d (some (.bool true)) (
 (aA 0 a).bind λe=>
 (aK e (.int 4)).bind λg=>
 (cnd g (
 (aA 3 a).bind λh=>
 (aC h).bind λi=>
 (aL i (.int 0)).bind λj=>
 some j) (some (.bool false))).bind λh=>
 some h)).bind λe=>
 (cnd e (some (.bool true)) (
 (aA 0 a).bind λg=>
 (aK g (.int 5)).bind λh=>
 (cnd h (
 (aA 4 a).bind λi=>
 (aC i).bind λj=>
 (aL j (.int 0)).bind λk=>
 some k) (some (.bool false))).bind λi=>
 some i)).bind λg=>
 (cnd g (some (.bool true)) (
 (aA 3 a).bind λh=>
 (aC h).bind λi=>
 (aL i (.int 64)).bind λj=>
 some j)).bind λh=>
 (cnd h (some (.bool true)) (
 (aA 4 a).bind λi=>
 (aC i).bind λj=>
 (aL j (.int 64)).bind λk=>
 some k)).bind λi=>
 cnd i (
 some [(.bool false)]) (
 (aA 3 a).bind λj=>
 (aC j).bind λk=>
 W F22 1 [b,j,k,(.int 0),a]):=Aq rfl (by kernel_rfl)
theorem Ap4:W F22 1 [a,b,c,d,e]=
 (aF d c).bind λg=>
 cnd g (
 (aB b d).bind λh=>
 (aQ .i64 a (.int 1)).bind λi=>
 calls (W F22 0 [h,i]) 1 λj=>
 (aG j).bind λk=>
 cnd k (
 some [(.bool false)]) (
 (aD .i64 d (.int 1)).bind λl=>
 W F22 1 [a,b,c,l,e])) (
 (aA 4 e).bind λh=>
 (aC h).bind λi=>
 W F22 2 [a,h,i,(.int 0),e]):=Aq rfl (by kernel_rfl)
theorem Aq5:W F22 2 [a,b,c,d,e]=
 (aF d c).bind λg=>
 cnd g (
 (aB b d).bind λh=>
 (aA 0 h).bind λi=>
 calls (W F25 0 [i]) 1 λj=>
 (aG j).bind λk=>
 (cnd k (some (.bool true)) (
 (aL d (.int 0)).bind λl=>
 (cnd l (
 (aA 4 e).bind λm=>
 (aQ .i64 d (.int 1)).bind λn=>
 (aB m n).bind λo=>
 (aA 0 o).bind λp=>
 (aY p i).bind λq=>
 some q) (some (.bool false))).bind λm=>
 some m)).bind λl=>
 (cnd l (some (.bool true)) (
 (aI 1 5 h).bind λm=>
 (aQ .i64 a (.int 1)).bind λn=>
 calls (W F22 0 [m,n]) 1 λo=>
 (aG o).bind λp=>
 some p)).bind λm=>
 cnd m (
 some [(.bool false)]) (
 (aD .i64 d (.int 1)).bind λn=>
 W F22 2 [a,b,c,n,e])) (
 some [(.bool true)]):=Aq rfl (by kernel_rfl)
theorem A6l:W F23 0 [a]=
 (aA 0 a).bind λb=>
 (aE b (.int 1)).bind λc=>
 cnd c (
 (aA 2 a).bind λd=>
 (aM d (.str ⟨#[]⟩)).bind λe=>
 (cnd e (
 (aA 1 a).bind λg=>
 (aE g (.int 0)).bind λh=>
 (cnd h (some (.bool true)) (
 (aE g (.int 1)).bind λi=>
 some i)).bind λi=>
 some i) (some (.bool false))).bind λg=>
 some [g]) (
 (aE b (.int 2)).bind λd=>
 cnd d (
 (aA 2 a).bind λe=>
 (aM e (.str ⟨#[]⟩)).bind λg=>
 (cnd g (
 (aA 1 a).bind λh=>
 (aS h (.int (-1000000000000000))).bind λi=>
 some i) (some (.bool false))).bind λh=>
 (cnd h (
 (aA 1 a).bind λi=>
 (aO i (.int 1000000000000000)).bind λj=>
 some j) (some (.bool false))).bind λi=>
 some [i]) (
 (aE b (.int 3)).bind λe=>
 cnd e (
 (aA 1 a).bind λg=>
 (aE g (.int 0)).bind λh=>
 (cnd h (
 (aA 2 a).bind λi=>
 calls (W F24 0 [i]) 1 λj=>
 some j) (some (.bool false))).bind λi=>
 some [i]) (
 (aE b (.int 0)).bind λg=>
 cnd g (
 W F23 1 [g,a]) (
 (aE b (.int 4)).bind λh=>
 cnd h (
 W F23 1 [h,a]) (
 (aE b (.int 5)).bind λi=>
 W F23 1 [i,a]))))):=Aq rfl (by kernel_rfl)
theorem Aal:W F23 1 [a,b]=
 cnd a (
 (aA 1 b).bind λc=>
 (aE c (.int 0)).bind λd=>
 (cnd d (
 (aA 2 b).bind λe=>
 (aM e (.str ⟨#[]⟩)).bind λg=>
 some g) (some (.bool false))).bind λe=>
 some [e]) (
 some [(.bool false)]):=Aq rfl (by kernel_rfl)
theorem A6p:W F24 0 [a]=
 (aU a).bind λb=>
 W F24 1 [a,b,(.int 0)]:=Aq rfl (by kernel_rfl)
theorem Asz:W F24 1 [a,b,c]=
 (aF c b).bind λd=>
 cnd d (
 (aV a c).bind λe=>
 (aK e (.int 10)).bind λg=>
 (cnd g (
 (aF e (.int 32)).bind λh=>
 (cnd h (some (.bool true)) (
 (aL e (.int 126)).bind λi=>
 some i)).bind λi=>
 some i) (some (.bool false))).bind λh=>
 cnd h (
 some [(.bool false)]) (
 (aD .i64 c (.int 1)).bind λi=>
 W F24 1 [a,b,i])) (
 (aU a).bind λe=>
 (aO e (.int 200)).bind λg=>
 some [g]):=Aq rfl (by kernel_rfl)
theorem A6a:W F25 0 [a]=
 (aU a).bind λb=>
 W F25 1 [a,b,(.int 0)]:=Aq rfl (by kernel_rfl)
theorem Apr:W F25 1 [a,b,c]=
 (aF c b).bind λd=>
 cnd d (
 (aV a c).bind λe=>
 (aS e (.int 97)).bind λg=>
 (cnd g (
 (aO e (.int 122)).bind λh=>
 some h) (some (.bool false))).bind λh=>
 (cnd h (some (.bool true)) (
 (aS e (.int 65)).bind λi=>
 (cnd i (
 (aO e (.int 90)).bind λj=>
 some j) (some (.bool false))).bind λj=>
 some j)).bind λi=>
 (cnd i (some (.bool true)) (
 (aS e (.int 48)).bind λj=>
 (cnd j (
 (aO e (.int 57)).bind λk=>
 some k) (some (.bool false))).bind λk=>
 some k)).bind λj=>
 (cnd j (some (.bool true)) (
 (aE e (.int 45)).bind λk=>
 some k)).bind λk=>
 (cnd k (some (.bool true)) (
 (aE e (.int 95)).bind λl=>
 some l)).bind λl=>
 (cnd l (some (.bool true)) (
 (aE e (.int 47)).bind λm=>
 some m)).bind λm=>
 (aG m).bind λn=>
 cnd n (
 some [(.bool false)]) (
 (aD .i64 c (.int 1)).bind λo=>
 W F25 1 [a,b,o])) (
 (aU a).bind λe=>
 (aS e (.int 1)).bind λg=>
 (cnd g (
 (aO e (.int 40)).bind λh=>
 some h) (some (.bool false))).bind λh=>
 some [h]):=Aq rfl (by kernel_rfl)
theorem A7d:W F26 0 [a]=
 (aA 3 a).bind λb=>
 (aC b).bind λc=>
 W F26 1 [(.int 1),b,c,(.int 0),a]:=Aq rfl (by kernel_rfl)
theorem Ar9:W F26 1 [a,b,c,d,e]=
 (aF d c).bind λg=>
 cnd g (
 (aB b d).bind λh=>
 calls (W F26 0 [h]) 1 λi=>
 (aD .i64 a i).bind λj=>
 (aD .i64 d (.int 1)).bind λk=>
 W F26 1 [j,b,c,k,e]) (
 (aA 4 e).bind λh=>
 (aC h).bind λi=>
 W F26 2 [a,h,i,(.int 0)]):=Aq rfl (by kernel_rfl)
theorem Auy:W F26 2 [a,b,c,d]=
 (aF d c).bind λe=>
 cnd e (
 (aB b d).bind λg=>
 (aI 1 5 g).bind λh=>
 calls (W F26 0 [h]) 1 λi=>
 (aD .i64 a i).bind λj=>
 (aD .i64 d (.int 1)).bind λk=>
 W F26 2 [j,b,c,k]) (
 some [a]):=Aq rfl (by kernel_rfl)
theorem A7p:W F27 0 [a]=
 (aA 5 a).bind λb=>
 (aB b (.int 0)).bind λc=>
 (aA 4 a).bind λd=>
 calls (W F28 0 [c,d]) 2 λe g=>
 (aM d (.str ⟨#[]⟩)).bind λh=>
 (cnd h (some (.bool true)) (
 (cnd g (
 (aA 1 e).bind λi=>
 some i) (some (.bool false))).bind λi=>
 (cnd i (
 (aA 4 e).bind λj=>
 (aE j (.int 3)).bind λk=>
 some k) (some (.bool false))).bind λj=>
 some j)).bind λi=>
 some [i]:=Aq rfl (by kernel_rfl)
theorem A70:W F28 0 [a,b]=
 (aA 6 a).bind λc=>
 calls (W F29 0 [c,b]) 1 λd=>
 (aF d (.int 0)).bind λe=>
 (cnd e (some (.bool true)) (
 calls (W F31 0 [a]) 1 λg=>
 (aG g).bind λh=>
 some h)).bind λg=>
 cnd g (
 (aJ [(.str ⟨#[]⟩),(.bool false),(.bool false),(.list []),(.int 0),(.int 0),(.int 0),(.list []),(.str ⟨#[]⟩),(.list []),(.list [])]).bind λh=>
 some [h,(.bool false)]) (
 (aB c d).bind λh=>
 some [h,(.bool true)]):=Aq rfl (by kernel_rfl)
theorem A4s:W F29 0 [a,b]=
 (aC a).bind λc=>
 W F29 1 [a,b,c,(.int 0)]:=Aq rfl (by kernel_rfl)
theorem Are:W F29 1 [a,b,c,d]=
 (aF d c).bind λe=>
 cnd e (
 (aB a d).bind λg=>
 calls (W F30 0 [g,b]) 1 λh=>
 cnd h (
 some [d]) (
 (aD .i64 d (.int 1)).bind λi=>
 W F29 1 [a,b,c,i])) (
 some [(.int (-1))]):=Aq rfl (by kernel_rfl)
theorem A4c:W F30 0 [a,b]=
 (aA 0 a).bind λc=>
 (aM c b).bind λd=>
 some [d]:=Aq rfl (by kernel_rfl)
theorem A7a:W F31 0 [a]=
 (aA 0 a).bind λb=>
 (aE b (.int 5)).bind λc=>
 (cnd c (
 (aA 5 a).bind λd=>
 (aC d).bind λe=>
 (aE e (.int 0)).bind λg=>
 some g) (some (.bool false))).bind λd=>
 some [d]:=Aq rfl (by kernel_rfl)
theorem A6m:W F32 0 [a,b]=
 calls (W F33 0 [a,b]) 1 λc=>
 (aS c (.int 0)).bind λd=>
 some [d]:=Aq rfl (by kernel_rfl)
theorem A7w:W F33 0 [a,b]=
 (aC a).bind λc=>
 W F33 1 [a,b,c,(.int 0)]:=Aq rfl (by kernel_rfl)
theorem Ahg:W F33 1 [a,b,c,d]=
 (aF d c).bind λe=>
 cnd e (
 (aB a d).bind λg=>
 calls (W F34 0 [g,b]) 1 λh=>
 cnd h (
 some [d]) (
 (aD .i64 d (.int 1)).bind λi=>
 W F33 1 [a,b,c,i])) (
 some [(.int (-1))]):=Aq rfl (by kernel_rfl)
theorem A56:W F34 0 [a,b]=
 (aQ .i64 b (.int 1)).bind λc=>
 calls (W F17 0 [a,c]) 1 λd=>
 (aG d).bind λe=>
 some [e]:=Aq rfl (by kernel_rfl)
theorem A4y:W F35 0 [a,b]=
 (aA 6 a).bind λc=>
 (aC c).bind λd=>
 W F35 1 [b,c,d,(.int 0),a]:=Aq rfl (by kernel_rfl)
theorem Aqy:W F35 1 [a,b,c,d,e]=
 (aF d c).bind λg=>
 cnd g (
 (aB b d).bind λh=>
 (aA 0 h).bind λi=>
 (aJ [i,(.int 0),(.int 0),(.str ⟨#[]⟩),(.list []),(.list [])]).bind λj=>
 (aN [j]).bind λk=>
 calls (W F36 0 [k]) 5 λl m n o p=>
 (aJ [l,m,n,o,p]).bind λq=>
 calls (W F21 0 [q]) 1 λr=>
 (aG r).bind λs=>
 (cnd s (some (.bool true)) (
 (aL d (.int 0)).bind λt=>
 (cnd t (
 (aA 6 e).bind λu=>
 (aQ .i64 d (.int 1)).bind λv=>
 (aB u v).bind λx=>
 (aA 0 x).bind λy=>
 (aY y i).bind λz=>
 some z) (some (.bool false))).bind λu=>
 some u)).bind λt=>
 (cnd t (some (.bool true)) (
 (aI 4 7 h).bind λu=>
 calls (W F17 0 [u,a]) 1 λv=>
 (aG v).bind λx=>
 some x)).bind λu=>
 (cnd u (some (.bool true)) (
 (aA 3 h).bind λv=>
 (aC v).bind λx=>
 (aL x (.int 1)).bind λy=>
 some y)).bind λv=>
 cnd v (
 some [(.bool false)]) (
 (aA 3 h).bind λx=>
 (aC x).bind λy=>
 W F35 2 [a,b,c,d,x,y,(.int 0),e,h])) (
 some [(.bool true)]):=Aq rfl (by kernel_rfl)
theorem Atn:W F35 2 [a,b,c,d,e,g,h,i,j]=
 (aF h g).bind λk=>
 cnd k (
 (aB e h).bind λl=>
 (aA 0 l).bind λm=>
 (aE m (.int 0)).bind λn=>
 (cnd n (some (.bool true)) (
 calls (W F21 0 [l]) 1 λo=>
 (aG o).bind λp=>
 some p)).bind λo=>
 (cnd o (some (.bool true)) (
 (aI 4 7 j).bind λp=>
 calls (W F50 0 [p,l]) 1 λq=>
 (aC q).bind λr=>
 (aL r (.int 0)).bind λs=>
 some s)).bind λp=>
 cnd p (
 some [(.bool false)]) (
 (aD .i64 h (.int 1)).bind λq=>
 W F35 2 [a,b,c,d,e,g,q,i,j])) (
 (aD .i64 d (.int 1)).bind λl=>
 W F35 1 [a,b,c,l,i]):=Aq rfl (by kernel_rfl)
theorem A77:W F36 0 [a]=
 calls (W F37 0 [a]) 1 λb=>
 calls (W F38 0 [b]) 1 λc=>
 (aC c).bind λd=>
 W F36 1 [d,(.int 0),(.int 0),(.int 0),(.str ⟨#[]⟩),c,(.int 5),(.int 0),(.str ⟨#[]⟩),(.list [])]:=Aq rfl (by kernel_rfl)
theorem Bbo:W F36 1 [a,b,c,d,e,g,h,i,j,k]=
 (aF b a).bind λl=>
 cnd l (
 (aB g b).bind λm=>
 (aD .i64 b (.int 1)).bind λn=>
 (aC g).bind λo=>
 (aE n o).bind λp=>
 (cnd p (some (.bool true)) (
 (aD .i64 b (.int 1)).bind λq=>
 (aB g q).bind λr=>
 (aA 0 r).bind λs=>
 (aA 0 m).bind λt=>
 (aT s t).bind λu=>
 some u)).bind λq=>
 cnd q (
 (aN [m]).bind λr=>
 (aH 96 k r).bind λs=>
 W F36 2 [a,b,c,d,e,g,h,i,j,s]) (
 W F36 2 [a,b,c,d,e,g,h,i,j,k])) (
 (aJ [h,i,j,(.list []),k]).bind λm=>
 calls (W F48 0 [m]) 5 λn o p q r=>
 some [n,o,p,q,r]):=Aq rfl (by kernel_rfl)
theorem Af3:W F36 2 [a,b,c,d,e,g,h,i,j,k]=
 (aD .i64 b (.int 1)).bind λl=>
 W F36 1 [a,l,c,d,e,g,h,i,j,k]:=Aq rfl (by kernel_rfl)
theorem A4r (xs:List IV):W F37 0 xs=aZ xs:=Ahs _ _ _ _
theorem A31:W F41 0 [a,b]=
 (aA 0 a).bind λc=>
 (aA 0 b).bind λd=>
 calls (W F42 0 [c,d]) 1 λe=>
 some [e]:=Aq rfl (by kernel_rfl)
theorem Aq2:W F42 0 [a,b]=
 calls (W F43 0 [a,b]) 1 λc=>
 some [c]:=Aq rfl (by kernel_rfl)
theorem Aqe:W F43 0 [a,b]=
 calls (W F44 0 [a,b]) 1 λc=>
 some [c]:=Aq rfl (by kernel_rfl)
theorem A91 (xs:List IV):W F44 0 xs=O.Nw xs:=Ahs _ _ _ _
theorem A7n:W F48 0 [a]=
 (aA 3 a).bind λb=>
 calls (W F49 0 [b]) 1 λc=>
 (aA 0 a).bind λd=>
 (aA 1 a).bind λe=>
 (aA 2 a).bind λg=>
 (aA 4 a).bind λh=>
 (aC c).bind λi=>
 W F48 1 [i,(.int 0),d,e,g,h,(.int 0),(.int 0),(.str ⟨#[]⟩),c]:=Aq rfl (by kernel_rfl)
theorem Arp:W F48 1 [a,b,c,d,e,g,h,i,j,k]=
 (aF b a).bind λl=>
 cnd l (
 (aB k b).bind λm=>
 calls (W F48 0 [m]) 5 λn o p q r=>
 (aJ [n,o,p,q,r]).bind λs=>
 (aW 0 5 true true k b s).bind λt=>
 (aD .i64 b (.int 1)).bind λu=>
 W F48 1 [a,u,c,d,e,g,h,i,j,t]) (
 calls (W F37 0 [g]) 1 λm=>
 (aC m).bind λn=>
 W F48 2 [n,(.int 0),c,d,e,h,i,j,m,k]):=Aq rfl (by kernel_rfl)
theorem Aui:W F48 2 [a,b,c,d,e,g,h,i,j,k]=
 (aF b a).bind λl=>
 cnd l (
 (aB j b).bind λm=>
 (aI 1 5 m).bind λn=>
 calls (W F48 0 [n]) 5 λo p q r s=>
 (aJ [o,p,q,r,s]).bind λt=>
 (aW 1 5 true false j b t).bind λu=>
 (aD .i64 b (.int 1)).bind λv=>
 W F48 2 [a,v,c,d,e,g,h,i,u,k]) (
 some [c,d,e,k,j]):=Aq rfl (by kernel_rfl)
theorem Bab (xs:List IV):W F49 0 xs=aZ xs:=Ahs _ _ _ _
theorem A8l:W F50 0 [a,b]=
 calls (W F51 0 [(.list []),a,b,(.list [])]) 1 λc=>
 some [c]:=Aq rfl (by kernel_rfl)
theorem A46:W F51 0 [a,b,c,d]=
 (aA 0 c).bind λe=>
 (aA 0 b).bind λg=>
 (aK e g).bind λh=>
 cnd h (
 calls (W F52 0 [a,d,(.int 6)]) 1 λi=>
 some [i]) (
 (aE e (.int 2)).bind λi=>
 cnd i (
 (aA 1 c).bind λj=>
 (aA 1 b).bind λk=>
 (aF j k).bind λl=>
 (cnd l (some (.bool true)) (
 (aA 2 b).bind λm=>
 (aL j m).bind λn=>
 some n)).bind λm=>
 cnd m (
 calls (W F52 0 [a,d,(.int 5)]) 1 λn=>
 some [n]) (
 some [a])) (
 (aE e (.int 3)).bind λj=>
 cnd j (
 (aA 2 c).bind λk=>
 (aU k).bind λl=>
 (aA 1 b).bind λm=>
 (aF l m).bind λn=>
 (cnd n (some (.bool true)) (
 (aA 2 b).bind λo=>
 (aL l o).bind λp=>
 some p)).bind λo=>
 cnd o (
 calls (W F52 0 [a,d,(.int 5)]) 1 λp=>
 some [p]) (
 (aA 3 b).bind λp=>
 (aC p).bind λq=>
 (aL q (.int 0)).bind λr=>
 (cnd r (
 calls (W F70 0 [p,k]) 1 λs=>
 (aG s).bind λt=>
 some t) (some (.bool false))).bind λs=>
 cnd s (
 calls (W F52 0 [a,d,(.int 1)]) 1 λt=>
 some [t]) (
 some [a]))) (
 (aE e (.int 4)).bind λk=>
 cnd k (
 calls (W F72 0 [a,b,c,d]) 1 λl=>
 some [l]) (
 calls (W F79 0 [b]) 1 λl=>
 cnd l (
 (aA 4 c).bind λm=>
 (aC m).bind λn=>
 W F51 1 [d,m,n,(.int 0),b,a]) (
 (aE e (.int 5)).bind λm=>
 cnd m (
 calls (W F80 0 [a,b,c,d]) 1 λn=>
 some [n]) (
 some [a])))))):=Aq rfl (by kernel_rfl)
theorem Atl:W F51 1 [a,b,c,d,e,g]=
 (aF d c).bind λh=>
 cnd h (
 (aB b d).bind λi=>
 (aA 1 i).bind λj=>
 (aK j (.int 0)).bind λk=>
 cnd k (
 (aA 5 e).bind λl=>
 (aB l (.int 0)).bind λm=>
 (aI 1 5 i).bind λn=>
 (aA 0 i).bind λo=>
 calls (W F81 0 [o]) 1 λp=>
 calls (W F76 0 [a,p]) 1 λq=>
 calls (W F51 0 [g,m,n,q]) 1 λr=>
 W F51 2 [a,b,c,d,e,r]) (
 W F51 2 [a,b,c,d,e,g])) (
 some [g]):=Aq rfl (by kernel_rfl)
theorem A8o:W F51 2 [a,b,c,d,e,g]=
 (aD .i64 d (.int 1)).bind λh=>
 W F51 1 [a,b,c,h,e,g]:=Aq rfl (by kernel_rfl)
theorem A59:W F52 0 [a,b,c]=
 calls (W F53 0 [b]) 2 λd e=>
 (aJ [d,c]).bind λg=>
 (aN [g]).bind λh=>
 (aH 24 a h).bind λi=>
 some [i]:=Aq rfl (by kernel_rfl)
theorem A66:W F53 0 [a]=
 calls (W F54 0 [a]) 1 λb=>
 (aG b).bind λc=>
 cnd c (
 some [(.str ⟨#[]⟩),(.int 1)]) (
 (aC a).bind λd=>
 W F53 1 [a,d,(.int 0),(.list [])]):=Aq rfl (by kernel_rfl)
theorem Auq:W F53 1 [a,b,c,d]=
 (aF c b).bind λe=>
 cnd e (
 (aB a c).bind λg=>
 (aA 0 g).bind λh=>
 (aE h (.int 1)).bind λi=>
 cnd i (
 (aL c (.int 0)).bind λj=>
 cnd j (
 calls (W F61 0 [d,(.int 46)]) 1 λk=>
 W F53 2 [a,b,c,g,k]) (
 W F53 2 [a,b,c,g,d])) (
 (aE h (.int 2)).bind λj=>
 cnd j (
 (aA 2 g).bind λk=>
 calls (W F63 0 [k]) 1 λl=>
 (aR (.str ⟨#[91]⟩) l).bind λm=>
 (aR m (.str ⟨#[93]⟩)).bind λn=>
 calls (W F64 0 [d,n]) 2 λo p=>
 W F53 3 [a,b,c,p]) (
 (aE h (.int 3)).bind λk=>
 cnd k (
 (aA 1 g).bind λl=>
 (aR (.str ⟨#[91]⟩) l).bind λm=>
 (aR m (.str ⟨#[61]⟩)).bind λn=>
 (aA 3 g).bind λo=>
 calls (W F65 0 [o]) 1 λp=>
 (aR n p).bind λq=>
 (aR q (.str ⟨#[93]⟩)).bind λr=>
 calls (W F64 0 [d,r]) 2 λs t=>
 W F53 3 [a,b,c,t]) (
 W F53 3 [a,b,c,d])))) (
 calls (W F66 0 [d]) 1 λg=>
 some [g,(.int 0)]):=Aq rfl (by kernel_rfl)
theorem Ar5:W F53 2 [a,b,c,d,e]=
 (aA 1 d).bind λg=>
 calls (W F64 0 [e,g]) 2 λh i=>
 W F53 3 [a,b,c,i]:=Aq rfl (by kernel_rfl)
theorem A5c:W F53 3 [a,b,c,d]=
 (aD .i64 c (.int 1)).bind λe=>
 W F53 1 [a,b,e,d]:=Aq rfl (by kernel_rfl)
theorem A6o:W F54 0 [a]=
 (aC a).bind λb=>
 (aO b (.int 16)).bind λc=>
 (cnd c (
 calls (W F55 0 [a]) 1 λd=>
 (aG d).bind λe=>
 some e) (some (.bool false))).bind λd=>
 some [d]:=Aq rfl (by kernel_rfl)
theorem A79:W F55 0 [a]=
 calls (W F56 0 [a]) 1 λb=>
 (aS b (.int 0)).bind λc=>
 some [c]:=Aq rfl (by kernel_rfl)
theorem A6f:W F56 0 [a]=
 (aC a).bind λb=>
 W F56 1 [a,b,(.int 0)]:=Aq rfl (by kernel_rfl)
theorem Apn:W F56 1 [a,b,c]=
 (aF c b).bind λd=>
 cnd d (
 (aB a c).bind λe=>
 calls (W F57 0 [e]) 1 λg=>
 cnd g (
 some [c]) (
 (aD .i64 c (.int 1)).bind λh=>
 W F56 1 [a,b,h])) (
 some [(.int (-1))]):=Aq rfl (by kernel_rfl)
theorem A7j:W F57 0 [a]=
 calls (W F58 0 [a]) 1 λb=>
 (aG b).bind λc=>
 some [c]:=Aq rfl (by kernel_rfl)
theorem A7l:W F58 0 [a]=
 (aA 0 a).bind λb=>
 (aE b (.int 1)).bind λc=>
 cnd c (
 (aA 1 a).bind λd=>
 calls (W F59 0 [d]) 1 λe=>
 (cnd e (
 (aA 2 a).bind λg=>
 (aE g (.int 0)).bind λh=>
 some h) (some (.bool false))).bind λg=>
 (cnd g (
 (aA 3 a).bind λh=>
 (aM h (.str ⟨#[]⟩)).bind λi=>
 some i) (some (.bool false))).bind λh=>
 some [h]) (
 (aE b (.int 2)).bind λd=>
 cnd d (
 (aA 2 a).bind λe=>
 (aS e (.int 0)).bind λg=>
 (cnd g (
 (aO e (.int 64)).bind λh=>
 some h) (some (.bool false))).bind λh=>
 (cnd h (
 (aA 1 a).bind λi=>
 (aM i (.str ⟨#[]⟩)).bind λj=>
 some j) (some (.bool false))).bind λi=>
 (cnd i (
 (aA 3 a).bind λj=>
 (aM j (.str ⟨#[]⟩)).bind λk=>
 some k) (some (.bool false))).bind λj=>
 some [j]) (
 (aE b (.int 3)).bind λe=>
 cnd e (
 (aA 1 a).bind λg=>
 calls (W F59 0 [g]) 1 λh=>
 (cnd h (
 (aA 2 a).bind λi=>
 (aE i (.int 0)).bind λj=>
 some j) (some (.bool false))).bind λi=>
 (cnd i (
 (aA 3 a).bind λj=>
 calls (W F20 0 [j]) 5 λk l m n o=>
 (aJ [k,l,m,n,o]).bind λp=>
 calls (W F21 0 [p]) 1 λq=>
 some q) (some (.bool false))).bind λj=>
 some [j]) (
 some [(.bool false)]))):=Aq rfl (by kernel_rfl)
theorem A8b:W F59 0 [a]=
 W F59 1 [a,a,(.int 0)]:=Aq rfl (by kernel_rfl)
theorem Apq:W F59 1 [a,b,c]=
 (O.M0 b c).bind λd=>
 (O.M4 b c).bind λe=>
 (O.Ht b c).bind λg=>
 cnd d (
 (bB d).bind λh=>
 calls (W F60 0 [e]) 1 λi=>
 (aG i).bind λj=>
 cnd j (
 some [(.bool false)]) (
 W F59 1 [a,b,g])) (
 (aT a (.str ⟨#[]⟩)).bind λh=>
 (cnd h (
 (aU a).bind λi=>
 (aO i (.int 40)).bind λj=>
 some j) (some (.bool false))).bind λi=>
 some [i]):=Aq rfl (by kernel_rfl)
theorem A69:W F60 0 [a]=
 (aS a (.int 97)).bind λb=>
 (cnd b (
 (aO a (.int 122)).bind λc=>
 some c) (some (.bool false))).bind λc=>
 (cnd c (some (.bool true)) (
 (aS a (.int 65)).bind λd=>
 (cnd d (
 (aO a (.int 90)).bind λe=>
 some e) (some (.bool false))).bind λe=>
 some e)).bind λd=>
 (cnd d (some (.bool true)) (
 (aS a (.int 48)).bind λe=>
 (cnd e (
 (aO a (.int 57)).bind λg=>
 some g) (some (.bool false))).bind λg=>
 some g)).bind λe=>
 (cnd e (some (.bool true)) (
 (aE a (.int 45)).bind λg=>
 some g)).bind λg=>
 (cnd g (some (.bool true)) (
 (aE a (.int 95)).bind λh=>
 some h)).bind λh=>
 (cnd h (some (.bool true)) (
 (aE a (.int 47)).bind λi=>
 some i)).bind λi=>
 some [i]:=Aq rfl (by kernel_rfl)
theorem A49:W F61 0 [a,b]=
 calls (W F62 0 [a]) 1 λc=>
 (aN [b]).bind λd=>
 (aH 1 c d).bind λe=>
 some [e]:=Aq rfl (by kernel_rfl)
theorem A48 (xs:List IV):W F62 0 xs=O.Kk xs:=Ahs _ _ _ _
theorem Bd2 (xs:List IV):W F63 0 xs=O.An5 xs:=Ahs _ _ _ _
theorem A41:W F64 0 [a,b]=
 calls (W F62 0 [a]) 1 λc=>
 (O.Po c b).bind λd=>
 (aU b).bind λe=>
 some [e,d]:=Aq rfl (by kernel_rfl)
theorem A6s:W F65 0 [a]=
 calls (W F61 0 [(.list []),(.int 34)]) 1 λb=>
 W F65 1 [a,(.int 0),b]:=Aq rfl (by kernel_rfl)
theorem Ark:W F65 1 [a,b,c]=
 (O.M0 a b).bind λd=>
 (O.M4 a b).bind λe=>
 (O.Ht a b).bind λg=>
 cnd d (
 (bB d).bind λh=>
 (aE e (.int 34)).bind λi=>
 cnd i (
 W F65 2 [e,e,i,a,g,c]) (
 (aE e (.int 92)).bind λj=>
 W F65 2 [e,e,j,a,g,c])) (
 calls (W F61 0 [c,(.int 34)]) 1 λh=>
 calls (W F66 0 [h]) 1 λi=>
 some [i]):=Aq rfl (by kernel_rfl)
theorem Avb:W F65 2 [a,b,c,d,e,g]=
 cnd c (
 calls (W F61 0 [g,(.int 92)]) 1 λh=>
 calls (W F67 0 [h,a]) 2 λi j=>
 W F65 3 [d,e,j]) (
 (aE b (.int 10)).bind λh=>
 cnd h (
 calls (W F64 0 [g,(.str ⟨#[92,110]⟩)]) 2 λi j=>
 W F65 3 [d,e,j]) (
 calls (W F67 0 [g,a]) 2 λi j=>
 W F65 3 [d,e,j])):=Aq rfl (by kernel_rfl)
theorem A35:W F65 3 [a,b,c]=
 W F65 1 [a,b,c]:=Aq rfl (by kernel_rfl)
theorem A8q (xs:List IV):W F66 0 xs=O.R6 xs:=Ahs _ _ _ _
theorem A8s:W F67 0 [a,b]=
 calls (W F62 0 [a]) 1 λc=>
 (aC c).bind λd=>
 calls (W F68 0 [c,b]) 1 λe=>
 (aC e).bind λg=>
 (aQ .i64 g d).bind λh=>
 some [h,e]:=Aq rfl (by kernel_rfl)
theorem A51:W F68 0 [a,b]=
 (O.conv .u32 b).bind λc=>
 (aO c (.int 127)).bind λd=>
 cnd d (
 (O.conv .u8 b).bind λe=>
 (aN [e]).bind λg=>
 (aH 1 a g).bind λh=>
 some [h]) (
 calls (W F69 0 [a,b]) 1 λe=>
 some [e]):=Aq rfl (by kernel_rfl)
theorem A6w:W F70 0 [a,b]=
 calls (W F71 0 [a,b]) 1 λc=>
 (aS c (.int 0)).bind λd=>
 some [d]:=Aq rfl (by kernel_rfl)
theorem A71:W F71 0 [a,b]=
 (aC a).bind λc=>
 W F71 1 [a,b,c,(.int 0)]:=Aq rfl (by kernel_rfl)
theorem Aq6:W F71 1 [a,b,c,d]=
 (aF d c).bind λe=>
 cnd e (
 (aB a d).bind λg=>
 (aM b g).bind λh=>
 cnd h (
 some [d]) (
 (aD .i64 d (.int 1)).bind λi=>
 W F71 1 [a,b,c,i])) (
 some [(.int (-1))]):=Aq rfl (by kernel_rfl)
theorem A8h:W F72 0 [a,b,c,d]=
 (aA 3 c).bind λe=>
 (aC e).bind λg=>
 (aA 1 b).bind λh=>
 (aF g h).bind λi=>
 (cnd i (some (.bool true)) (
 (aA 2 b).bind λj=>
 (aL g j).bind λk=>
 some k)).bind λj=>
 cnd j (
 calls (W F52 0 [a,d,(.int 5)]) 1 λk=>
 W F72 1 [d,b,c,k]) (
 W F72 1 [d,b,c,a]):=Aq rfl (by kernel_rfl)
theorem A5i:W F72 1 [a,b,c,d]=
 (aA 3 c).bind λe=>
 (aC e).bind λg=>
 W F72 2 [a,e,g,(.int 0),b,(.list []),d]:=Aq rfl (by kernel_rfl)
theorem Asf:W F72 2 [a,b,c,d,e,g,h]=
 (aF d c).bind λi=>
 cnd i (
 (aB b d).bind λj=>
 calls (W F73 0 [e,d,j]) 1 λk=>
 calls (W F76 0 [a,k]) 1 λl=>
 (aA 5 e).bind λm=>
 (aB m (.int 0)).bind λn=>
 calls (W F51 0 [h,n,j,l]) 1 λo=>
 (aA 4 e).bind λp=>
 calls (W F74 0 [j,p]) 2 λq r=>
 (cnd r (
 (aT p (.str ⟨#[]⟩)).bind λs=>
 some s) (some (.bool false))).bind λs=>
 cnd s (
 (O.Anx (.bool false) g q).bind λt=>
 (O.Air g q).bind λu=>
 cnd t (
 calls (W F52 0 [o,l,(.int 8)]) 1 λv=>
 W F72 3 [a,q,b,c,d,e,g,v]) (
 W F72 3 [a,q,b,c,d,e,g,o])) (
 W F72 4 [a,b,c,d,e,g,o])) (
 some [h]):=Aq rfl (by kernel_rfl)
theorem Aq7:W F72 3 [a,b,c,d,e,g,h,i]=
 (O.Anu h b (.bool true)).bind λj=>
 W F72 4 [a,c,d,e,g,j,i]:=Aq rfl (by kernel_rfl)
theorem A58:W F72 4 [a,b,c,d,e,g,h]=
 (aD .i64 d (.int 1)).bind λi=>
 W F72 2 [a,b,c,i,e,g,h]:=Aq rfl (by kernel_rfl)
theorem A61:W F73 0 [a,b,c]=
 (aA 4 a).bind λd=>
 calls (W F74 0 [c,d]) 2 λe g=>
 (cnd g (
 (aT d (.str ⟨#[]⟩)).bind λh=>
 some h) (some (.bool false))).bind λh=>
 cnd h (
 (aJ [(.int 3),d,(.int 0),e]).bind λi=>
 some [i]) (
 (aJ [(.int 2),(.str ⟨#[]⟩),b,(.str ⟨#[]⟩)]).bind λi=>
 some [i]):=Aq rfl (by kernel_rfl)
theorem A76:W F74 0 [a,b]=
 calls (W F75 0 [a,b]) 6 λc d e g h i=>
 (cnd i (
 (aE c (.int 3)).bind λj=>
 some j) (some (.bool false))).bind λj=>
 some [e,j]:=Aq rfl (by kernel_rfl)
theorem A8p:W F75 0 [a,b]=
 (aA 0 a).bind λc=>
 (aE c (.int 5)).bind λd=>
 cnd d (
 (aA 4 a).bind λe=>
 (aC e).bind λg=>
 W F75 1 [b,e,g,(.int 0),(.int 0),(.int 0),(.str ⟨#[]⟩)]) (
 some [(.int 0),(.int 0),(.str ⟨#[]⟩),(.list []),(.list []),(.bool false)]):=Aq rfl (by kernel_rfl)
theorem Aur:W F75 1 [a,b,c,d,e,g,h]=
 (aF d c).bind λi=>
 cnd i (
 (aB b d).bind λj=>
 (aA 0 j).bind λk=>
 (aM k a).bind λl=>
 cnd l (
 (aI 1 5 j).bind λm=>
 calls (W F48 0 [m]) 5 λn o p q r=>
 some [n,o,p,q,r,(.bool true)]) (
 (aD .i64 d (.int 1)).bind λm=>
 W F75 1 [a,b,c,m,e,g,h])) (
 some [(.int 0),(.int 0),(.str ⟨#[]⟩),(.list []),(.list []),(.bool false)]):=Aq rfl (by kernel_rfl)
theorem A47:W F76 0 [a,b]=
 calls (W F77 0 [a]) 1 λc=>
 calls (W F78 0 [c]) 1 λd=>
 (aN [b]).bind λe=>
 (O.Ro 48 d e).bind λg=>
 some [g]:=Aq rfl (by kernel_rfl)
theorem A9l (xs:List IV):W F77 0 xs=aZ xs:=Ahs _ _ _ _
theorem Bdn (xs:List IV):W F78 0 xs=O.Att xs:=Ahs _ _ _ _
theorem A4d:W F79 0 [a]=
 (aA 0 a).bind λb=>
 (aE b (.int 5)).bind λc=>
 (cnd c (
 (aA 5 a).bind λd=>
 (aC d).bind λe=>
 (aL e (.int 0)).bind λg=>
 some g) (some (.bool false))).bind λd=>
 some [d]:=Aq rfl (by kernel_rfl)
theorem A5m:W F80 0 [a,b,c,d]=
 (aA 4 c).bind λe=>
 (aC e).bind λg=>
 W F80 1 [d,e,g,(.int 0),b,c,a]:=Aq rfl (by kernel_rfl)
theorem Arb:W F80 1 [a,b,c,d,e,g,h]=
 (aF d c).bind λi=>
 cnd i (
 (aB b d).bind λj=>
 (aA 0 j).bind λk=>
 calls (W F81 0 [k]) 1 λl=>
 calls (W F76 0 [a,l]) 1 λm=>
 calls (W F28 0 [e,k]) 2 λn o=>
 (aG o).bind λp=>
 cnd p (
 calls (W F52 0 [h,m,(.int 1)]) 1 λq=>
 W F80 2 [a,b,c,d,e,g,q]) (
 (aA 1 j).bind λq=>
 (aK q (.int 0)).bind λr=>
 cnd r (
 (aI 4 7 n).bind λs=>
 (aI 1 5 j).bind λt=>
 calls (W F51 0 [h,s,t,m]) 1 λu=>
 W F80 2 [a,b,c,d,e,g,u]) (
 W F80 2 [a,b,c,d,e,g,h]))) (
 (aA 6 e).bind λj=>
 (aC j).bind λk=>
 W F80 3 [a,j,k,(.int 0),g,h]):=Aq rfl (by kernel_rfl)
theorem A38:W F80 2 [a,b,c,d,e,g,h]=
 (aD .i64 d (.int 1)).bind λi=>
 W F80 1 [a,b,c,i,e,g,h]:=Aq rfl (by kernel_rfl)
theorem Aq9:W F80 3 [a,b,c,d,e,g]=
 (aF d c).bind λh=>
 cnd h (
 (aB b d).bind λi=>
 (aA 0 i).bind λj=>
 calls (W F82 0 [e,j]) 6 λk l m n o p=>
 (aA 1 i).bind λq=>
 (cnd q (
 (aG p).bind λr=>
 some r) (some (.bool false))).bind λr=>
 cnd r (
 calls (W F81 0 [j]) 1 λs=>
 calls (W F76 0 [a,s]) 1 λt=>
 calls (W F52 0 [g,t,(.int 7)]) 1 λu=>
 W F80 4 [a,b,c,d,e,u]) (
 W F80 4 [a,b,c,d,e,g])) (
 some [g]):=Aq rfl (by kernel_rfl)
theorem A45:W F80 4 [a,b,c,d,e,g]=
 (aD .i64 d (.int 1)).bind λh=>
 W F80 3 [a,b,c,h,e,g]:=Aq rfl (by kernel_rfl)
theorem A7h:W F81 0 [a]=
 (aJ [(.int 1),a,(.int 0),(.str ⟨#[]⟩)]).bind λb=>
 some [b]:=Aq rfl (by kernel_rfl)
theorem A8u:W F82 0 [a,b]=
 calls (W F75 0 [a,b]) 6 λc d e g h i=>
 (cnd i (
 (aK c (.int 0)).bind λj=>
 some j) (some (.bool false))).bind λj=>
 some [c,d,e,g,h,j]:=Aq rfl (by kernel_rfl)
theorem A8e:W F83 0 [a]=
 (aC a).bind λb=>
 W F83 1 [a,a,b,(.int 0),(.list [])]:=Aq rfl (by kernel_rfl)
theorem Apu:W F83 1 [a,b,c,d,e]=
 (aF d c).bind λg=>
 cnd g (
 (aB b d).bind λh=>
 (aA 0 h).bind λi=>
 calls (W F84 0 [i]) 1 λj=>
 (aG j).bind λk=>
 (cnd k (some (.bool true)) (
 (aA 1 h).bind λl=>
 (aC l).bind λm=>
 (aE m (.int 0)).bind λn=>
 some n)).bind λl=>
 (cnd l (some (.bool true)) (
 (aA 1 h).bind λm=>
 calls (W F85 0 [m]) 1 λn=>
 (aG n).bind λo=>
 some o)).bind λm=>
 cnd m (
 some [(.bool false)]) (
 (aN [i]).bind λn=>
 (aH 16 e n).bind λo=>
 (aD .i64 d (.int 1)).bind λp=>
 W F83 1 [a,b,c,p,o])) (
 (aC a).bind λh=>
 (aO h (.int 16)).bind λi=>
 (cnd i (
 calls (W F85 0 [e]) 1 λj=>
 some j) (some (.bool false))).bind λj=>
 some [j]):=Aq rfl (by kernel_rfl)
theorem A34:W F84 0 [a]=
 (aU a).bind λb=>
 (aS b (.int 1)).bind λc=>
 (cnd c (
 (aO b (.int 40)).bind λd=>
 some d) (some (.bool false))).bind λd=>
 some [d]:=Aq rfl (by kernel_rfl)
theorem A60:W F85 0 [a]=
 W F85 1 [a,(.int 1)]:=Aq rfl (by kernel_rfl)
theorem Ahq:W F85 1 [a,b]=
 (aC a).bind λc=>
 (aF b c).bind λd=>
 cnd d (
 (aQ .i64 b (.int 1)).bind λe=>
 (aB a e).bind λg=>
 (aB a b).bind λh=>
 (aY g h).bind λi=>
 cnd i (
 some [(.bool false)]) (
 (aD .i64 b (.int 1)).bind λj=>
 W F85 1 [a,j])) (
 some [(.bool true)]):=Aq rfl (by kernel_rfl)
theorem A53:W F86 0 [a,b]=
 calls (W F87 0 [a,b]) 1 λc=>
 (aC c).bind λd=>
 W F86 1 [d,(.int 0),a,b,c]:=Aq rfl (by kernel_rfl)
theorem Aan:W F86 1 [a,b,c,d,e]=
 (aF b a).bind λg=>
 cnd g (
 (aB e b).bind λh=>
 (aA 1 h).bind λi=>
 (aK i (.int 7)).bind λj=>
 cnd j (
 some [(.bool false)]) (
 (aD .i64 b (.int 1)).bind λk=>
 W F86 1 [a,k,c,d,e])) (
 (aA 0 d).bind λh=>
 (aE h (.int 5)).bind λi=>
 (cnd i (
 calls (W F88 0 [c,d]) 1 λj=>
 some j) (some (.bool false))).bind λj=>
 some [j]):=Aq rfl (by kernel_rfl)
theorem A6z:W F87 0 [a,b]=
 calls (W F16 0 [a]) 1 λc=>
 (aG c).bind λd=>
 (cnd d (some (.bool true)) (
 calls (W F21 0 [b]) 1 λe=>
 (aG e).bind λg=>
 some g)).bind λe=>
 cnd e (
 (aJ [(.str ⟨#[]⟩),(.int 1)]).bind λg=>
 (aN [g]).bind λh=>
 some [h]) (
 calls (W F50 0 [a,b]) 1 λg=>
 some [g]):=Aq rfl (by kernel_rfl)
theorem A73:W F88 0 [a,b]=
 (aA 0 a).bind λc=>
 (aA 0 b).bind λd=>
 (aK c d).bind λe=>
 cnd e (
 some [(.bool true)]) (
 (aA 3 b).bind λg=>
 (aC g).bind λh=>
 W F88 1 [g,h,(.int 0),a,b]):=Aq rfl (by kernel_rfl)
theorem Asn:W F88 1 [a,b,c,d,e]=
 (aF c b).bind λg=>
 cnd g (
 (aB a c).bind λh=>
 calls (W F89 0 [d,h]) 2 λi j=>
 calls (W F90 0 [d]) 1 λk=>
 (cnd k (
 (aG j).bind λl=>
 some l) (some (.bool false))).bind λl=>
 cnd l (
 some [(.bool false)]) (
 (aA 5 d).bind λm=>
 (aC m).bind λn=>
 (aE n (.int 1)).bind λo=>
 (cnd o (
 (aB m (.int 0)).bind λp=>
 calls (W F88 0 [p,h]) 1 λq=>
 (aG q).bind λr=>
 some r) (some (.bool false))).bind λp=>
 cnd p (
 some [(.bool false)]) (
 (aD .i64 c (.int 1)).bind λq=>
 W F88 1 [a,b,q,d,e]))) (
 (aA 4 e).bind λh=>
 (aC h).bind λi=>
 W F88 2 [h,i,(.int 0),d]):=Aq rfl (by kernel_rfl)
theorem Arf:W F88 2 [a,b,c,d]=
 (aF c b).bind λe=>
 cnd e (
 (aB a c).bind λg=>
 (aA 0 g).bind λh=>
 calls (W F91 0 [d,h]) 2 λi j=>
 (cnd j (
 (aI 1 5 g).bind λk=>
 calls (W F88 0 [i,k]) 1 λl=>
 (aG l).bind λm=>
 some m) (some (.bool false))).bind λk=>
 cnd k (
 some [(.bool false)]) (
 (aD .i64 c (.int 1)).bind λl=>
 W F88 2 [a,b,l,d])) (
 some [(.bool true)]):=Aq rfl (by kernel_rfl)
theorem A4l:W F89 0 [a,b]=
 (aA 4 a).bind λc=>
 calls (W F75 0 [b,c]) 6 λd e g h i j=>
 (cnd j (
 (aE d (.int 3)).bind λk=>
 some k) (some (.bool false))).bind λk=>
 some [g,k]:=Aq rfl (by kernel_rfl)
theorem A4b:W F90 0 [a]=
 (aA 0 a).bind λb=>
 (aE b (.int 4)).bind λc=>
 (cnd c (
 (aA 4 a).bind λd=>
 (aT d (.str ⟨#[]⟩)).bind λe=>
 some e) (some (.bool false))).bind λd=>
 some [d]:=Aq rfl (by kernel_rfl)
theorem A54:W F91 0 [a,b]=
 (aA 5 a).bind λc=>
 (aC c).bind λd=>
 (aE d (.int 1)).bind λe=>
 cnd e (
 (aB c (.int 0)).bind λg=>
 some [g,(.bool true)]) (
 (aA 6 a).bind λg=>
 (aC g).bind λh=>
 W F91 1 [b,g,h,(.int 0),(.int 0),(.int 0),(.int 0),(.str ⟨#[]⟩)]):=Aq rfl (by kernel_rfl)
theorem Auv:W F91 1 [a,b,c,d,e,g,h,i]=
 (aF d c).bind λj=>
 cnd j (
 (aB b d).bind λk=>
 (aA 0 k).bind λl=>
 (aM l a).bind λm=>
 cnd m (
 (aI 4 7 k).bind λn=>
 some [n,(.bool true)]) (
 (aD .i64 d (.int 1)).bind λn=>
 W F91 1 [a,b,c,n,e,g,h,i])) (
 (aJ [(.int 0),(.int 0),(.int 0),(.list []),(.str ⟨#[]⟩),(.list []),(.list [])]).bind λk=>
 some [k,(.bool false)]):=Aq rfl (by kernel_rfl)
theorem A74:W F92 0 [a,b]=
 (aA 0 b).bind λc=>
 (aA 0 a).bind λd=>
 (aK c d).bind λe=>
 (cnd e (some (.bool true)) (
 (aK c (.int 5)).bind λg=>
 (cnd g (
 (aK c (.int 4)).bind λh=>
 some h) (some (.bool false))).bind λh=>
 some h)).bind λg=>
 cnd g (
 calls (W F93 0 [b]) 1 λh=>
 some [h]) (
 (aE c (.int 4)).bind λh=>
 cnd h (
 calls (W F95 0 [a,b]) 1 λi=>
 some [i]) (
 (aA 4 b).bind λi=>
 (aC i).bind λj=>
 W F92 1 [i,j,(.int 0),a,(.int 0),(.int 0),(.str ⟨#[]⟩),(.list [])])):=Aq rfl (by kernel_rfl)
theorem Asq:W F92 1 [a,b,c,d,e,g,h,i]=
 (aF c b).bind λj=>
 cnd j (
 (aB a c).bind λk=>
 (aA 0 k).bind λl=>
 calls (W F96 0 [d,l]) 2 λm n=>
 (cnd n (
 (aA 1 k).bind λo=>
 (aK o (.int 0)).bind λp=>
 some p) (some (.bool false))).bind λo=>
 cnd o (
 (aI 1 5 k).bind λp=>
 calls (W F92 0 [m,p]) 1 λq=>
 (aA 0 q).bind λr=>
 (aA 1 q).bind λs=>
 (aA 2 q).bind λt=>
 (aA 3 q).bind λu=>
 (aA 4 q).bind λv=>
 (aJ [l,r,s,t,u,v]).bind λx=>
 (aN [x]).bind λy=>
 (aH 96 i y).bind λz=>
 W F92 2 [a,b,c,d,e,g,h,z]) (
 W F92 2 [a,b,c,d,e,g,h,i])) (
 calls (W F36 0 [i]) 5 λk l m n o=>
 (aJ [k,l,m,n,o]).bind λp=>
 some [p]):=Aq rfl (by kernel_rfl)
theorem A62:W F92 2 [a,b,c,d,e,g,h,i]=
 (aD .i64 c (.int 1)).bind λj=>
 W F92 1 [a,b,j,d,e,g,h,i]:=Aq rfl (by kernel_rfl)
theorem A6d:W F93 0 [a]=
 (aN [a]).bind λb=>
 calls (W F94 0 [b]) 5 λc d e g h=>
 (aB g (.int 0)).bind λi=>
 some [i]:=Aq rfl (by kernel_rfl)
theorem A75:W F94 0 [a]=
 (aJ [(.int 4),(.int 0),(.str ⟨#[]⟩),a,(.list [])]).bind λb=>
 calls (W F48 0 [b]) 5 λc d e g h=>
 some [c,d,e,g,h]:=Aq rfl (by kernel_rfl)
theorem A7x:W F95 0 [a,b]=
 (aA 5 a).bind λc=>
 (aC c).bind λd=>
 (aK d (.int 1)).bind λe=>
 cnd e (
 calls (W F93 0 [b]) 1 λg=>
 some [g]) (
 (aA 3 b).bind λg=>
 (aC g).bind λh=>
 W F95 1 [g,h,(.int 0),a,(.int 0),(.int 0),(.str ⟨#[]⟩),(.list [])]):=Aq rfl (by kernel_rfl)
theorem Aqi:W F95 1 [a,b,c,d,e,g,h,i]=
 (aF c b).bind λj=>
 cnd j (
 (aB a c).bind λk=>
 (aA 5 d).bind λl=>
 (aB l (.int 0)).bind λm=>
 calls (W F92 0 [m,k]) 1 λn=>
 (aN [n]).bind λo=>
 (aH 80 i o).bind λp=>
 (aD .i64 c (.int 1)).bind λq=>
 W F95 1 [a,b,q,d,e,g,h,p]) (
 calls (W F94 0 [i]) 5 λk l m n o=>
 (aJ [k,l,m,n,o]).bind λp=>
 some [p]):=Aq rfl (by kernel_rfl)
theorem A7m:W F96 0 [a,b]=
 (aA 5 a).bind λc=>
 (aC c).bind λd=>
 (aE d (.int 1)).bind λe=>
 cnd e (
 (aB c (.int 0)).bind λg=>
 some [g,(.bool true)]) (
 (aA 6 a).bind λg=>
 (aC g).bind λh=>
 W F96 1 [b,g,h,(.int 0),(.int 0),(.int 0),(.int 0),(.str ⟨#[]⟩)]):=Aq rfl (by kernel_rfl)
theorem Ar1:W F96 1 [a,b,c,d,e,g,h,i]=
 (aF d c).bind λj=>
 cnd j (
 (aB b d).bind λk=>
 (aA 0 k).bind λl=>
 (aM l a).bind λm=>
 cnd m (
 (aI 4 7 k).bind λn=>
 some [n,(.bool true)]) (
 (aD .i64 d (.int 1)).bind λn=>
 W F96 1 [a,b,c,n,e,g,h,i])) (
 (aJ [(.int 0),(.int 0),(.int 0),(.list []),(.str ⟨#[]⟩),(.list []),(.list [])]).bind λk=>
 some [k,(.bool false)]):=Aq rfl (by kernel_rfl)
theorem A7f:W F97 0 [a,b]=
 calls (W F98 0 [a,b]) 1 λc=>
 (aN [(.str ⟨#[]⟩)]).bind λd=>
 calls (W Aqd 0 [c,d]) 1 λe=>
 some [e]:=Aq rfl (by kernel_rfl)
theorem A5t:W F98 0 [a,b]=
 calls (W F99 0 [a,b]) 1 λc=>
 (aG c).bind λd=>
 cnd d (
 some [(.list [])]) (
 (aA 0 b).bind λe=>
 (aA 1 b).bind λg=>
 (aA 2 b).bind λh=>
 (aA 3 b).bind λi=>
 (aA 4 b).bind λj=>
 (aA 0 a).bind λk=>
 (aA 1 a).bind λl=>
 (aA 2 a).bind λm=>
 (aA 3 a).bind λn=>
 (aA 4 a).bind λo=>
 (aA 5 a).bind λp=>
 (aA 6 a).bind λq=>
 (aJ [(.int 0),(.str ⟨#[]⟩),(.int 0),(.str ⟨#[]⟩),e,g,h,i,j,k,l,m,n,o,p,q,(.bool true)]).bind λr=>
 calls (W Apg 0 [r,(.list []),(.list [])]) 1 λs=>
 calls (W Bax 0 [s]) 1 λt=>
 some [t]):=Aq rfl (by kernel_rfl)
theorem A55:W F99 0 [a,b]=
 calls (W F16 0 [a]) 1 λc=>
 (cnd c (
 calls (W F21 0 [b]) 1 λd=>
 some d) (some (.bool false))).bind λd=>
 some [d]:=Aq rfl (by kernel_rfl)
theorem Av2:W Apg 0 [a,b,c]=
 calls (W Bd0 0 [a]) 1 λd=>
 (aC d).bind λe=>
 (aE e (.int 0)).bind λg=>
 cnd g (
 calls (W F53 0 [b]) 2 λh i=>
 calls (W F106 0 [h,c]) 1 λj=>
 W Apg 1 [b,d,j]) (
 W Apg 1 [b,d,c]):=Aq rfl (by kernel_rfl)
theorem Aka:W Apg 1 [a,b,c]=
 (aC b).bind λd=>
 W Apg 2 [a,d,(.int 0),b,c]:=Aq rfl (by kernel_rfl)
theorem Ajm:W Apg 2 [a,b,c,d,e]=
 (aF c b).bind λg=>
 cnd g (
 (aB d c).bind λh=>
 (aI 0 4 h).bind λi=>
 calls (W Bcj 0 [a,i]) 1 λj=>
 calls (W Apg 0 [h,j,e]) 1 λk=>
 (aD .i64 c (.int 1)).bind λl=>
 W Apg 2 [a,b,l,d,k]) (
 some [e]):=Aq rfl (by kernel_rfl)
theorem A0a:W Bd0 0 [a]=
 (aA 16 a).bind λb=>
 (aG b).bind λc=>
 (cnd c (some (.bool true)) (
 (aA 9 a).bind λd=>
 (aA 4 a).bind λe=>
 (aK d e).bind λg=>
 some g)).bind λd=>
 cnd d (
 some [(.list [])]) (
 (aA 4 a).bind λe=>
 (aE e (.int 5)).bind λg=>
 cnd g (
 (aI 9 7 a).bind λh=>
 (aI 4 5 a).bind λi=>
 calls (W Ank 0 [h,i]) 1 λj=>
 some [j]) (
 (aE e (.int 4)).bind λh=>
 (cnd h (
 (aA 13 a).bind λi=>
 (aT i (.str ⟨#[]⟩)).bind λj=>
 some j) (some (.bool false))).bind λi=>
 cnd i (
 (aI 9 7 a).bind λj=>
 (aI 4 5 a).bind λk=>
 calls (W A65 0 [j,k]) 1 λl=>
 some [l]) (
 some [(.list [])]))):=Aq rfl (by kernel_rfl)
theorem Awd:W Ank 0 [a,b]=
 (aA 4 b).bind λc=>
 (aC c).bind λd=>
 W Ank 1 [c,d,(.int 0),a,(.list [])]:=Aq rfl (by kernel_rfl)
theorem A10:W Ank 1 [a,b,c,d,e]=
 (aF c b).bind λg=>
 cnd g (
 (aB a c).bind λh=>
 (aA 0 h).bind λi=>
 (aI 1 5 h).bind λj=>
 (aA 0 j).bind λk=>
 (aA 1 j).bind λl=>
 (aA 2 j).bind λm=>
 (aA 3 j).bind λn=>
 (aA 4 j).bind λo=>
 (aA 5 d).bind λp=>
 (aC p).bind λq=>
 (aL q (.int 0)).bind λr=>
 cnd r (
 (aB p (.int 0)).bind λs=>
 (aA 0 s).bind λt=>
 (aA 1 s).bind λu=>
 (aA 2 s).bind λv=>
 (aA 3 s).bind λx=>
 (aA 4 s).bind λy=>
 (aA 5 s).bind λz=>
 (aA 6 s).bind λaa=>
 W Ank 2 [a,b,c,d,e,(.int 1),i,(.int 0),(.str ⟨#[]⟩),k,l,m,n,o,t,u,v,x,y,z,aa,(.bool true)]) (
 (aA 6 d).bind λs=>
 calls (W A7c 0 [s,h]) 1 λt=>
 (aS t (.int 0)).bind λu=>
 cnd u (
 (aB s t).bind λv=>
 (aI 4 7 v).bind λx=>
 (aA 0 x).bind λy=>
 (aA 1 x).bind λz=>
 (aA 2 x).bind λaa=>
 (aA 3 x).bind λab=>
 (aA 4 x).bind λac=>
 (aA 5 x).bind λad=>
 (aA 6 x).bind λae=>
 W Ank 2 [a,b,c,d,e,(.int 1),i,(.int 0),(.str ⟨#[]⟩),k,l,m,n,o,y,z,aa,ab,ac,ad,ae,(.bool true)]) (
 W Ank 2 [a,b,c,d,e,(.int 1),i,(.int 0),(.str ⟨#[]⟩),k,l,m,n,o,(.int 0),(.int 0),(.int 0),(.list []),(.str ⟨#[]⟩),(.list []),(.list []),(.bool false)]))) (
 some [e]):=Aq rfl (by kernel_rfl)
theorem Ayb:W Ank 2 [a,b,c,d,e,g,h,i,j,k,l,m,n,o,p,q,r,s,t,u,v,x]=
 (aJ [g,h,i,j,k,l,m,n,o,p,q,r,s,t,u,v,x]).bind λy=>
 (aN [y]).bind λz=>
 (aH 248 e z).bind λaa=>
 (aD .i64 c (.int 1)).bind λab=>
 W Ank 1 [a,b,ab,d,aa]:=Aq rfl (by kernel_rfl)
theorem Aw6:W A7c 0 [a,b]=
 (aC a).bind λc=>
 W A7c 1 [a,b,c,(.int 0)]:=Aq rfl (by kernel_rfl)
theorem Aj5:W A7c 1 [a,b,c,d]=
 (aF d c).bind λe=>
 cnd e (
 (aB a d).bind λg=>
 calls (W F104 0 [g,b]) 1 λh=>
 cnd h (
 some [d]) (
 (aD .i64 d (.int 1)).bind λi=>
 W A7c 1 [a,b,c,i])) (
 some [(.int (-1))]):=Aq rfl (by kernel_rfl)
theorem Aye:W F104 0 [a,b]=
 (aA 0 a).bind λc=>
 (aA 0 b).bind λd=>
 (aM c d).bind λe=>
 some [e]:=Aq rfl (by kernel_rfl)
theorem Ayy:W A65 0 [a,b]=
 (aA 3 b).bind λc=>
 (aC c).bind λd=>
 W A65 1 [c,d,(.int 0),a,(.list []),(.list [])]:=Aq rfl (by kernel_rfl)
theorem Alp:W A65 1 [a,b,c,d,e,g]=
 (aF c b).bind λh=>
 cnd h (
 (aB a c).bind λi=>
 (aA 4 d).bind λj=>
 calls (W F75 0 [i,j]) 6 λk l m n o p=>
 (aG p).bind λq=>
 (cnd q (some (.bool true)) (
 (aK k (.int 3)).bind λr=>
 some r)).bind λr=>
 (cnd r (some (.bool true)) (
 (O.Anx (.bool false) g m).bind λs=>
 (O.Air g m).bind λt=>
 some s)).bind λs=>
 cnd s (
 some [(.list [])]) (
 (O.Anu g m (.bool true)).bind λt=>
 (aA 5 d).bind λu=>
 (aB u (.int 0)).bind λv=>
 (aA 0 i).bind λx=>
 (aA 1 i).bind λy=>
 (aA 2 i).bind λz=>
 (aA 3 i).bind λaa=>
 (aA 4 i).bind λab=>
 (aA 0 v).bind λac=>
 (aA 1 v).bind λad=>
 (aA 2 v).bind λae=>
 (aA 3 v).bind λag=>
 (aA 4 v).bind λah=>
 (aA 5 v).bind λai=>
 (aA 6 v).bind λaj=>
 (aJ [(.int 3),j,(.int 0),m,x,y,z,aa,ab,ac,ad,ae,ag,ah,ai,aj,(.bool true)]).bind λak=>
 (aN [ak]).bind λal=>
 (aH 248 e al).bind λam=>
 (aD .i64 c (.int 1)).bind λan=>
 W A65 1 [a,b,an,d,am,t])) (
 some [e]):=Aq rfl (by kernel_rfl)
theorem Ax7:W F106 0 [a,b]=
 (aN [a]).bind λc=>
 (aH 16 b c).bind λd=>
 some [d]:=Aq rfl (by kernel_rfl)
theorem Ayt:W Bcj 0 [a,b]=
 calls (W F77 0 [a]) 1 λc=>
 (aN [b]).bind λd=>
 (aH 48 c d).bind λe=>
 some [e]:=Aq rfl (by kernel_rfl)
theorem A0s:W Bax 0 [a]=
 calls (W F109 0 [a]) 1 λb=>
 calls (W F110 0 [b]) 1 λc=>
 calls (W F113 0 [c]) 1 λd=>
 some [d]:=Aq rfl (by kernel_rfl)
theorem Ay7:W F109 0 [a]=
 some [a]:=Aq rfl (by kernel_rfl)
theorem Azd:W F110 0 [a]=
 calls (W F111 0 [a]) 1 λb=>
 calls (W F112 0 [b]) 1 λc=>
 some [c]:=Aq rfl (by kernel_rfl)
theorem Ba1 (xs:List IV):W F111 0 xs=O.K9 xs:=Ahs _ _ _ _
theorem A9u (xs:List IV):W F112 0 xs=O.Af4 xs:=Ahs _ _ _ _
theorem Bal (xs:List IV):W F113 0 xs=O.Lj xs:=Ahs _ _ _ _
theorem Axj:W Aqd 0 [a,b]=
 calls (W A3i 0 [a,b,(.bool false)]) 1 λc=>
 some [c]:=Aq rfl (by kernel_rfl)
theorem Awk:W A3i 0 [a,b,c]=
 (aC b).bind λd=>
 W A3i 1 [a,b,d,(.int 0),c,(.list [])]:=Aq rfl (by kernel_rfl)
theorem A19:W A3i 1 [a,b,c,d,e,g]=
 (aF d c).bind λh=>
 cnd h (
 (aB b d).bind λi=>
 (O.Anu g i (.bool true)).bind λj=>
 (aD .i64 d (.int 1)).bind λk=>
 W A3i 1 [a,b,c,k,e,j]) (
 calls (W Bax 0 [a]) 1 λi=>
 calls (W Avm 0 [i,g,e]) 3 λj k l=>
 some [j]):=Aq rfl (by kernel_rfl)
theorem A1l:W Avm 0 [a,b,c]=
 calls (W A8m 0 [a,b,c]) 3 λd e g=>
 (aE d (.int (-1))).bind λh=>
 cnd h (
 some [a,e,g]) (
 (aD .i64 d (.int 1)).bind λi=>
 W Avm 1 [d,i,g,a,e]):=Aq rfl (by kernel_rfl)
theorem Aif:W Avm 1 [a,b,c,d,e]=
 (aC d).bind λg=>
 (aF b g).bind λh=>
 cnd h (
 (aB d b).bind λi=>
 calls (W Bbv 0 [i,e,c]) 3 λj k l=>
 (aG j).bind λm=>
 cnd m (
 (aB d a).bind λn=>
 (aW 0 1 false true d a i).bind λo=>
 (aD .i64 a (.int 1)).bind λp=>
 W Avm 2 [p,b,l,o,k]) (
 W Avm 2 [a,b,l,d,k])) (
 (O.slice d a g).bind λi=>
 (O.clear (.str ⟨#[]⟩) d a g).bind λj=>
 (O.slice j (.int 0) a).bind λk=>
 (O.slice j (.int 0) a).bind λl=>
 some [l,e,c]):=Aq rfl (by kernel_rfl)
theorem Amc:W Avm 2 [a,b,c,d,e]=
 (aD .i64 b (.int 1)).bind λg=>
 W Avm 1 [a,g,c,d,e]:=Aq rfl (by kernel_rfl)
theorem A1e:W A8m 0 [a,b,c]=
 (aC a).bind λd=>
 W A8m 1 [a,d,(.int 0),c,b]:=Aq rfl (by kernel_rfl)
theorem Aio:W A8m 1 [a,b,c,d,e]=
 (aF c b).bind λg=>
 cnd g (
 (aB a c).bind λh=>
 calls (W Bbv 0 [h,e,d]) 3 λi j k=>
 cnd i (
 some [c,j,k]) (
 (aD .i64 c (.int 1)).bind λl=>
 W A8m 1 [a,b,l,k,j])) (
 some [(.int (-1)),e,d]):=Aq rfl (by kernel_rfl)
theorem Axc:W Bbv 0 [a,b,c]=
 (O.Anx (.bool false) b a).bind λd=>
 (O.Air b a).bind λe=>
 (O.bNe d c).bind λg=>
 some [g,b,c]:=Aq rfl (by kernel_rfl)
theorem A00:W Bbk 0 [a,b]=
 calls (W Agr 0 [b]) 2 λc d=>
 calls (W Aqo 0 [a,c]) 6 λe g h i j k=>
 some [e,g,h,i,j,k]:=Aq rfl (by kernel_rfl)
theorem Awb:W Agr 0 [a]=
 (aU a).bind λb=>
 (aL b (.int 20000)).bind λc=>
 cnd c (
 some [(.list []),(.int 4)]) (
 W Agr 1 [a,(.list [])]):=Aq rfl (by kernel_rfl)
theorem Ai2:W Agr 1 [a,b]=
 (aT a (.str ⟨#[]⟩)).bind λc=>
 cnd c (
 (aV a (.int 0)).bind λd=>
 (aE d (.int 91)).bind λe=>
 cnd e (
 calls (W Bd1 0 [a]) 3 λg h i=>
 (aG i).bind λj=>
 cnd j (
 some [(.list []),(.int 2)]) (
 (aN [g]).bind λk=>
 (aH 48 b k).bind λl=>
 W Agr 2 [h,l])) (
 (aC b).bind λg=>
 (aL g (.int 0)).bind λh=>
 cnd h (
 (aK d (.int 46)).bind λi=>
 cnd i (
 some [(.list []),(.int 2)]) (
 (bA a (.int 1)).bind λj=>
 W Agr 3 [j,b])) (
 W Agr 3 [a,b]))) (
 calls (W F54 0 [b]) 1 λd=>
 (aG d).bind λe=>
 cnd e (
 some [(.list []),(.int 1)]) (
 some [b,(.int 0)])):=Aq rfl (by kernel_rfl)
theorem Aiq:W Agr 2 [a,b]=
 W Agr 1 [a,b]:=Aq rfl (by kernel_rfl)
theorem Awe:W Agr 3 [a,b]=
 calls (W A2e 0 [a]) 1 λc=>
 (aE c (.int 0)).bind λd=>
 cnd d (
 some [(.list []),(.int 2)]) (
 (aX a (.int 0) c).bind λe=>
 (aJ [(.int 1),e,(.int 0),(.str ⟨#[]⟩)]).bind λg=>
 (aN [g]).bind λh=>
 (aH 48 b h).bind λi=>
 (bA a c).bind λj=>
 W Agr 2 [j,i]):=Aq rfl (by kernel_rfl)
theorem Ayc:W Bd1 0 [a]=
 (bA a (.int 1)).bind λb=>
 calls (W A2e 0 [b]) 1 λc=>
 (aD .i64 (.int 1) c).bind λd=>
 (aX a (.int 1) d).bind λe=>
 (aD .i64 (.int 1) c).bind λg=>
 (bA a g).bind λh=>
 (aE c (.int 0)).bind λi=>
 (cnd i (some (.bool true)) (
 (aM h (.str ⟨#[]⟩)).bind λj=>
 some j)).bind λj=>
 cnd j (
 (aJ [(.int 0),(.str ⟨#[]⟩),(.int 0),(.str ⟨#[]⟩)]).bind λk=>
 some [k,(.str ⟨#[]⟩),(.bool false)]) (
 (aV h (.int 0)).bind λk=>
 (aE k (.int 93)).bind λl=>
 cnd l (
 calls (W F124 0 [e]) 2 λm n=>
 (bA h (.int 1)).bind λo=>
 (aJ [(.int 2),(.str ⟨#[]⟩),m,(.str ⟨#[]⟩)]).bind λp=>
 some [p,o,n]) (
 (aK k (.int 61)).bind λm=>
 cnd m (
 (aJ [(.int 0),(.str ⟨#[]⟩),(.int 0),(.str ⟨#[]⟩)]).bind λn=>
 some [n,(.str ⟨#[]⟩),(.bool false)]) (
 (bA h (.int 1)).bind λn=>
 calls (W Anr 0 [n]) 3 λo p q=>
 (aG q).bind λr=>
 (cnd r (some (.bool true)) (
 (aM p (.str ⟨#[]⟩)).bind λs=>
 some s)).bind λs=>
 (cnd s (some (.bool true)) (
 (aV p (.int 0)).bind λt=>
 (aK t (.int 93)).bind λu=>
 some u)).bind λt=>
 cnd t (
 (aJ [(.int 0),(.str ⟨#[]⟩),(.int 0),(.str ⟨#[]⟩)]).bind λu=>
 some [u,(.str ⟨#[]⟩),(.bool false)]) (
 (bA p (.int 1)).bind λu=>
 (aJ [(.int 3),e,(.int 0),o]).bind λv=>
 some [v,u,(.bool true)])))):=Aq rfl (by kernel_rfl)
theorem Aw8:W A2e 0 [a]=
 W A2e 1 [a,a,(.int 0)]:=Aq rfl (by kernel_rfl)
theorem Alw:W A2e 1 [a,b,c]=
 (O.M0 b c).bind λd=>
 (O.M4 b c).bind λe=>
 (O.Ht b c).bind λg=>
 cnd d (
 (bB d).bind λh=>
 (bB d).bind λi=>
 calls (W F60 0 [e]) 1 λj=>
 (aG j).bind λk=>
 cnd k (
 some [c]) (
 W A2e 1 [a,b,g])) (
 (aU a).bind λh=>
 some [h]):=Aq rfl (by kernel_rfl)
theorem Awp:W Anr 0 [a]=
 (aM a (.str ⟨#[]⟩)).bind λb=>
 (cnd b (some (.bool true)) (
 (aV a (.int 0)).bind λc=>
 (aK c (.int 34)).bind λd=>
 some d)).bind λc=>
 cnd c (
 some [(.str ⟨#[]⟩),(.str ⟨#[]⟩),(.bool false)]) (
 W Anr 1 [a,(.int 1),(.list [])]):=Aq rfl (by kernel_rfl)
theorem Abc:W Anr 1 [a,b,c]=
 (aU a).bind λd=>
 (aF b d).bind λe=>
 cnd e (
 (aV a b).bind λg=>
 (aE g (.int 34)).bind λh=>
 cnd h (
 calls (W F66 0 [c]) 1 λi=>
 (aD .i64 b (.int 1)).bind λj=>
 (bA a j).bind λk=>
 some [i,k,(.bool true)]) (
 (aF g (.int 32)).bind λi=>
 (cnd i (some (.bool true)) (
 (aL g (.int 126)).bind λj=>
 some j)).bind λj=>
 cnd j (
 some [(.str ⟨#[]⟩),(.str ⟨#[]⟩),(.bool false)]) (
 (aK g (.int 92)).bind λk=>
 cnd k (
 calls (W F61 0 [c,g]) 1 λl=>
 W Anr 2 [a,b,l]) (
 (aD .i64 b (.int 1)).bind λl=>
 (aF l d).bind λm=>
 (cnd m (
 (aD .i64 b (.int 1)).bind λn=>
 (aV a n).bind λo=>
 (aE o (.int 34)).bind λp=>
 (cnd p (some (.bool true)) (
 (aD .i64 b (.int 1)).bind λq=>
 (aV a q).bind λr=>
 (aE r (.int 92)).bind λs=>
 some s)).bind λq=>
 some q) (some (.bool false))).bind λn=>
 cnd n (
 (aD .i64 b (.int 1)).bind λo=>
 (aV a o).bind λp=>
 calls (W F61 0 [c,p]) 1 λq=>
 W Anr 2 [a,o,q]) (
 (aD .i64 b (.int 1)).bind λo=>
 (aF o d).bind λp=>
 (cnd p (
 (aD .i64 b (.int 1)).bind λq=>
 (aV a q).bind λr=>
 (aE r (.int 110)).bind λs=>
 some s) (some (.bool false))).bind λq=>
 cnd q (
 (aD .i64 b (.int 1)).bind λr=>
 calls (W F61 0 [c,(.int 10)]) 1 λs=>
 W Anr 2 [a,r,s]) (
 some [(.str ⟨#[]⟩),(.str ⟨#[]⟩),(.bool false)])))))) (
 some [(.str ⟨#[]⟩),(.str ⟨#[]⟩),(.bool false)]):=Aq rfl (by kernel_rfl)
theorem Ajg:W Anr 2 [a,b,c]=
 (aD .i64 b (.int 1)).bind λd=>
 W Anr 1 [a,d,c]:=Aq rfl (by kernel_rfl)
theorem Axv:W Aqo 0 [a,b]=
 calls (W F54 0 [b]) 1 λc=>
 (aG c).bind λd=>
 cnd d (
 some [(.int 0),(.int 0),(.str ⟨#[]⟩),(.list []),(.list []),(.bool false)]) (
 (aC b).bind λe=>
 W Aqo 1 [b,e,(.int 0),a,(.int 0),(.int 0),(.str ⟨#[]⟩)]):=Aq rfl (by kernel_rfl)
theorem Aiw:W Aqo 1 [a,b,c,d,e,g,h]=
 (aF c b).bind λi=>
 cnd i (
 (aB a c).bind λj=>
 calls (W Bdq 0 [d,j]) 1 λk=>
 (aF k (.int 0)).bind λl=>
 cnd l (
 some [(.int 0),(.int 0),(.str ⟨#[]⟩),(.list []),(.list []),(.bool false)]) (
 (aA 0 j).bind λm=>
 (aE m (.int 1)).bind λn=>
 cnd n (
 (aA 4 d).bind λo=>
 (aB o k).bind λp=>
 (aI 1 5 p).bind λq=>
 W Aqo 2 [a,b,c,q,e,g,h]) (
 (aA 3 d).bind λo=>
 (aB o k).bind λp=>
 W Aqo 2 [a,b,c,p,e,g,h]))) (
 calls (W Afy 0 [d]) 5 λj k l m n=>
 some [j,k,l,m,n,(.bool true)]):=Aq rfl (by kernel_rfl)
theorem Az3:W Aqo 2 [a,b,c,d,e,g,h]=
 (aD .i64 c (.int 1)).bind λi=>
 W Aqo 1 [a,b,i,d,e,g,h]:=Aq rfl (by kernel_rfl)
theorem Ax6:W Bdq 0 [a,b]=
 (aA 0 b).bind λc=>
 (aE c (.int 1)).bind λd=>
 (cnd d (
 (aA 0 a).bind λe=>
 (aE e (.int 5)).bind λg=>
 some g) (some (.bool false))).bind λe=>
 cnd e (
 (aA 4 a).bind λg=>
 calls (W A8z 0 [g,b]) 1 λh=>
 some [h]) (
 (aE c (.int 2)).bind λg=>
 (cnd g (
 (aA 0 a).bind λh=>
 (aE h (.int 4)).bind λi=>
 some i) (some (.bool false))).bind λh=>
 (cnd h (
 (aA 2 b).bind λi=>
 (aA 3 a).bind λj=>
 (aC j).bind λk=>
 (aF i k).bind λl=>
 some l) (some (.bool false))).bind λi=>
 cnd i (
 (aA 2 b).bind λj=>
 some [j]) (
 (aE c (.int 3)).bind λj=>
 (cnd j (
 (aA 0 a).bind λk=>
 (aE k (.int 4)).bind λl=>
 some l) (some (.bool false))).bind λk=>
 cnd k (
 (aA 3 a).bind λl=>
 calls (W A89 0 [l,b]) 1 λm=>
 some [m]) (
 some [(.int (-1))]))):=Aq rfl (by kernel_rfl)
theorem A07:W A8z 0 [a,b]=
 (aC a).bind λc=>
 W A8z 1 [a,b,c,(.int 0)]:=Aq rfl (by kernel_rfl)
theorem Alj:W A8z 1 [a,b,c,d]=
 (aF d c).bind λe=>
 cnd e (
 (aB a d).bind λg=>
 calls (W F129 0 [g,b]) 1 λh=>
 cnd h (
 some [d]) (
 (aD .i64 d (.int 1)).bind λi=>
 W A8z 1 [a,b,c,i])) (
 some [(.int (-1))]):=Aq rfl (by kernel_rfl)
theorem A1s:W F129 0 [a,b]=
 (aA 0 a).bind λc=>
 (aA 1 b).bind λd=>
 (aM c d).bind λe=>
 some [e]:=Aq rfl (by kernel_rfl)
theorem A0r:W A89 0 [a,b]=
 (aC a).bind λc=>
 W A89 1 [a,b,c,(.int 0)]:=Aq rfl (by kernel_rfl)
theorem Aip:W A89 1 [a,b,c,d]=
 (aF d c).bind λe=>
 cnd e (
 (aB a d).bind λg=>
 calls (W F131 0 [g,b]) 1 λh=>
 cnd h (
 some [d]) (
 (aD .i64 d (.int 1)).bind λi=>
 W A89 1 [a,b,c,i])) (
 some [(.int (-1))]):=Aq rfl (by kernel_rfl)
theorem Ax5:W F131 0 [a,b]=
 calls (W Bdy 0 [a,b]) 1 λc=>
 some [c]:=Aq rfl (by kernel_rfl)
theorem Aym:W Bdy 0 [a,b]=
 (aA 1 b).bind λc=>
 calls (W F75 0 [a,c]) 6 λd e g h i j=>
 (cnd j (
 (aE d (.int 3)).bind λk=>
 some k) (some (.bool false))).bind λk=>
 (cnd k (
 (aA 3 b).bind λl=>
 (aM g l).bind λm=>
 some m) (some (.bool false))).bind λl=>
 some [l]:=Aq rfl (by kernel_rfl)
theorem Azw:W Afy 0 [a]=
 (aA 3 a).bind λb=>
 calls (W F49 0 [b]) 1 λc=>
 (aA 4 a).bind λd=>
 calls (W F37 0 [d]) 1 λe=>
 (aA 0 a).bind λg=>
 (aA 1 a).bind λh=>
 (aA 2 a).bind λi=>
 (aC c).bind λj=>
 W Afy 1 [j,(.int 0),g,h,i,(.int 0),(.int 0),(.str ⟨#[]⟩),c,e]:=Aq rfl (by kernel_rfl)
theorem Ams:W Afy 1 [a,b,c,d,e,g,h,i,j,k]=
 (aF b a).bind λl=>
 cnd l (
 (aB j b).bind λm=>
 calls (W Afy 0 [m]) 5 λn o p q r=>
 (aJ [n,o,p,q,r]).bind λs=>
 (aW 0 5 true true j b s).bind λt=>
 (aD .i64 b (.int 1)).bind λu=>
 W Afy 1 [a,u,c,d,e,g,h,i,t,k]) (
 (aC k).bind λm=>
 W Afy 2 [m,(.int 0),c,d,e,g,h,i,j,k]):=Aq rfl (by kernel_rfl)
theorem Ai3:W Afy 2 [a,b,c,d,e,g,h,i,j,k]=
 (aF b a).bind λl=>
 cnd l (
 (aB k b).bind λm=>
 (aI 1 5 m).bind λn=>
 calls (W Afy 0 [n]) 5 λo p q r s=>
 (aJ [o,p,q,r,s]).bind λt=>
 (aW 1 5 true false k b t).bind λu=>
 (aD .i64 b (.int 1)).bind λv=>
 W Afy 2 [a,v,c,d,e,g,h,i,j,u]) (
 some [c,d,e,j,k]):=Aq rfl (by kernel_rfl)
theorem A1m:W Bcr 0 [a,b]=
 calls (W A81 0 [a,b]) 1 λc=>
 (aE c (.int 0)).bind λd=>
 some [d]:=Aq rfl (by kernel_rfl)
theorem Av7:W A81 0 [a,b]=
 (aA 0 a).bind λc=>
 (aA 0 b).bind λd=>
 calls (W Bb5 0 [c,d]) 1 λe=>
 (aA 1 a).bind λg=>
 (aA 1 b).bind λh=>
 calls (W Bb5 0 [g,h]) 1 λi=>
 (aA 2 a).bind λj=>
 (aA 2 b).bind λk=>
 calls (W F42 0 [j,k]) 1 λl=>
 (aA 3 a).bind λm=>
 (aA 3 b).bind λn=>
 calls (W A9b 0 [m,n]) 1 λo=>
 (aA 4 a).bind λp=>
 (aA 4 b).bind λq=>
 calls (W A9a 0 [p,q]) 1 λr=>
 (aN [e,i,l,o,r]).bind λs=>
 calls (W A2r 0 [s]) 1 λt=>
 some [t]:=Aq rfl (by kernel_rfl)
theorem Az8:W Bb5 0 [a,b]=
 calls (W Bdu 0 [a]) 1 λc=>
 calls (W Bdu 0 [b]) 1 λd=>
 cnd c (
 cnd d (
 some [(.int 0)]) (
 some [(.int (-1))])) (
 cnd d (
 some [(.int 1)]) (
 (aF a b).bind λe=>
 cnd e (
 some [(.int (-1))]) (
 (aL a b).bind λg=>
 cnd g (
 some [(.int 1)]) (
 some [(.int 0)])))):=Aq rfl (by kernel_rfl)
theorem Azr:W Bdu 0 [a]=
 (aK a a).bind λb=>
 some [b]:=Aq rfl (by kernel_rfl)
theorem A0g:W A9b 0 [a,b]=
 (aC a).bind λc=>
 W A9b 1 [a,b,a,c,(.int 0)]:=Aq rfl (by kernel_rfl)
theorem Ame:W A9b 1 [a,b,c,d,e]=
 (aF e d).bind λg=>
 cnd g (
 (aB c e).bind λh=>
 (aC b).bind λi=>
 (aS e i).bind λj=>
 cnd j (
 some [(.int 1)]) (
 (aB b e).bind λk=>
 calls (W A81 0 [h,k]) 1 λl=>
 (aK l (.int 0)).bind λm=>
 cnd m (
 some [l]) (
 (aD .i64 e (.int 1)).bind λn=>
 W A9b 1 [a,b,c,d,n]))) (
 (aC a).bind λh=>
 (aC b).bind λi=>
 (aF h i).bind λj=>
 cnd j (
 some [(.int (-1))]) (
 some [(.int 0)])):=Aq rfl (by kernel_rfl)
theorem A0l:W A9a 0 [a,b]=
 (aC a).bind λc=>
 W A9a 1 [a,b,a,c,(.int 0)]:=Aq rfl (by kernel_rfl)
theorem Am4:W A9a 1 [a,b,c,d,e]=
 (aF e d).bind λg=>
 cnd g (
 (aB c e).bind λh=>
 (aC b).bind λi=>
 (aS e i).bind λj=>
 cnd j (
 some [(.int 1)]) (
 (aB b e).bind λk=>
 calls (W Bb1 0 [h,k]) 1 λl=>
 (aK l (.int 0)).bind λm=>
 cnd m (
 some [l]) (
 (aD .i64 e (.int 1)).bind λn=>
 W A9a 1 [a,b,c,d,n]))) (
 (aC a).bind λh=>
 (aC b).bind λi=>
 (aF h i).bind λj=>
 cnd j (
 some [(.int (-1))]) (
 some [(.int 0)])):=Aq rfl (by kernel_rfl)
theorem Aze:W Bb1 0 [a,b]=
 (aA 0 a).bind λc=>
 (aA 0 b).bind λd=>
 calls (W F42 0 [c,d]) 1 λe=>
 (aI 1 5 a).bind λg=>
 (aI 1 5 b).bind λh=>
 calls (W A81 0 [g,h]) 1 λi=>
 (aN [e,i]).bind λj=>
 calls (W A2r 0 [j]) 1 λk=>
 some [k]:=Aq rfl (by kernel_rfl)
theorem A09:W A2r 0 [a]=
 (aC a).bind λb=>
 W A2r 1 [(.int 0),a,b,(.int 0)]:=Aq rfl (by kernel_rfl)
theorem Ajp:W A2r 1 [a,b,c,d]=
 (aF d c).bind λe=>
 cnd e (
 (aB b d).bind λg=>
 (aK g a).bind λh=>
 cnd h (
 some [g]) (
 (aD .i64 d (.int 1)).bind λi=>
 W A2r 1 [a,b,c,i])) (
 some [a]):=Aq rfl (by kernel_rfl)
theorem A3b (xs:List IV):W Bcc 0 xs=aZ xs:=Ahs _ _ _ _
theorem A1c:W Atv 0 [a,b]=
 (aC a).bind λc=>
 W Atv 1 [b,a,c,(.int 0)]:=Aq rfl (by kernel_rfl)
theorem Akn:W Atv 1 [a,b,c,d]=
 (aF d c).bind λe=>
 cnd e (
 (aB b d).bind λg=>
 (aA 0 g).bind λh=>
 (aM h a).bind λi=>
 cnd i (
 (aA 1 g).bind λj=>
 (aB j (.int 0)).bind λk=>
 some [j]) (
 (aD .i64 d (.int 1)).bind λj=>
 W Atv 1 [a,b,c,j])) (
 some [(.list [])]):=Aq rfl (by kernel_rfl)
theorem A01:W Bcy 0 [a,b]=
 (aN [a,b]).bind λc=>
 calls (W Aq8 0 [c]) 1 λd=>
 calls (W Bax 0 [d]) 1 λe=>
 some [e]:=Aq rfl (by kernel_rfl)
theorem A1j:W Aq8 0 [a]=
 (aC a).bind λb=>
 W Aq8 1 [a,(.int 0),a,b,(.int 0)]:=Aq rfl (by kernel_rfl)
theorem Abt:W Aq8 1 [a,b,c,d,e]=
 (aF e d).bind λg=>
 cnd g (
 (aB c e).bind λh=>
 (aC h).bind λi=>
 (aD .i64 b i).bind λj=>
 (aF j (.int 0)).bind λk=>
 cnd k (
 (bB (.bool false)).bind λl=>
 some []) (
 W Aq8 2 [a,j,c,d,e])) (
 calls (W F152 0 [(.list []),b]) 1 λh=>
 (aC a).bind λi=>
 W Aq8 3 [a,i,(.int 0),h]):=Aq rfl (by kernel_rfl)
theorem Aml:W Aq8 2 [a,b,c,d,e]=
 (aD .i64 e (.int 1)).bind λg=>
 W Aq8 1 [a,b,c,d,g]:=Aq rfl (by kernel_rfl)
theorem Aa0:W Aq8 3 [a,b,c,d]=
 (aF c b).bind λe=>
 cnd e (
 (aB a c).bind λg=>
 (aH 16 d g).bind λh=>
 (aD .i64 c (.int 1)).bind λi=>
 W Aq8 3 [a,b,i,h]) (
 some [d]):=Aq rfl (by kernel_rfl)
theorem Bai (xs:List IV):W F152 0 xs=(O.Aia 16) xs:=Ahs _ _ _ _
theorem Bar (xs:List IV):W Bcg 0 xs=O.Ub xs:=Ahs _ _ _ _
theorem A02:W Atr 0 [a]=
 (aC a).bind λb=>
 W Atr 1 [a,b,(.int 0),(.list [])]:=Aq rfl (by kernel_rfl)
theorem Al9:W Atr 1 [a,b,c,d]=
 (aF c b).bind λe=>
 cnd e (
 (aB a c).bind λg=>
 (aA 1 g).bind λh=>
 (aC h).bind λi=>
 (aL i (.int 0)).bind λj=>
 cnd j (
 (aA 0 g).bind λk=>
 calls (W Bcc 0 [h]) 1 λl=>
 (aJ [k,l]).bind λm=>
 (aN [m]).bind λn=>
 (aH 40 d n).bind λo=>
 W Atr 2 [a,b,c,o]) (
 W Atr 2 [a,b,c,d])) (
 some [d]):=Aq rfl (by kernel_rfl)
theorem Akf:W Atr 2 [a,b,c,d]=
 (aD .i64 c (.int 1)).bind λe=>
 W Atr 1 [a,b,e,d]:=Aq rfl (by kernel_rfl)
theorem A0v:W A2s 0 [a,b,c,d,e]=
 calls (W F16 0 [a]) 1 λg=>
 (aG g).bind λh=>
 (cnd h (some (.bool true)) (
 calls (W F21 0 [b]) 1 λi=>
 (aG i).bind λj=>
 some j)).bind λi=>
 (cnd i (some (.bool true)) (
 calls (W F21 0 [c]) 1 λj=>
 (aG j).bind λk=>
 some k)).bind λj=>
 (cnd j (some (.bool true)) (
 calls (W F83 0 [d]) 1 λk=>
 (aG k).bind λl=>
 some l)).bind λk=>
 (cnd k (some (.bool true)) (
 calls (W F84 0 [e]) 1 λl=>
 (aG l).bind λm=>
 some m)).bind λl=>
 (cnd l (some (.bool true)) (
 calls (W F86 0 [a,b]) 1 λm=>
 (aG m).bind λn=>
 some n)).bind λm=>
 (cnd m (some (.bool true)) (
 calls (W F86 0 [a,c]) 1 λn=>
 (aG n).bind λo=>
 some o)).bind λn=>
 cnd n (
 (aC d).bind λo=>
 W A2s 1 [d,o,(.int 0),(.list [])]) (
 calls (W F92 0 [a,b]) 1 λo=>
 calls (W F92 0 [a,c]) 1 λp=>
 calls (W F97 0 [a,p]) 1 λq=>
 calls (W Avv 0 [a,o,p]) 1 λr=>
 calls (W Atv 0 [d,e]) 1 λs=>
 calls (W Bb8 0 [s,q]) 1 λt=>
 calls (W Bcy 0 [t,r]) 1 λu=>
 calls (W Atv 0 [d,e]) 1 λv=>
 (aC v).bind λx=>
 (aE x (.int 0)).bind λy=>
 (cnd y (
 calls (W Akq 0 [d,e,(.list []),q,r]) 1 λz=>
 (aC z).bind λaa=>
 (aS aa (.int 16)).bind λab=>
 some ab) (some (.bool false))).bind λz=>
 cnd z (
 calls (W Akq 0 [d,e,(.list []),q,r]) 1 λaa=>
 some [aa]) (
 calls (W Akq 0 [d,e,u,q,r]) 1 λaa=>
 some [aa])):=Aq rfl (by kernel_rfl)
theorem A27:W A2s 1 [a,b,c,d]=
 (aF c b).bind λe=>
 cnd e (
 (aB a c).bind λg=>
 (aA 0 g).bind λh=>
 (aA 1 g).bind λi=>
 calls (W Bcc 0 [i]) 1 λj=>
 (aJ [h,j]).bind λk=>
 (aN [k]).bind λl=>
 (aH 40 d l).bind λm=>
 (aD .i64 c (.int 1)).bind λn=>
 W A2s 1 [a,b,n,m]) (
 some [d]):=Aq rfl (by kernel_rfl)
theorem Ayd:W Avv 0 [a,b,c]=
 calls (W F97 0 [a,b]) 1 λd=>
 calls (W F97 0 [a,c]) 1 λe=>
 (aC e).bind λg=>
 W Avv 1 [g,(.int 0),b,c,d,(.list []),e]:=Aq rfl (by kernel_rfl)
theorem Aij:W Avv 1 [a,b,c,d,e,g,h]=
 (aF b a).bind λi=>
 cnd i (
 (aB h b).bind λj=>
 calls (W Bbk 0 [c,j]) 6 λk l m n o p=>
 calls (W Bbk 0 [d,j]) 6 λq r s t u v=>
 calls (W F70 0 [e,j]) 1 λx=>
 (aG x).bind λy=>
 (cnd y (some (.bool true)) (
 (aJ [k,l,m,n,o]).bind λz=>
 (aJ [q,r,s,t,u]).bind λaa=>
 calls (W Bcr 0 [z,aa]) 1 λab=>
 (aG ab).bind λac=>
 some ac)).bind λz=>
 cnd z (
 (aN [j]).bind λaa=>
 (aH 16 g aa).bind λab=>
 W Avv 2 [a,b,c,d,e,ab,h]) (
 W Avv 2 [a,b,c,d,e,g,h])) (
 some [g]):=Aq rfl (by kernel_rfl)
theorem Ala:W Avv 2 [a,b,c,d,e,g,h]=
 (aD .i64 b (.int 1)).bind λi=>
 W Avv 1 [a,i,c,d,e,g,h]:=Aq rfl (by kernel_rfl)
theorem A0h:W Bb8 0 [a,b]=
 calls (W A3i 0 [a,b,(.bool true)]) 1 λc=>
 some [c]:=Aq rfl (by kernel_rfl)
theorem A0y:W Akq 0 [a,b,c,d,e]=
 (aJ [b,c]).bind λg=>
 (aN [g]).bind λh=>
 (aC a).bind λi=>
 W Akq 1 [b,d,e,a,i,(.int 0),h]:=Aq rfl (by kernel_rfl)
theorem Alv:W Akq 1 [a,b,c,d,e,g,h]=
 (aF g e).bind λi=>
 cnd i (
 (aB d g).bind λj=>
 (aA 0 j).bind λk=>
 (aT k a).bind λl=>
 cnd l (
 calls (W F175 0 [j,b,c]) 1 λm=>
 (aJ [k,m]).bind λn=>
 (aN [n]).bind λo=>
 (aH 40 h o).bind λp=>
 W Akq 2 [a,b,c,d,e,g,p]) (
 W Akq 2 [a,b,c,d,e,g,h])) (
 calls (W Bcg 0 [h]) 1 λj=>
 calls (W Atr 0 [j]) 1 λk=>
 some [k]):=Aq rfl (by kernel_rfl)
theorem Alo:W Akq 2 [a,b,c,d,e,g,h]=
 (aD .i64 g (.int 1)).bind λi=>
 W Akq 1 [a,b,c,d,e,i,h]:=Aq rfl (by kernel_rfl)
theorem A1o:W F175 0 [a,b,c]=
 (aA 1 a).bind λd=>
 calls (W Bb8 0 [d,b]) 1 λe=>
 calls (W Aqd 0 [e,c]) 1 λg=>
 some [g]:=Aq rfl (by kernel_rfl)
theorem Awq:W Apk 0 [a,b]=
 (aC a).bind λc=>
 W Apk 1 [b,a,c,(.int 0),(.list [])]:=Aq rfl (by kernel_rfl)
theorem Akc:W Apk 1 [a,b,c,d,e]=
 (aF d c).bind λg=>
 cnd g (
 (aB b d).bind λh=>
 (aA 1 h).bind λi=>
 calls (W F70 0 [i,a]) 1 λj=>
 cnd j (
 (aA 0 h).bind λk=>
 (aN [k]).bind λl=>
 (aH 16 e l).bind λm=>
 W Apk 2 [a,b,c,d,m]) (
 W Apk 2 [a,b,c,d,e])) (
 some [e]):=Aq rfl (by kernel_rfl)
theorem Amp:W Apk 2 [a,b,c,d,e]=
 (aD .i64 d (.int 1)).bind λg=>
 W Apk 1 [a,b,c,g,e]:=Aq rfl (by kernel_rfl)
theorem Axu:W A29 0 [a,b]=
 calls (W P2 0 [a,b]) 1 λc=>
 (aE c (.int 0)).bind λd=>
 some [d]:=Aq rfl (by kernel_rfl)
theorem Ayn:W P2 0 [a,b]=
 (aA 0 a).bind λc=>
 (aA 0 b).bind λd=>
 (aF c d).bind λe=>
 (aL c d).bind λg=>
 calls (W A1t 0 [e,g]) 1 λh=>
 (aE h (.int 0)).bind λi=>
 cnd i (
 (aA 1 a).bind λj=>
 (aA 1 b).bind λk=>
 (aF j k).bind λl=>
 (aL j k).bind λm=>
 calls (W A1t 0 [l,m]) 1 λn=>
 W P2 1 [n,a,b]) (
 W P2 1 [h,a,b]):=Aq rfl (by kernel_rfl)
theorem Aw2:W P2 1 [a,b,c]=
 (aE a (.int 0)).bind λd=>
 cnd d (
 (aA 2 b).bind λe=>
 (aA 2 c).bind λg=>
 (O.sLt e g).bind λh=>
 (O.sGt e g).bind λi=>
 calls (W A1t 0 [h,i]) 1 λj=>
 W P2 2 [j,b,c]) (
 W P2 2 [a,b,c]):=Aq rfl (by kernel_rfl)
theorem Ax3:W P2 2 [a,b,c]=
 W P2 3 [a,(.int 0),b,c]:=Aq rfl (by kernel_rfl)
theorem Az9:W P2 3 [a,b,c,d]=
 (aA 3 c).bind λe=>
 (aC e).bind λg=>
 (aF b g).bind λh=>
 (cnd h (
 (aA 3 d).bind λi=>
 (aC i).bind λj=>
 (aF b j).bind λk=>
 some k) (some (.bool false))).bind λi=>
 (cnd i (
 (aE a (.int 0)).bind λj=>
 some j) (some (.bool false))).bind λj=>
 cnd j (
 (aB e b).bind λk=>
 (aA 3 d).bind λl=>
 (aB l b).bind λm=>
 calls (W P2 0 [k,m]) 1 λn=>
 (aD .i64 b (.int 1)).bind λo=>
 W P2 3 [n,o,c,d]) (
 (aE a (.int 0)).bind λk=>
 cnd k (
 (aA 3 d).bind λl=>
 (aC l).bind λm=>
 (aF g m).bind λn=>
 (aL g m).bind λo=>
 calls (W A1t 0 [n,o]) 1 λp=>
 W P2 4 [p,c,d]) (
 W P2 4 [a,c,d])):=Aq rfl (by kernel_rfl)
theorem Azi:W P2 4 [a,b,c]=
 W P2 5 [a,(.int 0),b,c]:=Aq rfl (by kernel_rfl)
theorem Azm:W P2 5 [a,b,c,d]=
 (aA 4 c).bind λe=>
 (aC e).bind λg=>
 (aF b g).bind λh=>
 (cnd h (
 (aA 4 d).bind λi=>
 (aC i).bind λj=>
 (aF b j).bind λk=>
 some k) (some (.bool false))).bind λi=>
 (cnd i (
 (aE a (.int 0)).bind λj=>
 some j) (some (.bool false))).bind λj=>
 cnd j (
 (aB e b).bind λk=>
 (aA 0 k).bind λl=>
 (aA 4 d).bind λm=>
 (aB m b).bind λn=>
 (aA 0 n).bind λo=>
 (O.sLt l o).bind λp=>
 (O.sGt l o).bind λq=>
 calls (W A1t 0 [p,q]) 1 λr=>
 (aE r (.int 0)).bind λs=>
 cnd s (
 (aI 1 5 k).bind λt=>
 (aI 1 5 n).bind λu=>
 calls (W P2 0 [t,u]) 1 λv=>
 W P2 6 [v,b,c,d]) (
 W P2 6 [r,b,c,d])) (
 (aE a (.int 0)).bind λk=>
 cnd k (
 (aA 4 d).bind λl=>
 (aC l).bind λm=>
 (aF g m).bind λn=>
 (aL g m).bind λo=>
 calls (W A1t 0 [n,o]) 1 λp=>
 some [p]) (
 some [a])):=Aq rfl (by kernel_rfl)
theorem Aig:W P2 6 [a,b,c,d]=
 (aD .i64 b (.int 1)).bind λe=>
 W P2 5 [a,e,c,d]:=Aq rfl (by kernel_rfl)
theorem Awv:W A1t 0 [a,b]=
 cnd a (
 some [(.int (-1))]) (
 cnd b (
 some [(.int 1)]) (
 some [(.int 0)])):=Aq rfl (by kernel_rfl)
theorem Awc:W Akp 0 [a,b]=
 (aC a).bind λc=>
 (aC b).bind λd=>
 (aK c d).bind λe=>
 cnd e (
 some [(.bool false)]) (
 W Akp 1 [a,b,(.int 0)]):=Aq rfl (by kernel_rfl)
theorem Alg:W Akp 1 [a,b,c]=
 (aC a).bind λd=>
 (aF c d).bind λe=>
 cnd e (
 (aB a c).bind λg=>
 (aA 0 g).bind λh=>
 (aB b c).bind λi=>
 (aA 0 i).bind λj=>
 (aT h j).bind λk=>
 (cnd k (some (.bool true)) (
 (aA 1 g).bind λl=>
 (aC l).bind λm=>
 (aA 1 i).bind λn=>
 (aC n).bind λo=>
 (aK m o).bind λp=>
 some p)).bind λl=>
 cnd l (
 some [(.bool false)]) (
 W Akp 2 [a,b,c,(.int 0)])) (
 some [(.bool true)]):=Aq rfl (by kernel_rfl)
theorem Ajr:W Akp 2 [a,b,c,d]=
 (aB a c).bind λe=>
 (aA 1 e).bind λg=>
 (aC g).bind λh=>
 (aF d h).bind λi=>
 cnd i (
 (aB g d).bind λj=>
 (aB b c).bind λk=>
 (aA 1 k).bind λl=>
 (aB l d).bind λm=>
 (aT j m).bind λn=>
 cnd n (
 some [(.bool false)]) (
 (aD .i64 d (.int 1)).bind λo=>
 W Akp 2 [a,b,c,o])) (
 (aD .i64 c (.int 1)).bind λj=>
 W Akp 1 [a,b,j]):=Aq rfl (by kernel_rfl)
theorem Axp:W Avn 0 [a,b]=
 W Avn 1 [a,b,(.int 0),(.list [])]:=Aq rfl (by kernel_rfl)
theorem Amj:W Avn 1 [a,b,c,d]=
 (aC a).bind λe=>
 (aF c e).bind λg=>
 cnd g (
 (aB a c).bind λh=>
 (aA 1 h).bind λi=>
 calls (W Avy 0 [i,b]) 1 λj=>
 cnd j (
 (aA 0 h).bind λk=>
 (aN [k]).bind λl=>
 (aH 16 d l).bind λm=>
 W Avn 2 [a,b,c,m]) (
 W Avn 2 [a,b,c,d])) (
 some [d]):=Aq rfl (by kernel_rfl)
theorem Amm:W Avn 2 [a,b,c,d]=
 (aD .i64 c (.int 1)).bind λe=>
 W Avn 1 [a,b,e,d]:=Aq rfl (by kernel_rfl)
theorem Awj:W Avy 0 [a,b]=
 W Avy 1 [a,b,(.int 0)]:=Aq rfl (by kernel_rfl)
theorem Akm:W Avy 1 [a,b,c]=
 (aC a).bind λd=>
 (aF c d).bind λe=>
 cnd e (
 (aB a c).bind λg=>
 (aM g b).bind λh=>
 cnd h (
 some [(.bool true)]) (
 (aD .i64 c (.int 1)).bind λi=>
 W Avy 1 [a,b,i])) (
 some [(.bool false)]):=Aq rfl (by kernel_rfl)
theorem A0b:W Yr 0 [a,b,c,d,e]=
 calls (W Ans 0 [d]) 1 λg=>
 (aG g).bind λh=>
 (cnd h (some (.bool true)) (
 calls (W Bbx 0 [e]) 1 λi=>
 (aG i).bind λj=>
 some j)).bind λi=>
 (cnd i (some (.bool true)) (
 calls (W A3w 0 [a,b]) 1 λj=>
 (aG j).bind λk=>
 some k)).bind λj=>
 (cnd j (some (.bool true)) (
 calls (W A3w 0 [a,c]) 1 λk=>
 (aG k).bind λl=>
 some l)).bind λk=>
 cnd k (
 some [d]) (
 calls (W Tf 0 [a,b]) 1 λl=>
 calls (W Tf 0 [a,c]) 1 λm=>
 calls (W Auu 0 [a,m]) 1 λn=>
 calls (W Auu 0 [a,l]) 1 λo=>
 W Yr 1 [d,e,(.int 0),l,m,n,o,(.list [])]):=Aq rfl (by kernel_rfl)
theorem Ail:W Yr 1 [a,b,c,d,e,g,h,i]=
 (aC g).bind λj=>
 (aF c j).bind λk=>
 cnd k (
 (aB g c).bind λl=>
 calls (W A90 0 [e,l]) 2 λm n=>
 calls (W A90 0 [d,l]) 2 λo p=>
 calls (W Avy 0 [h,l]) 1 λq=>
 (aG q).bind λr=>
 (cnd r (some (.bool true)) (
 calls (W A29 0 [m,o]) 1 λs=>
 (aG s).bind λt=>
 some t)).bind λs=>
 cnd s (
 (aN [l]).bind λt=>
 (aH 16 i t).bind λu=>
 W Yr 2 [a,b,c,d,e,g,h,u]) (
 W Yr 2 [a,b,c,d,e,g,h,i])) (
 W Yr 3 [a,b,(.int 0),(.int 0),g,i,(.list [])]):=Aq rfl (by kernel_rfl)
theorem Ak1:W Yr 2 [a,b,c,d,e,g,h,i]=
 (aD .i64 c (.int 1)).bind λj=>
 W Yr 1 [a,b,j,d,e,g,h,i]:=Aq rfl (by kernel_rfl)
theorem Ald:W Yr 3 [a,b,c,d,e,g,h]=
 (aC a).bind λi=>
 (aF d i).bind λj=>
 cnd j (
 (aB a d).bind λk=>
 (aA 0 k).bind λl=>
 (aA 1 k).bind λm=>
 calls (W Aqq 0 [m,e]) 1 λn=>
 calls (W Avs 0 [n,g]) 1 λo=>
 (aJ [l,o]).bind λp=>
 (aN [p]).bind λq=>
 (aH 40 h q).bind λr=>
 (aC o).bind λs=>
 (aL s (.int 0)).bind λt=>
 cnd t (
 (aD .i64 c (.int 1)).bind λu=>
 W Yr 4 [a,b,u,d,e,g,r]) (
 W Yr 4 [a,b,c,d,e,g,r])) (
 calls (W A2t 0 [a,b]) 1 λk=>
 calls (W Aqq 0 [k,e]) 1 λl=>
 calls (W Aom 0 [l,g]) 1 λm=>
 calls (W A2t 0 [a,b]) 1 λn=>
 (aC n).bind λo=>
 (aE o (.int 0)).bind λp=>
 (cnd p (
 (aS c (.int 16)).bind λq=>
 some q) (some (.bool false))).bind λq=>
 cnd q (
 calls (W Ab6 0 [h,b,(.list [])]) 1 λr=>
 some [r]) (
 calls (W Ab6 0 [h,b,m]) 1 λr=>
 some [r])):=Aq rfl (by kernel_rfl)
theorem Akj:W Yr 4 [a,b,c,d,e,g,h]=
 (aD .i64 d (.int 1)).bind λi=>
 W Yr 3 [a,b,c,i,e,g,h]:=Aq rfl (by kernel_rfl)
theorem Ayf:W Ans 0 [a]=
 (aC a).bind λb=>
 (aL b (.int 16)).bind λc=>
 cnd c (
 some [(.bool false)]) (
 W Ans 1 [a,(.int 0)]):=Aq rfl (by kernel_rfl)
theorem Akv:W Ans 1 [a,b]=
 (aC a).bind λc=>
 (aF b c).bind λd=>
 cnd d (
 (aB a b).bind λe=>
 (aA 0 e).bind λg=>
 calls (W Bbx 0 [g]) 1 λh=>
 (aG h).bind λi=>
 (cnd i (some (.bool true)) (
 (aL b (.int 0)).bind λj=>
 (cnd j (
 (aQ .i64 b (.int 1)).bind λk=>
 (aB a k).bind λl=>
 (aA 0 l).bind λm=>
 (aY m g).bind λn=>
 some n) (some (.bool false))).bind λk=>
 some k)).bind λj=>
 (cnd j (some (.bool true)) (
 (aA 1 e).bind λk=>
 (aC k).bind λl=>
 (aE l (.int 0)).bind λm=>
 some m)).bind λk=>
 cnd k (
 some [(.bool false)]) (
 W Ans 2 [a,b,(.int 1)])) (
 some [(.bool true)]):=Aq rfl (by kernel_rfl)
theorem Aiy:W Ans 2 [a,b,c]=
 (aB a b).bind λd=>
 (aA 1 d).bind λe=>
 (aC e).bind λg=>
 (aF c g).bind λh=>
 cnd h (
 (aQ .i64 c (.int 1)).bind λi=>
 (aB e i).bind λj=>
 (aB e c).bind λk=>
 (aY j k).bind λl=>
 cnd l (
 some [(.bool false)]) (
 (aD .i64 c (.int 1)).bind λm=>
 W Ans 2 [a,b,m])) (
 (aD .i64 b (.int 1)).bind λi=>
 W Ans 1 [a,i]):=Aq rfl (by kernel_rfl)
theorem A1q:W Bbx 0 [a]=
 (aU a).bind λb=>
 (aS b (.int 1)).bind λc=>
 (cnd c (
 (aO b (.int 40)).bind λd=>
 some d) (some (.bool false))).bind λd=>
 some [d]:=Aq rfl (by kernel_rfl)
theorem Ayv:W A3w 0 [a,b]=
 (aA 0 b).bind λc=>
 (aK c (.int 5)).bind λd=>
 (cnd d (some (.bool true)) (
 calls (W Bad 0 [a]) 1 λe=>
 (aG e).bind λg=>
 some g)).bind λe=>
 (cnd e (some (.bool true)) (
 calls (W A85 0 [b]) 1 λg=>
 (aG g).bind λh=>
 some h)).bind λg=>
 cnd g (
 some [(.bool false)]) (
 calls (W Bdt 0 [a,b]) 1 λh=>
 W A3w 1 [(.int 0),a,b,h]):=Aq rfl (by kernel_rfl)
theorem Aiv:W A3w 1 [a,b,c,d]=
 (aC d).bind λe=>
 (aF a e).bind λg=>
 cnd g (
 (aB d a).bind λh=>
 (aA 1 h).bind λi=>
 (aK i (.int 7)).bind λj=>
 cnd j (
 some [(.bool false)]) (
 (aD .i64 a (.int 1)).bind λk=>
 W A3w 1 [k,b,c,d])) (
 calls (W Ah6 0 [b,c]) 1 λh=>
 some [h]):=Aq rfl (by kernel_rfl)
theorem Awm:W Bad 0 [a]=
 calls (W Avr 0 [a,(.int 12)]) 1 λb=>
 some [b]:=Aq rfl (by kernel_rfl)
theorem Amb:W Avr 0 [a,b]=
 (aE b (.int 0)).bind λc=>
 cnd c (
 some [(.bool false)]) (
 (aA 0 a).bind λd=>
 (aE d (.int 1)).bind λe=>
 cnd e (
 calls (W Bbi 0 [a]) 1 λg=>
 (cnd g (
 (aA 1 a).bind λh=>
 (aE h (.int 0)).bind λi=>
 some i) (some (.bool false))).bind λh=>
 (cnd h (
 (aA 2 a).bind λi=>
 (aE i (.int 0)).bind λj=>
 some j) (some (.bool false))).bind λi=>
 (cnd i (
 (aA 3 a).bind λj=>
 (aC j).bind λk=>
 (aE k (.int 0)).bind λl=>
 some l) (some (.bool false))).bind λj=>
 some [j]) (
 (aE d (.int 2)).bind λg=>
 cnd g (
 calls (W Bbi 0 [a]) 1 λh=>
 (cnd h (
 (aA 1 a).bind λi=>
 (aO (.int (-1000000000000000)) i).bind λj=>
 some j) (some (.bool false))).bind λi=>
 (cnd i (
 (aA 1 a).bind λj=>
 (aA 2 a).bind λk=>
 (aO j k).bind λl=>
 some l) (some (.bool false))).bind λj=>
 (cnd j (
 (aA 2 a).bind λk=>
 (aO k (.int 1000000000000000)).bind λl=>
 some l) (some (.bool false))).bind λk=>
 (cnd k (
 (aA 3 a).bind λl=>
 (aC l).bind λm=>
 (aE m (.int 0)).bind λn=>
 some n) (some (.bool false))).bind λl=>
 some [l]) (
 (aE d (.int 3)).bind λh=>
 cnd h (
 calls (W A80 0 [a]) 1 λi=>
 some [i]) (
 (aE d (.int 4)).bind λi=>
 cnd i (
 calls (W A7i 0 [a,b]) 1 λj=>
 some [j]) (
 (aE d (.int 5)).bind λj=>
 cnd j (
 calls (W A6c 0 [a,b]) 1 λk=>
 some [k]) (
 some [(.bool false)])))))):=Aq rfl (by kernel_rfl)
theorem Awl:W Bbi 0 [a]=
 (aA 4 a).bind λb=>
 (aM b (.str ⟨#[]⟩)).bind λc=>
 (cnd c (
 (aA 5 a).bind λd=>
 (aC d).bind λe=>
 (aE e (.int 0)).bind λg=>
 some g) (some (.bool false))).bind λd=>
 (cnd d (
 (aA 6 a).bind λe=>
 (aC e).bind λg=>
 (aE g (.int 0)).bind λh=>
 some h) (some (.bool false))).bind λe=>
 some [e]:=Aq rfl (by kernel_rfl)
theorem A0q:W A80 0 [a]=
 W A80 1 [(.int 0),a]:=Aq rfl (by kernel_rfl)
theorem Aji:W A80 1 [a,b]=
 (aA 3 b).bind λc=>
 (aC c).bind λd=>
 (aF a d).bind λe=>
 cnd e (
 (aB c a).bind λg=>
 (aU g).bind λh=>
 calls (W A12 0 [g]) 1 λi=>
 (aG i).bind λj=>
 (cnd j (some (.bool true)) (
 (aA 1 b).bind λk=>
 (aF h k).bind λl=>
 some l)).bind λk=>
 (cnd k (some (.bool true)) (
 (aA 2 b).bind λl=>
 (aL h l).bind λm=>
 some m)).bind λl=>
 (cnd l (some (.bool true)) (
 (aL a (.int 0)).bind λm=>
 (cnd m (
 (aQ .i64 a (.int 1)).bind λn=>
 (aB c n).bind λo=>
 (O.sLe g o).bind λp=>
 some p) (some (.bool false))).bind λn=>
 some n)).bind λm=>
 cnd m (
 some [(.bool false)]) (
 (aD .i64 a (.int 1)).bind λn=>
 W A80 1 [n,b])) (
 calls (W Bbi 0 [b]) 1 λg=>
 (cnd g (
 (aA 1 b).bind λh=>
 (aS h (.int 0)).bind λi=>
 some i) (some (.bool false))).bind λh=>
 (cnd h (
 (aA 1 b).bind λi=>
 (aA 2 b).bind λj=>
 (aO i j).bind λk=>
 some k) (some (.bool false))).bind λi=>
 (cnd i (
 (aA 2 b).bind λj=>
 (aO j (.int 200)).bind λk=>
 some k) (some (.bool false))).bind λj=>
 (cnd j (
 (aO d (.int 64)).bind λk=>
 some k) (some (.bool false))).bind λk=>
 some [k]):=Aq rfl (by kernel_rfl)
theorem A05:W A12 0 [a]=
 W A12 1 [a,(.int 0)]:=Aq rfl (by kernel_rfl)
theorem Ajl:W A12 1 [a,b]=
 (aU a).bind λc=>
 (aF b c).bind λd=>
 cnd d (
 (aV a b).bind λe=>
 (aK e (.int 10)).bind λg=>
 (cnd g (
 (aF e (.int 32)).bind λh=>
 (cnd h (some (.bool true)) (
 (aL e (.int 126)).bind λi=>
 some i)).bind λi=>
 some i) (some (.bool false))).bind λh=>
 cnd h (
 some [(.bool false)]) (
 (aD .i64 b (.int 1)).bind λi=>
 W A12 1 [a,i])) (
 (aO c (.int 200)).bind λe=>
 some [e]):=Aq rfl (by kernel_rfl)
theorem Axo:W A7i 0 [a,b]=
 (aA 1 a).bind λc=>
 (aF c (.int 0)).bind λd=>
 (cnd d (some (.bool true)) (
 (aA 2 a).bind λe=>
 (aL c e).bind λg=>
 some g)).bind λe=>
 (cnd e (some (.bool true)) (
 (aA 2 a).bind λg=>
 (aL g (.int 64)).bind λh=>
 some h)).bind λg=>
 (cnd g (some (.bool true)) (
 (aA 3 a).bind λh=>
 (aC h).bind λi=>
 (aL i (.int 0)).bind λj=>
 some j)).bind λh=>
 (cnd h (some (.bool true)) (
 (aA 6 a).bind λi=>
 (aC i).bind λj=>
 (aL j (.int 0)).bind λk=>
 some k)).bind λi=>
 (cnd i (some (.bool true)) (
 (aA 5 a).bind λj=>
 (aC j).bind λk=>
 (aK k (.int 1)).bind λl=>
 some l)).bind λj=>
 cnd j (
 some [(.bool false)]) (
 (aA 4 a).bind λk=>
 (aT k (.str ⟨#[]⟩)).bind λl=>
 cnd l (
 (aA 5 a).bind λm=>
 (aB m (.int 0)).bind λn=>
 calls (W A15 0 [n,k]) 2 λo p=>
 (aA 0 n).bind λq=>
 (aK q (.int 5)).bind λr=>
 (cnd r (some (.bool true)) (
 (aG p).bind λs=>
 some s)).bind λs=>
 (cnd s (some (.bool true)) (
 (aA 1 o).bind λt=>
 (aG t).bind λu=>
 some u)).bind λt=>
 (cnd t (some (.bool true)) (
 (aA 4 o).bind λu=>
 (aK u (.int 3)).bind λv=>
 some v)).bind λu=>
 cnd u (
 some [(.bool false)]) (
 W A7i 1 [b,a])) (
 W A7i 1 [b,a])):=Aq rfl (by kernel_rfl)
theorem Aww:W A7i 1 [a,b]=
 (aA 5 b).bind λc=>
 (aB c (.int 0)).bind λd=>
 (aQ .i64 a (.int 1)).bind λe=>
 calls (W Avr 0 [d,e]) 1 λg=>
 some [g]:=Aq rfl (by kernel_rfl)
theorem A1g:W A15 0 [a,b]=
 W A15 1 [b,(.int 0),a,(.str ⟨#[]⟩),(.bool false),(.bool false),(.int 0),(.int 0),(.int 0),(.str ⟨#[]⟩)]:=Aq rfl (by kernel_rfl)
theorem Alz:W A15 1 [a,b,c,d,e,g,h,i,j,k]=
 (aA 6 c).bind λl=>
 (aC l).bind λm=>
 (aF b m).bind λn=>
 cnd n (
 (aB l b).bind λo=>
 (aA 0 o).bind λp=>
 (aM p a).bind λq=>
 cnd q (
 some [o,(.bool true)]) (
 (aD .i64 b (.int 1)).bind λr=>
 W A15 1 [a,r,c,d,e,g,h,i,j,k])) (
 (aJ [(.str ⟨#[]⟩),(.bool false),(.bool false),(.list []),(.int 0),(.int 0),(.int 0),(.list []),(.str ⟨#[]⟩),(.list []),(.list [])]).bind λo=>
 some [o,(.bool false)]):=Aq rfl (by kernel_rfl)
theorem Av8:W A6c 0 [a,b]=
 (aA 1 a).bind λc=>
 (aK c (.int 0)).bind λd=>
 (cnd d (some (.bool true)) (
 (aA 2 a).bind λe=>
 (aK e (.int 0)).bind λg=>
 some g)).bind λe=>
 (cnd e (some (.bool true)) (
 (aA 3 a).bind λg=>
 (aC g).bind λh=>
 (aL h (.int 0)).bind λi=>
 some i)).bind λg=>
 (cnd g (some (.bool true)) (
 (aA 4 a).bind λh=>
 (aT h (.str ⟨#[]⟩)).bind λi=>
 some i)).bind λh=>
 (cnd h (some (.bool true)) (
 (aA 5 a).bind λi=>
 (aC i).bind λj=>
 (aL j (.int 1)).bind λk=>
 some k)).bind λi=>
 (cnd i (some (.bool true)) (
 (aA 5 a).bind λj=>
 (aC j).bind λk=>
 (aE k (.int 1)).bind λl=>
 (cnd l (
 (aA 6 a).bind λm=>
 (aC m).bind λn=>
 (aL n (.int 0)).bind λo=>
 some o) (some (.bool false))).bind λm=>
 some m)).bind λj=>
 (cnd j (some (.bool true)) (
 (aA 6 a).bind λk=>
 (aC k).bind λl=>
 (aL l (.int 64)).bind λm=>
 some m)).bind λk=>
 cnd k (
 some [(.bool false)]) (
 (aA 5 a).bind λl=>
 (aC l).bind λm=>
 (aE m (.int 1)).bind λn=>
 cnd n (
 (aB l (.int 0)).bind λo=>
 (aQ .i64 b (.int 1)).bind λp=>
 calls (W Avr 0 [o,p]) 1 λq=>
 some [q]) (
 W A6c 1 [b,(.int 0),a])):=Aq rfl (by kernel_rfl)
theorem Al7:W A6c 1 [a,b,c]=
 (aA 6 c).bind λd=>
 (aC d).bind λe=>
 (aF b e).bind λg=>
 cnd g (
 (aB d b).bind λh=>
 (aA 0 h).bind λi=>
 calls (W A18 0 [i]) 1 λj=>
 (aG j).bind λk=>
 (cnd k (some (.bool true)) (
 (aL b (.int 0)).bind λl=>
 (cnd l (
 (aQ .i64 b (.int 1)).bind λm=>
 (aB d m).bind λn=>
 (aA 0 n).bind λo=>
 (O.sLe i o).bind λp=>
 some p) (some (.bool false))).bind λm=>
 some m)).bind λl=>
 (cnd l (some (.bool true)) (
 (aI 4 7 h).bind λm=>
 (aQ .i64 a (.int 1)).bind λn=>
 calls (W Avr 0 [m,n]) 1 λo=>
 (aG o).bind λp=>
 some p)).bind λm=>
 (cnd m (some (.bool true)) (
 (aA 3 h).bind λn=>
 (aC n).bind λo=>
 (aL o (.int 1)).bind λp=>
 some p)).bind λn=>
 cnd n (
 some [(.bool false)]) (
 (aA 3 h).bind λo=>
 (aC o).bind λp=>
 (aE p (.int 1)).bind λq=>
 (cnd q (
 (aB o (.int 0)).bind λr=>
 (aA 0 r).bind λs=>
 (aE s (.int 0)).bind λt=>
 (cnd t (some (.bool true)) (
 calls (W A85 0 [r]) 1 λu=>
 (aG u).bind λv=>
 some v)).bind λu=>
 (cnd u (some (.bool true)) (
 (aI 4 7 h).bind λv=>
 calls (W Aph 0 [v,r,(.list [])]) 1 λx=>
 (aC x).bind λy=>
 (aL y (.int 0)).bind λz=>
 some z)).bind λv=>
 some v) (some (.bool false))).bind λr=>
 cnd r (
 some [(.bool false)]) (
 (aD .i64 b (.int 1)).bind λs=>
 W A6c 1 [a,s,c]))) (
 some [(.bool true)]):=Aq rfl (by kernel_rfl)
theorem Aza:W A18 0 [a]=
 W A18 1 [a,(.int 0)]:=Aq rfl (by kernel_rfl)
theorem Alq:W A18 1 [a,b]=
 (aU a).bind λc=>
 (aF b c).bind λd=>
 cnd d (
 (aV a b).bind λe=>
 (aS e (.int 97)).bind λg=>
 (cnd g (
 (aO e (.int 122)).bind λh=>
 some h) (some (.bool false))).bind λh=>
 (cnd h (some (.bool true)) (
 (aS e (.int 65)).bind λi=>
 (cnd i (
 (aO e (.int 90)).bind λj=>
 some j) (some (.bool false))).bind λj=>
 some j)).bind λi=>
 (aG i).bind λj=>
 (cnd j (
 (aS e (.int 48)).bind λk=>
 (cnd k (
 (aO e (.int 57)).bind λl=>
 some l) (some (.bool false))).bind λl=>
 (aG l).bind λm=>
 some m) (some (.bool false))).bind λk=>
 (cnd k (
 (aK e (.int 45)).bind λl=>
 some l) (some (.bool false))).bind λl=>
 (cnd l (
 (aK e (.int 95)).bind λm=>
 some m) (some (.bool false))).bind λm=>
 (cnd m (
 (aK e (.int 47)).bind λn=>
 some n) (some (.bool false))).bind λn=>
 cnd n (
 some [(.bool false)]) (
 (aD .i64 b (.int 1)).bind λo=>
 W A18 1 [a,o])) (
 (aS c (.int 1)).bind λe=>
 (cnd e (
 (aO c (.int 40)).bind λg=>
 some g) (some (.bool false))).bind λg=>
 some [g]):=Aq rfl (by kernel_rfl)
theorem Ayh:W A85 0 [a]=
 calls (W Afx 0 [a,(.int 12)]) 1 λb=>
 (cnd b (
 calls (W Abk 0 [a]) 1 λc=>
 (aO c (.int 600)).bind λd=>
 some d) (some (.bool false))).bind λc=>
 some [c]:=Aq rfl (by kernel_rfl)
theorem Al0:W Afx 0 [a,b]=
 (aE b (.int 0)).bind λc=>
 (cnd c (some (.bool true)) (
 calls (W A5o 0 [a]) 1 λd=>
 (aG d).bind λe=>
 some e)).bind λd=>
 (cnd d (some (.bool true)) (
 (aA 3 a).bind λe=>
 (aC e).bind λg=>
 (aL g (.int 64)).bind λh=>
 some h)).bind λe=>
 (cnd e (some (.bool true)) (
 (aA 4 a).bind λg=>
 (aC g).bind λh=>
 (aL h (.int 64)).bind λi=>
 some i)).bind λg=>
 cnd g (
 some [(.bool false)]) (
 (aA 0 a).bind λh=>
 (aK h (.int 4)).bind λi=>
 (cnd i (
 (aA 3 a).bind λj=>
 (aC j).bind λk=>
 (aL k (.int 0)).bind λl=>
 some l) (some (.bool false))).bind λj=>
 (cnd j (some (.bool true)) (
 (aK h (.int 5)).bind λk=>
 (cnd k (
 (aA 4 a).bind λl=>
 (aC l).bind λm=>
 (aL m (.int 0)).bind λn=>
 some n) (some (.bool false))).bind λl=>
 some l)).bind λk=>
 cnd k (
 some [(.bool false)]) (
 W Afx 1 [b,(.int 0),a])):=Aq rfl (by kernel_rfl)
theorem Ako:W Afx 1 [a,b,c]=
 (aA 3 c).bind λd=>
 (aC d).bind λe=>
 (aF b e).bind λg=>
 cnd g (
 (aB d b).bind λh=>
 (aQ .i64 a (.int 1)).bind λi=>
 calls (W Afx 0 [h,i]) 1 λj=>
 (aG j).bind λk=>
 cnd k (
 some [(.bool false)]) (
 (aD .i64 b (.int 1)).bind λl=>
 W Afx 1 [a,l,c])) (
 W Afx 2 [a,(.int 0),c]):=Aq rfl (by kernel_rfl)
theorem Amz:W Afx 2 [a,b,c]=
 (aA 4 c).bind λd=>
 (aC d).bind λe=>
 (aF b e).bind λg=>
 cnd g (
 (aB d b).bind λh=>
 (aA 0 h).bind λi=>
 calls (W A18 0 [i]) 1 λj=>
 (aG j).bind λk=>
 (cnd k (some (.bool true)) (
 (aL b (.int 0)).bind λl=>
 (cnd l (
 (aQ .i64 b (.int 1)).bind λm=>
 (aB d m).bind λn=>
 (aA 0 n).bind λo=>
 (O.sLe i o).bind λp=>
 some p) (some (.bool false))).bind λm=>
 some m)).bind λl=>
 (cnd l (some (.bool true)) (
 (aI 1 5 h).bind λm=>
 (aQ .i64 a (.int 1)).bind λn=>
 calls (W Afx 0 [m,n]) 1 λo=>
 (aG o).bind λp=>
 some p)).bind λm=>
 cnd m (
 some [(.bool false)]) (
 (aD .i64 b (.int 1)).bind λn=>
 W Afx 2 [a,n,c])) (
 some [(.bool true)]):=Aq rfl (by kernel_rfl)
theorem A06:W A5o 0 [a]=
 (aA 0 a).bind λb=>
 (aE b (.int 1)).bind λc=>
 cnd c (
 (aA 1 a).bind λd=>
 (aE d (.int 0)).bind λe=>
 (cnd e (some (.bool true)) (
 (aE d (.int 1)).bind λg=>
 some g)).bind λg=>
 (cnd g (
 (aA 2 a).bind λh=>
 (aM h (.str ⟨#[]⟩)).bind λi=>
 some i) (some (.bool false))).bind λh=>
 some [h]) (
 (aE b (.int 2)).bind λd=>
 cnd d (
 (aA 1 a).bind λe=>
 (aS e (.int (-1000000000000000))).bind λg=>
 (cnd g (
 (aO e (.int 1000000000000000)).bind λh=>
 some h) (some (.bool false))).bind λh=>
 (cnd h (
 (aA 2 a).bind λi=>
 (aM i (.str ⟨#[]⟩)).bind λj=>
 some j) (some (.bool false))).bind λi=>
 some [i]) (
 (aE b (.int 3)).bind λe=>
 cnd e (
 (aA 1 a).bind λg=>
 (aE g (.int 0)).bind λh=>
 (cnd h (
 (aA 2 a).bind λi=>
 calls (W A12 0 [i]) 1 λj=>
 some j) (some (.bool false))).bind λi=>
 some [i]) (
 (aE b (.int 0)).bind λg=>
 cnd g (
 W A5o 1 [g,a]) (
 (aE b (.int 4)).bind λh=>
 cnd h (
 W A5o 1 [h,a]) (
 (aE b (.int 5)).bind λi=>
 W A5o 1 [i,a]))))):=Aq rfl (by kernel_rfl)
theorem Tl:W A5o 1 [a,b]=
 cnd a (
 (aA 1 b).bind λc=>
 (aE c (.int 0)).bind λd=>
 (cnd d (
 (aA 2 b).bind λe=>
 (aM e (.str ⟨#[]⟩)).bind λg=>
 some g) (some (.bool false))).bind λe=>
 some [e]) (
 some [(.bool false)]):=Aq rfl (by kernel_rfl)
theorem Ayx:W Abk 0 [a]=
 W Abk 1 [(.int 1),(.int 0),a]:=Aq rfl (by kernel_rfl)
theorem Am1:W Abk 1 [a,b,c]=
 (aA 3 c).bind λd=>
 (aC d).bind λe=>
 (aF b e).bind λg=>
 cnd g (
 (aB d b).bind λh=>
 calls (W Abk 0 [h]) 1 λi=>
 (aD .i64 a i).bind λj=>
 (aD .i64 b (.int 1)).bind λk=>
 W Abk 1 [j,k,c]) (
 W Abk 2 [a,(.int 0),c]):=Aq rfl (by kernel_rfl)
theorem Th:W Abk 2 [a,b,c]=
 (aA 4 c).bind λd=>
 (aC d).bind λe=>
 (aF b e).bind λg=>
 cnd g (
 (aB d b).bind λh=>
 (aI 1 5 h).bind λi=>
 calls (W Abk 0 [i]) 1 λj=>
 (aD .i64 a j).bind λk=>
 (aD .i64 b (.int 1)).bind λl=>
 W Abk 2 [k,l,c]) (
 some [a]):=Aq rfl (by kernel_rfl)
theorem Ay6:W Aph 0 [a,b,c]=
 (aA 0 b).bind λd=>
 (aA 0 a).bind λe=>
 (aK d e).bind λg=>
 cnd g (
 calls (W Ape 0 [c,(.int 6)]) 1 λh=>
 some [h]) (
 (aE e (.int 2)).bind λh=>
 cnd h (
 (aA 1 b).bind λi=>
 (aA 1 a).bind λj=>
 (aF i j).bind λk=>
 (cnd k (some (.bool true)) (
 (aA 2 a).bind λl=>
 (aL i l).bind λm=>
 some m)).bind λl=>
 cnd l (
 calls (W Ape 0 [c,(.int 5)]) 1 λm=>
 some [m]) (
 some [(.list [])])) (
 (aE e (.int 3)).bind λi=>
 cnd i (
 (aA 2 b).bind λj=>
 (aU j).bind λk=>
 (aA 1 a).bind λl=>
 (aF k l).bind λm=>
 (cnd m (some (.bool true)) (
 (aA 2 a).bind λn=>
 (aL k n).bind λo=>
 some o)).bind λn=>
 cnd n (
 calls (W Ape 0 [c,(.int 5)]) 1 λo=>
 some [o]) (
 W Aph 1 [c,(.int 0),a,b])) (
 (aE e (.int 4)).bind λj=>
 cnd j (
 calls (W Xf 0 [a,b,c]) 1 λk=>
 some [k]) (
 (aE e (.int 5)).bind λk=>
 cnd k (
 calls (W Yz 0 [a,b,c]) 1 λl=>
 some [l]) (
 some [(.list [])]))))):=Aq rfl (by kernel_rfl)
theorem Alf:W Aph 1 [a,b,c,d]=
 (aA 3 c).bind λe=>
 (aC e).bind λg=>
 (aF b g).bind λh=>
 cnd h (
 (aB e b).bind λi=>
 (aA 2 d).bind λj=>
 (aM i j).bind λk=>
 cnd k (
 some [(.list [])]) (
 (aD .i64 b (.int 1)).bind λl=>
 W Aph 1 [a,l,c,d])) (
 (aL g (.int 0)).bind λi=>
 cnd i (
 calls (W Ape 0 [a,(.int 1)]) 1 λj=>
 some [j]) (
 some [(.list [])])):=Aq rfl (by kernel_rfl)
theorem Ax1:W Ape 0 [a,b]=
 calls (W Am0 0 [a]) 2 λc d=>
 (aJ [c,b]).bind λe=>
 (aN [e]).bind λg=>
 some [g]:=Aq rfl (by kernel_rfl)
theorem Aw7:W Am0 0 [a]=
 calls (W Azn 0 [a]) 1 λb=>
 (aG b).bind λc=>
 cnd c (
 some [(.str ⟨#[]⟩),(.int 1)]) (
 W Am0 1 [a,(.str ⟨#[]⟩),(.int 0)]):=Aq rfl (by kernel_rfl)
theorem Ak5:W Am0 1 [a,b,c]=
 (aC a).bind λd=>
 (aF c d).bind λe=>
 cnd e (
 (aB a c).bind λg=>
 (aA 0 g).bind λh=>
 (aE h (.int 2)).bind λi=>
 cnd i (
 (aR b (.str ⟨#[91]⟩)).bind λj=>
 (aA 2 g).bind λk=>
 calls (W Bdw 0 [k]) 1 λl=>
 (aR j l).bind λm=>
 (aR m (.str ⟨#[93]⟩)).bind λn=>
 W Am0 2 [a,n,c]) (
 (aE h (.int 3)).bind λj=>
 cnd j (
 (aR b (.str ⟨#[91]⟩)).bind λk=>
 (aA 1 g).bind λl=>
 (aR k l).bind λm=>
 (aR m (.str ⟨#[61]⟩)).bind λn=>
 (aA 3 g).bind λo=>
 calls (W Apd 0 [o]) 1 λp=>
 (aR n p).bind λq=>
 (aR q (.str ⟨#[93]⟩)).bind λr=>
 W Am0 2 [a,r,c]) (
 (aL c (.int 0)).bind λk=>
 cnd k (
 (aR b (.str ⟨#[46]⟩)).bind λl=>
 (aA 1 g).bind λm=>
 (aR l m).bind λn=>
 W Am0 2 [a,n,c]) (
 (aA 1 g).bind λl=>
 W Am0 2 [a,l,c])))) (
 some [b,(.int 0)]):=Aq rfl (by kernel_rfl)
theorem A0o:W Am0 2 [a,b,c]=
 (aD .i64 c (.int 1)).bind λd=>
 W Am0 1 [a,b,d]:=Aq rfl (by kernel_rfl)
theorem A0n:W Azn 0 [a]=
 W Azn 1 [a,(.int 0)]:=Aq rfl (by kernel_rfl)
theorem Ajo:W Azn 1 [a,b]=
 (aC a).bind λc=>
 (aF b c).bind λd=>
 cnd d (
 (aB a b).bind λe=>
 calls (W Bch 0 [e]) 1 λg=>
 (aG g).bind λh=>
 cnd h (
 some [(.bool false)]) (
 (aD .i64 b (.int 1)).bind λi=>
 W Azn 1 [a,i])) (
 (aO c (.int 16)).bind λe=>
 some [e]):=Aq rfl (by kernel_rfl)
theorem Axt:W Bch 0 [a]=
 (aA 0 a).bind λb=>
 (aE b (.int 1)).bind λc=>
 cnd c (
 (aA 1 a).bind λd=>
 calls (W A2h 0 [d]) 1 λe=>
 (cnd e (
 (aA 2 a).bind λg=>
 (aE g (.int 0)).bind λh=>
 some h) (some (.bool false))).bind λg=>
 (cnd g (
 (aA 3 a).bind λh=>
 (aM h (.str ⟨#[]⟩)).bind λi=>
 some i) (some (.bool false))).bind λh=>
 some [h]) (
 (aE b (.int 2)).bind λd=>
 cnd d (
 (aA 2 a).bind λe=>
 (aS e (.int 0)).bind λg=>
 (cnd g (
 (aO e (.int 64)).bind λh=>
 some h) (some (.bool false))).bind λh=>
 (cnd h (
 (aA 1 a).bind λi=>
 (aM i (.str ⟨#[]⟩)).bind λj=>
 some j) (some (.bool false))).bind λi=>
 (cnd i (
 (aA 3 a).bind λj=>
 (aM j (.str ⟨#[]⟩)).bind λk=>
 some k) (some (.bool false))).bind λj=>
 some [j]) (
 (aE b (.int 3)).bind λe=>
 (cnd e (
 (aA 1 a).bind λg=>
 calls (W A2h 0 [g]) 1 λh=>
 some h) (some (.bool false))).bind λg=>
 (cnd g (
 (aA 3 a).bind λh=>
 calls (W A8t 0 [h]) 1 λi=>
 some i) (some (.bool false))).bind λh=>
 (cnd h (
 (aA 2 a).bind λi=>
 (aE i (.int 0)).bind λj=>
 some j) (some (.bool false))).bind λi=>
 some [i])):=Aq rfl (by kernel_rfl)
theorem Axx:W A2h 0 [a]=
 W A2h 1 [a,(.int 0)]:=Aq rfl (by kernel_rfl)
theorem Aih:W A2h 1 [a,b]=
 (aU a).bind λc=>
 (aF b c).bind λd=>
 cnd d (
 (aV a b).bind λe=>
 calls (W Bb3 0 [e]) 1 λg=>
 (aG g).bind λh=>
 cnd h (
 some [(.bool false)]) (
 (aD .i64 b (.int 1)).bind λi=>
 W A2h 1 [a,i])) (
 (aL c (.int 0)).bind λe=>
 (cnd e (
 (aO c (.int 40)).bind λg=>
 some g) (some (.bool false))).bind λg=>
 some [g]):=Aq rfl (by kernel_rfl)
theorem Azv:W Bb3 0 [a]=
 (aS a (.int 97)).bind λb=>
 (cnd b (
 (aO a (.int 122)).bind λc=>
 some c) (some (.bool false))).bind λc=>
 (cnd c (some (.bool true)) (
 (aS a (.int 65)).bind λd=>
 (cnd d (
 (aO a (.int 90)).bind λe=>
 some e) (some (.bool false))).bind λe=>
 some e)).bind λd=>
 (cnd d (some (.bool true)) (
 (aS a (.int 48)).bind λe=>
 (cnd e (
 (aO a (.int 57)).bind λg=>
 some g) (some (.bool false))).bind λg=>
 some g)).bind λe=>
 (cnd e (some (.bool true)) (
 (aE a (.int 45)).bind λg=>
 some g)).bind λg=>
 (cnd g (some (.bool true)) (
 (aE a (.int 95)).bind λh=>
 some h)).bind λh=>
 (cnd h (some (.bool true)) (
 (aE a (.int 47)).bind λi=>
 some i)).bind λi=>
 some [i]:=Aq rfl (by kernel_rfl)
theorem Az1:W A8t 0 [a]=
 W A8t 1 [a,(.int 0)]:=Aq rfl (by kernel_rfl)
theorem Alr:W A8t 1 [a,b]=
 (aU a).bind λc=>
 (aF b c).bind λd=>
 cnd d (
 (aV a b).bind λe=>
 (aK e (.int 10)).bind λg=>
 (cnd g (
 (aF e (.int 32)).bind λh=>
 (cnd h (some (.bool true)) (
 (aL e (.int 126)).bind λi=>
 some i)).bind λi=>
 some i) (some (.bool false))).bind λh=>
 cnd h (
 some [(.bool false)]) (
 (aD .i64 b (.int 1)).bind λi=>
 W A8t 1 [a,i])) (
 (aO c (.int 200)).bind λe=>
 some [e]):=Aq rfl (by kernel_rfl)
theorem Ay0:W Bdw 0 [a]=
 (aF a (.int 10)).bind λb=>
 cnd b (
 (aD .i64 a (.int 1)).bind λc=>
 (aX (.str ⟨#[48,49,50,51,52,53,54,55,56,57]⟩) a c).bind λd=>
 some [d]) (
 (O.quo .i64 a (.int 10)).bind λc=>
 (O.quo .i64 a (.int 10)).bind λd=>
 (aD .i64 d (.int 1)).bind λe=>
 (aX (.str ⟨#[48,49,50,51,52,53,54,55,56,57]⟩) c e).bind λg=>
 (O.rem .i64 a (.int 10)).bind λh=>
 (O.rem .i64 a (.int 10)).bind λi=>
 (aD .i64 i (.int 1)).bind λj=>
 (aX (.str ⟨#[48,49,50,51,52,53,54,55,56,57]⟩) h j).bind λk=>
 (aR g k).bind λl=>
 some [l]):=Aq rfl (by kernel_rfl)
theorem A1b:W Apd 0 [a]=
 W Apd 1 [a,(.str ⟨#[34]⟩),(.int 0)]:=Aq rfl (by kernel_rfl)
theorem Am2:W Apd 1 [a,b,c]=
 (aU a).bind λd=>
 (aF c d).bind λe=>
 cnd e (
 (aV a c).bind λg=>
 (aE g (.int 10)).bind λh=>
 cnd h (
 (aR b (.str ⟨#[92,110]⟩)).bind λi=>
 W Apd 2 [a,i,c]) (
 (aE g (.int 34)).bind λi=>
 (cnd i (some (.bool true)) (
 (aE g (.int 92)).bind λj=>
 some j)).bind λj=>
 cnd j (
 (aR b (.str ⟨#[92]⟩)).bind λk=>
 (aD .i64 c (.int 1)).bind λl=>
 (aX a c l).bind λm=>
 (aR k m).bind λn=>
 W Apd 2 [a,n,c]) (
 (aD .i64 c (.int 1)).bind λk=>
 (aX a c k).bind λl=>
 (aR b l).bind λm=>
 W Apd 2 [a,m,c]))) (
 (aR b (.str ⟨#[34]⟩)).bind λg=>
 some [g]):=Aq rfl (by kernel_rfl)
theorem Ayq:W Apd 2 [a,b,c]=
 (aD .i64 c (.int 1)).bind λd=>
 W Apd 1 [a,b,d]:=Aq rfl (by kernel_rfl)
theorem A03:W Xf 0 [a,b,c]=
 (aA 3 b).bind λd=>
 (aC d).bind λe=>
 (aA 1 a).bind λg=>
 (aF e g).bind λh=>
 (cnd h (some (.bool true)) (
 (aA 2 a).bind λi=>
 (aL e i).bind λj=>
 some j)).bind λi=>
 cnd i (
 calls (W Ape 0 [c,(.int 5)]) 1 λj=>
 (aH 24 (.list []) j).bind λk=>
 W Xf 1 [c,a,b,k]) (
 W Xf 1 [c,a,b,(.list [])]):=Aq rfl (by kernel_rfl)
theorem Azf:W Xf 1 [a,b,c,d]=
 W Xf 2 [a,(.int 0),b,c,d]:=Aq rfl (by kernel_rfl)
theorem Aj3:W Xf 2 [a,b,c,d,e]=
 (aA 3 d).bind λg=>
 (aC g).bind λh=>
 (aF b h).bind λi=>
 cnd i (
 calls (W Bb2 0 [c,g,b]) 1 λj=>
 calls (W A5g 0 [a,j]) 1 λk=>
 (aA 5 c).bind λl=>
 (aB l (.int 0)).bind λm=>
 (aB g b).bind λn=>
 calls (W Aph 0 [m,n,k]) 1 λo=>
 (aH 24 e o).bind λp=>
 (aA 4 c).bind λq=>
 calls (W A2d 0 [n,q]) 2 λr s=>
 W Xf 3 [a,b,r,s,(.bool false),(.int 0),c,d,p,k]) (
 some [e]):=Aq rfl (by kernel_rfl)
theorem A0z:W Xf 3 [a,b,c,d,e,g,h,i,j,k]=
 (aF g b).bind λl=>
 (O.pick l d (.bool false)).bind λm=>
 cnd m (
 (aA 3 i).bind λn=>
 (aB n g).bind λo=>
 (aA 4 h).bind λp=>
 calls (W A2d 0 [o,p]) 2 λq r=>
 (cnd e (some (.bool true)) (
 (cnd r (
 (aM q c).bind λs=>
 some s) (some (.bool false))).bind λs=>
 some s)).bind λs=>
 (aD .i64 g (.int 1)).bind λt=>
 W Xf 3 [a,b,c,d,s,t,h,i,j,k]) (
 cnd e (
 calls (W Ape 0 [k,(.int 8)]) 1 λn=>
 (aH 24 j n).bind λo=>
 W Xf 4 [a,b,h,i,o]) (
 W Xf 4 [a,b,h,i,j])):=Aq rfl (by kernel_rfl)
theorem Ay3:W Xf 4 [a,b,c,d,e]=
 (aD .i64 b (.int 1)).bind λg=>
 W Xf 2 [a,g,c,d,e]:=Aq rfl (by kernel_rfl)
theorem Ayz:W Bb2 0 [a,b,c]=
 (aB b c).bind λd=>
 (aA 4 a).bind λe=>
 calls (W A2d 0 [d,e]) 2 λg h=>
 cnd h (
 (aJ [(.int 3),e,(.int 0),g]).bind λi=>
 some [i]) (
 (aJ [(.int 2),(.str ⟨#[]⟩),c,(.str ⟨#[]⟩)]).bind λi=>
 some [i]):=Aq rfl (by kernel_rfl)
theorem Axe:W A2d 0 [a,b]=
 calls (W Aw0 0 [a,b]) 6 λc d e g h i=>
 (cnd i (
 (aT b (.str ⟨#[]⟩)).bind λj=>
 some j) (some (.bool false))).bind λj=>
 (cnd j (
 (aE c (.int 3)).bind λk=>
 some k) (some (.bool false))).bind λk=>
 some [e,k]:=Aq rfl (by kernel_rfl)
theorem A1k:W Aw0 0 [a,b]=
 (aA 0 a).bind λc=>
 (aE c (.int 5)).bind λd=>
 cnd d (
 W Aw0 1 [b,(.int 0),a,(.int 0),(.int 0),(.str ⟨#[]⟩)]) (
 some [(.int 0),(.int 0),(.str ⟨#[]⟩),(.list []),(.list []),(.bool false)]):=Aq rfl (by kernel_rfl)
theorem Amw:W Aw0 1 [a,b,c,d,e,g]=
 (aA 4 c).bind λh=>
 (aC h).bind λi=>
 (aF b i).bind λj=>
 cnd j (
 (aB h b).bind λk=>
 (aA 0 k).bind λl=>
 (aM l a).bind λm=>
 cnd m (
 (aI 1 5 k).bind λn=>
 calls (W F10 0 [n]) 5 λo p q r s=>
 some [o,p,q,r,s,(.bool true)]) (
 (aD .i64 b (.int 1)).bind λn=>
 W Aw0 1 [a,n,c,d,e,g])) (
 some [(.int 0),(.int 0),(.str ⟨#[]⟩),(.list []),(.list []),(.bool false)]):=Aq rfl (by kernel_rfl)
theorem Aw1:W A5g 0 [a,b]=
 (aN []).bind λc=>
 (aH 48 c a).bind λd=>
 (aN [b]).bind λe=>
 (aH 48 d e).bind λg=>
 some [g]:=Aq rfl (by kernel_rfl)
theorem Awh:W Yz 0 [a,b,c]=
 W Yz 1 [c,(.int 0),a,b,(.list [])]:=Aq rfl (by kernel_rfl)
theorem Aj1:W Yz 1 [a,b,c,d,e]=
 (aA 4 d).bind λg=>
 (aC g).bind λh=>
 (aF b h).bind λi=>
 cnd i (
 (aB g b).bind λj=>
 (aA 0 j).bind λk=>
 (aJ [(.int 1),k,(.int 0),(.str ⟨#[]⟩)]).bind λl=>
 calls (W A5g 0 [a,l]) 1 λm=>
 calls (W A15 0 [c,k]) 2 λn o=>
 (aA 5 c).bind λp=>
 (aC p).bind λq=>
 (aE q (.int 0)).bind λr=>
 (cnd r (
 (aG o).bind λs=>
 some s) (some (.bool false))).bind λs=>
 cnd s (
 calls (W Ape 0 [m,(.int 1)]) 1 λt=>
 (aH 24 e t).bind λu=>
 W Yz 2 [a,b,c,d,u]) (
 (aA 1 j).bind λt=>
 (aK t (.int 0)).bind λu=>
 (cnd u (
 (aE q (.int 1)).bind λv=>
 some v) (some (.bool false))).bind λv=>
 cnd v (
 (aB p (.int 0)).bind λx=>
 (aI 1 5 j).bind λy=>
 calls (W Aph 0 [x,y,m]) 1 λz=>
 (aH 24 e z).bind λaa=>
 W Yz 2 [a,b,c,d,aa]) (
 (aK t (.int 0)).bind λx=>
 cnd x (
 (aI 4 7 n).bind λy=>
 (aI 1 5 j).bind λz=>
 calls (W Aph 0 [y,z,m]) 1 λaa=>
 (aH 24 e aa).bind λab=>
 W Yz 2 [a,b,c,d,ab]) (
 W Yz 2 [a,b,c,d,e])))) (
 W Yz 3 [a,(.int 0),c,d,e]):=Aq rfl (by kernel_rfl)
theorem Ay5:W Yz 2 [a,b,c,d,e]=
 (aD .i64 b (.int 1)).bind λg=>
 W Yz 1 [a,g,c,d,e]:=Aq rfl (by kernel_rfl)
theorem Ajs:W Yz 3 [a,b,c,d,e]=
 (aA 6 c).bind λg=>
 (aC g).bind λh=>
 (aF b h).bind λi=>
 cnd i (
 (aB g b).bind λj=>
 (aA 0 j).bind λk=>
 calls (W Bcs 0 [d,k]) 6 λl m n o p q=>
 (aA 1 j).bind λr=>
 (cnd r (
 (aG q).bind λs=>
 some s) (some (.bool false))).bind λs=>
 cnd s (
 (aJ [(.int 1),k,(.int 0),(.str ⟨#[]⟩)]).bind λt=>
 calls (W A5g 0 [a,t]) 1 λu=>
 calls (W Ape 0 [u,(.int 7)]) 1 λv=>
 (aH 24 e v).bind λx=>
 W Yz 4 [a,b,c,d,x]) (
 W Yz 4 [a,b,c,d,e])) (
 some [e]):=Aq rfl (by kernel_rfl)
theorem Azj:W Yz 4 [a,b,c,d,e]=
 (aD .i64 b (.int 1)).bind λg=>
 W Yz 3 [a,g,c,d,e]:=Aq rfl (by kernel_rfl)
theorem Awz:W Bcs 0 [a,b]=
 calls (W Aw0 0 [a,b]) 6 λc d e g h i=>
 (aG i).bind λj=>
 (cnd j (some (.bool true)) (
 (aE c (.int 0)).bind λk=>
 some k)).bind λk=>
 cnd k (
 some [(.int 0),(.int 0),(.str ⟨#[]⟩),(.list []),(.list []),(.bool false)]) (
 some [c,d,e,g,h,(.bool true)]):=Aq rfl (by kernel_rfl)
theorem A0f:W Bdt 0 [a,b]=
 calls (W Bad 0 [a]) 1 λc=>
 (aG c).bind λd=>
 (cnd d (some (.bool true)) (
 calls (W A85 0 [b]) 1 λe=>
 (aG e).bind λg=>
 some g)).bind λe=>
 cnd e (
 (aJ [(.str ⟨#[]⟩),(.int 1)]).bind λg=>
 (aN [g]).bind λh=>
 some [h]) (
 calls (W Aph 0 [a,b,(.list [])]) 1 λg=>
 some [g]):=Aq rfl (by kernel_rfl)
theorem Ajn:W Ah6 0 [a,b]=
 (aA 0 a).bind λc=>
 (aA 0 b).bind λd=>
 (aK c d).bind λe=>
 cnd e (
 some [(.bool true)]) (
 W Ah6 1 [(.int 0),a,b]):=Aq rfl (by kernel_rfl)
theorem Zz:W Ah6 1 [a,b,c]=
 (aA 3 c).bind λd=>
 (aC d).bind λe=>
 (aF a e).bind λg=>
 cnd g (
 (aB d a).bind λh=>
 (aA 4 b).bind λi=>
 calls (W A2d 0 [h,i]) 2 λj k=>
 (aT i (.str ⟨#[]⟩)).bind λl=>
 (cnd l (
 (aG k).bind λm=>
 some m) (some (.bool false))).bind λm=>
 (cnd m (some (.bool true)) (
 (aA 5 b).bind λn=>
 (aB n (.int 0)).bind λo=>
 calls (W Ah6 0 [o,h]) 1 λp=>
 (aG p).bind λq=>
 some q)).bind λn=>
 cnd n (
 some [(.bool false)]) (
 (aD .i64 a (.int 1)).bind λo=>
 W Ah6 1 [o,b,c])) (
 W Ah6 2 [(.int 0),b,c]):=Aq rfl (by kernel_rfl)
theorem Abh:W Ah6 2 [a,b,c]=
 (aA 4 c).bind λd=>
 (aC d).bind λe=>
 (aF a e).bind λg=>
 cnd g (
 (aB d a).bind λh=>
 (aA 0 h).bind λi=>
 calls (W A4n 0 [b,i]) 1 λj=>
 (aI 1 5 h).bind λk=>
 calls (W Ah6 0 [j,k]) 1 λl=>
 (aG l).bind λm=>
 cnd m (
 some [(.bool false)]) (
 (aD .i64 a (.int 1)).bind λn=>
 W Ah6 2 [n,b,c])) (
 some [(.bool true)]):=Aq rfl (by kernel_rfl)
theorem A0x:W A4n 0 [a,b]=
 (aA 5 a).bind λc=>
 (aC c).bind λd=>
 (aL d (.int 0)).bind λe=>
 cnd e (
 (aB c (.int 0)).bind λg=>
 some [g]) (
 W A4n 1 [b,(.int 0),a,(.int 0),(.int 0),(.int 0),(.str ⟨#[]⟩)]):=Aq rfl (by kernel_rfl)
theorem Ak7:W A4n 1 [a,b,c,d,e,g,h]=
 (aA 6 c).bind λi=>
 (aC i).bind λj=>
 (aF b j).bind λk=>
 cnd k (
 (aB i b).bind λl=>
 (aA 0 l).bind λm=>
 (aM m a).bind λn=>
 cnd n (
 (aI 4 7 l).bind λo=>
 some [o]) (
 (aD .i64 b (.int 1)).bind λo=>
 W A4n 1 [a,o,c,d,e,g,h])) (
 (aJ [(.int 0),(.int 0),(.int 0),(.list []),(.str ⟨#[]⟩),(.list []),(.list [])]).bind λl=>
 some [l]):=Aq rfl (by kernel_rfl)
theorem A0e:W Tf 0 [a,b]=
 (aA 0 b).bind λc=>
 (aA 0 a).bind λd=>
 (aK c d).bind λe=>
 cnd e (
 some [b]) (
 (aE c (.int 4)).bind λg=>
 (cnd g (
 (aA 5 a).bind λh=>
 (aC h).bind λi=>
 (aE i (.int 1)).bind λj=>
 some j) (some (.bool false))).bind λh=>
 cnd h (
 W Tf 1 [(.int 0),a,b,(.int 0),(.int 0),(.str ⟨#[]⟩),(.list [])]) (
 (aK c (.int 5)).bind λi=>
 cnd i (
 some [b]) (
 W Tf 2 [(.int 0),a,b,(.int 0),(.int 0),(.str ⟨#[]⟩),(.list [])]))):=Aq rfl (by kernel_rfl)
theorem Aj0:W Tf 1 [a,b,c,d,e,g,h]=
 (aA 3 c).bind λi=>
 (aC i).bind λj=>
 (aF a j).bind λk=>
 cnd k (
 (aA 5 b).bind λl=>
 (aB l (.int 0)).bind λm=>
 (aB i a).bind λn=>
 calls (W Tf 0 [m,n]) 1 λo=>
 (aN [o]).bind λp=>
 (aH 80 h p).bind λq=>
 (aD .i64 a (.int 1)).bind λr=>
 W Tf 1 [r,b,c,d,e,g,q]) (
 (aJ [(.int 4),(.int 0),(.str ⟨#[]⟩),h,(.list [])]).bind λl=>
 some [l]):=Aq rfl (by kernel_rfl)
theorem Amo:W Tf 2 [a,b,c,d,e,g,h]=
 (aA 4 c).bind λi=>
 (aC i).bind λj=>
 (aF a j).bind λk=>
 cnd k (
 (aB i a).bind λl=>
 (aA 1 l).bind λm=>
 (aE m (.int 0)).bind λn=>
 cnd n (
 W Tf 3 [a,b,c,d,e,g,h]) (
 calls (W Bcl 0 [b]) 1 λo=>
 cnd o (
 (aA 0 l).bind λp=>
 (aA 5 b).bind λq=>
 (aB q (.int 0)).bind λr=>
 (aI 1 5 l).bind λs=>
 calls (W Tf 0 [r,s]) 1 λt=>
 (aA 0 t).bind λu=>
 (aA 1 t).bind λv=>
 (aA 2 t).bind λx=>
 (aA 3 t).bind λy=>
 (aA 4 t).bind λz=>
 (aJ [p,u,v,x,y,z]).bind λaa=>
 (aN [aa]).bind λab=>
 (aH 96 h ab).bind λac=>
 W Tf 4 [a,b,c,d,e,g,ac]) (
 (aA 0 l).bind λp=>
 calls (W A4t 0 [b,p]) 2 λq r=>
 cnd r (
 (aI 1 5 l).bind λs=>
 calls (W Tf 0 [q,s]) 1 λt=>
 (aA 0 t).bind λu=>
 (aA 1 t).bind λv=>
 (aA 2 t).bind λx=>
 (aA 3 t).bind λy=>
 (aA 4 t).bind λz=>
 (aJ [p,u,v,x,y,z]).bind λaa=>
 (aN [aa]).bind λab=>
 (aH 96 h ab).bind λac=>
 W Tf 4 [a,b,c,d,e,g,ac]) (
 W Tf 4 [a,b,c,d,e,g,h])))) (
 (aJ [(.int 5),(.int 0),(.str ⟨#[]⟩),(.list []),h]).bind λl=>
 some [l]):=Aq rfl (by kernel_rfl)
theorem Ay9:W Tf 3 [a,b,c,d,e,g,h]=
 (aD .i64 a (.int 1)).bind λi=>
 W Tf 2 [i,b,c,d,e,g,h]:=Aq rfl (by kernel_rfl)
theorem Axg:W Tf 4 [a,b,c,d,e,g,h]=
 W Tf 3 [a,b,c,d,e,g,h]:=Aq rfl (by kernel_rfl)
theorem Az5:W Bcl 0 [a]=
 (aA 5 a).bind λb=>
 (aC b).bind λc=>
 (aL c (.int 0)).bind λd=>
 some [d]:=Aq rfl (by kernel_rfl)
theorem Az2:W A4t 0 [a,b]=
 W A4t 1 [b,(.int 0),a,(.int 0),(.int 0),(.int 0),(.str ⟨#[]⟩)]:=Aq rfl (by kernel_rfl)
theorem Ajt:W A4t 1 [a,b,c,d,e,g,h]=
 (aA 6 c).bind λi=>
 (aC i).bind λj=>
 (aF b j).bind λk=>
 cnd k (
 (aB i b).bind λl=>
 (aA 0 l).bind λm=>
 (aM m a).bind λn=>
 cnd n (
 (aI 4 7 l).bind λo=>
 some [o,(.bool true)]) (
 (aD .i64 b (.int 1)).bind λo=>
 W A4t 1 [a,o,c,d,e,g,h])) (
 (aJ [(.int 0),(.int 0),(.int 0),(.list []),(.str ⟨#[]⟩),(.list []),(.list [])]).bind λl=>
 some [l,(.bool false)]):=Aq rfl (by kernel_rfl)
theorem Ax9:W Auu 0 [a,b]=
 calls (W Bcf 0 [a,b]) 1 λc=>
 W Auu 1 [(.int 0),c,(.list [])]:=Aq rfl (by kernel_rfl)
theorem Am3:W Auu 1 [a,b,c]=
 (aC b).bind λd=>
 (aF a d).bind λe=>
 cnd e (
 (aB b a).bind λg=>
 (aT g (.str ⟨#[]⟩)).bind λh=>
 cnd h (
 (aN [g]).bind λi=>
 (aH 16 c i).bind λj=>
 W Auu 2 [a,b,j]) (
 W Auu 2 [a,b,c])) (
 some [c]):=Aq rfl (by kernel_rfl)
theorem Al8:W Auu 2 [a,b,c]=
 (aD .i64 a (.int 1)).bind λd=>
 W Auu 1 [d,b,c]:=Aq rfl (by kernel_rfl)
theorem Awg:W Bcf 0 [a,b]=
 calls (W Bdf 0 [a,b]) 1 λc=>
 (aG c).bind λd=>
 cnd d (
 some [(.list [])]) (
 calls (W Aa7 0 [a,(.bool true),b,(.list [])]) 1 λe=>
 calls (W Aom 0 [e,(.list [])]) 1 λg=>
 some [g]):=Aq rfl (by kernel_rfl)
theorem Axd:W Bdf 0 [a,b]=
 calls (W Bad 0 [a]) 1 λc=>
 (cnd c (
 calls (W A85 0 [b]) 1 λd=>
 some d) (some (.bool false))).bind λd=>
 some [d]:=Aq rfl (by kernel_rfl)
theorem Azl:W Aa7 0 [a,b,c,d]=
 calls (W Bcz 0 [a,b,c]) 1 λe=>
 (aG e).bind λg=>
 cnd g (
 calls (W Am0 0 [d]) 2 λh i=>
 (aN [h]).bind λj=>
 some [j]) (
 W Aa7 1 [d,(.int 0),a,c,(.list [])]):=Aq rfl (by kernel_rfl)
theorem Abm:W Aa7 1 [a,b,c,d,e]=
 (aA 3 d).bind λg=>
 (aC g).bind λh=>
 (aF b h).bind λi=>
 cnd i (
 (aA 5 c).bind λj=>
 (aB j (.int 0)).bind λk=>
 (aB g b).bind λl=>
 calls (W Bb2 0 [c,g,b]) 1 λm=>
 calls (W A5g 0 [a,m]) 1 λn=>
 calls (W Aa7 0 [k,(.bool true),l,n]) 1 λo=>
 (aH 16 e o).bind λp=>
 (aD .i64 b (.int 1)).bind λq=>
 W Aa7 1 [a,q,c,d,p]) (
 W Aa7 2 [a,(.int 0),c,d,e]):=Aq rfl (by kernel_rfl)
theorem Aad:W Aa7 2 [a,b,c,d,e]=
 (aA 4 d).bind λg=>
 (aC g).bind λh=>
 (aF b h).bind λi=>
 cnd i (
 (aB g b).bind λj=>
 (aA 0 j).bind λk=>
 calls (W A8a 0 [c,k]) 2 λl m=>
 (aI 1 5 j).bind λn=>
 (aJ [(.int 1),k,(.int 0),(.str ⟨#[]⟩)]).bind λo=>
 calls (W A5g 0 [a,o]) 1 λp=>
 calls (W Aa7 0 [l,m,n,p]) 1 λq=>
 (aH 16 e q).bind λr=>
 (aD .i64 b (.int 1)).bind λs=>
 W Aa7 2 [a,s,c,d,r]) (
 some [e]):=Aq rfl (by kernel_rfl)
theorem A0c:W Bcz 0 [a,b,c]=
 (cnd b (
 calls (W Api 0 [a,c]) 1 λd=>
 (cnd d (some (.bool true)) (
 (aA 0 a).bind λe=>
 (aE e (.int 5)).bind λg=>
 (cnd g (
 (aA 0 c).bind λh=>
 (aE h (.int 5)).bind λi=>
 some i) (some (.bool false))).bind λh=>
 (cnd h (
 (aA 4 c).bind λi=>
 (aC i).bind λj=>
 (aL j (.int 0)).bind λk=>
 some k) (some (.bool false))).bind λi=>
 some i)).bind λe=>
 some e) (some (.bool false))).bind λd=>
 some [d]:=Aq rfl (by kernel_rfl)
theorem A1n:W Api 0 [a,b]=
 (aA 0 a).bind λc=>
 (aK c (.int 4)).bind λd=>
 (cnd d (some (.bool true)) (
 (aA 4 a).bind λe=>
 (aM e (.str ⟨#[]⟩)).bind λg=>
 some g)).bind λe=>
 (cnd e (some (.bool true)) (
 (aA 0 b).bind λg=>
 (aK g (.int 4)).bind λh=>
 some h)).bind λg=>
 (cnd g (some (.bool true)) (
 (aA 3 b).bind λh=>
 (aC h).bind λi=>
 (aE i (.int 0)).bind λj=>
 some j)).bind λh=>
 cnd h (
 some [(.bool false)]) (
 W Api 1 [(.int 0),a,b]):=Aq rfl (by kernel_rfl)
theorem Ak8:W Api 1 [a,b,c]=
 (aA 3 c).bind λd=>
 (aC d).bind λe=>
 (aF a e).bind λg=>
 cnd g (
 (aB d a).bind λh=>
 (aA 4 b).bind λi=>
 calls (W A2d 0 [h,i]) 2 λj k=>
 (aG k).bind λl=>
 cnd l (
 some [(.bool false)]) (
 W Api 2 [a,j,(.int 0),b,c])) (
 some [(.bool true)]):=Aq rfl (by kernel_rfl)
theorem Akw:W Api 2 [a,b,c,d,e]=
 (aF c a).bind λg=>
 cnd g (
 (aA 3 e).bind λh=>
 (aB h c).bind λi=>
 (aA 4 d).bind λj=>
 calls (W A2d 0 [i,j]) 2 λk l=>
 (aM b k).bind λm=>
 cnd m (
 some [(.bool false)]) (
 (aD .i64 c (.int 1)).bind λn=>
 W Api 2 [a,b,n,d,e])) (
 (aD .i64 a (.int 1)).bind λh=>
 W Api 1 [h,d,e]):=Aq rfl (by kernel_rfl)
theorem Azz:W A8a 0 [a,b]=
 (aA 5 a).bind λc=>
 (aC c).bind λd=>
 (aE d (.int 1)).bind λe=>
 cnd e (
 (aB c (.int 0)).bind λg=>
 some [g,(.bool true)]) (
 W A8a 1 [b,(.int 0),a,(.int 0),(.int 0),(.int 0),(.str ⟨#[]⟩)]):=Aq rfl (by kernel_rfl)
theorem Akz:W A8a 1 [a,b,c,d,e,g,h]=
 (aA 6 c).bind λi=>
 (aC i).bind λj=>
 (aF b j).bind λk=>
 cnd k (
 (aB i b).bind λl=>
 (aA 0 l).bind λm=>
 (aM m a).bind λn=>
 cnd n (
 (aI 4 7 l).bind λo=>
 some [o,(.bool true)]) (
 (aD .i64 b (.int 1)).bind λo=>
 W A8a 1 [a,o,c,d,e,g,h])) (
 (aJ [(.int 0),(.int 0),(.int 0),(.list []),(.str ⟨#[]⟩),(.list []),(.list [])]).bind λl=>
 some [l,(.bool false)]):=Aq rfl (by kernel_rfl)
theorem Ayl:W Aom 0 [a,b]=
 W Aom 1 [a,b,(.int 0),(.list [])]:=Aq rfl (by kernel_rfl)
theorem Alm:W Aom 1 [a,b,c,d]=
 (aC a).bind λe=>
 (aF c e).bind λg=>
 cnd g (
 (aB a c).bind λh=>
 calls (W Ach 0 [d,h]) 1 λi=>
 (aD .i64 c (.int 1)).bind λj=>
 W Aom 1 [a,b,j,i]) (
 W Aom 2 [b,(.int 0),d]):=Aq rfl (by kernel_rfl)
theorem Akb:W Aom 2 [a,b,c]=
 (aC a).bind λd=>
 (aF b d).bind λe=>
 cnd e (
 (aB a b).bind λg=>
 calls (W Ach 0 [c,g]) 1 λh=>
 (aD .i64 b (.int 1)).bind λi=>
 W Aom 2 [a,i,h]) (
 some [c]):=Aq rfl (by kernel_rfl)
theorem Awt:W Ach 0 [a,b]=
 W Ach 1 [a,b,(.bool false),(.int 0),(.list [])]:=Aq rfl (by kernel_rfl)
theorem Am6:W Ach 1 [a,b,c,d,e]=
 (aC a).bind λg=>
 (aF d g).bind λh=>
 cnd h (
 (aG c).bind λi=>
 (cnd i (
 (aB a d).bind λj=>
 (O.sLe b j).bind λk=>
 some k) (some (.bool false))).bind λj=>
 cnd j (
 (aN [b]).bind λk=>
 (aH 16 e k).bind λl=>
 W Ach 2 [a,b,(.bool true),d,l]) (
 W Ach 2 [a,b,c,d,e])) (
 (aG c).bind λi=>
 cnd i (
 (aN [b]).bind λj=>
 (aH 16 e j).bind λk=>
 some [k]) (
 some [e])):=Aq rfl (by kernel_rfl)
theorem Aya:W Ach 2 [a,b,c,d,e]=
 (aB a d).bind λg=>
 (aT g b).bind λh=>
 cnd h (
 (aN [g]).bind λi=>
 (aH 16 e i).bind λj=>
 W Ach 3 [a,b,c,d,j]) (
 W Ach 3 [a,b,c,d,e]):=Aq rfl (by kernel_rfl)
theorem Ain:W Ach 3 [a,b,c,d,e]=
 (aD .i64 d (.int 1)).bind λg=>
 W Ach 1 [a,b,c,g,e]:=Aq rfl (by kernel_rfl)
theorem Ayu:W A90 0 [a,b]=
 calls (W A5b 0 [b]) 2 λc d=>
 (aK d (.int 0)).bind λe=>
 cnd e (
 (aJ [(.int 0),(.int 0),(.str ⟨#[]⟩),(.list []),(.list [])]).bind λg=>
 some [g,(.bool false)]) (
 calls (W Ar6 0 [a,c]) 2 λg h=>
 some [g,h]):=Aq rfl (by kernel_rfl)
theorem Av3:W A5b 0 [a]=
 (aU a).bind λb=>
 (aL b (.int 20000)).bind λc=>
 cnd c (
 some [(.list []),(.int 4)]) (
 W A5b 1 [a,(.int 0),(.list [])]):=Aq rfl (by kernel_rfl)
theorem Amh:W A5b 1 [a,b,c]=
 (aU a).bind λd=>
 (aF b d).bind λe=>
 cnd e (
 calls (W A5s 0 [a,b]) 1 λg=>
 (aA 5 g).bind λh=>
 cnd h (
 some [(.list []),(.int 2)]) (
 (aI 0 4 g).bind λi=>
 (aN [i]).bind λj=>
 (aH 48 c j).bind λk=>
 (aA 4 g).bind λl=>
 W A5b 1 [a,l,k])) (
 calls (W Azn 0 [c]) 1 λg=>
 (aG g).bind λh=>
 cnd h (
 some [(.list []),(.int 1)]) (
 some [c,(.int 0)])):=Aq rfl (by kernel_rfl)
theorem Ayk:W A5s 0 [a,b]=
 (aV a b).bind λc=>
 (aE c (.int 91)).bind λd=>
 cnd d (
 calls (W Bce 0 [a,b]) 1 λe=>
 some [e]) (
 (aL b (.int 0)).bind λe=>
 cnd e (
 (aK c (.int 46)).bind λg=>
 cnd g (
 (aJ [(.int 0),(.str ⟨#[]⟩),(.int 0),(.str ⟨#[]⟩),(.int 0),(.bool true)]).bind λh=>
 some [h]) (
 (aD .i64 b (.int 1)).bind λh=>
 W A5s 1 [a,h,(.int 0),(.str ⟨#[]⟩),(.int 0),(.str ⟨#[]⟩),(.int 0),(.bool false)])) (
 W A5s 1 [a,b,(.int 0),(.str ⟨#[]⟩),(.int 0),(.str ⟨#[]⟩),(.int 0),(.bool false)])):=Aq rfl (by kernel_rfl)
theorem A0t:W A5s 1 [a,b,c,d,e,g,h,i]=
 calls (W A4e 0 [a,b]) 1 λj=>
 (aX a b j).bind λk=>
 (aE j b).bind λl=>
 (aJ [(.int 1),k,(.int 0),(.str ⟨#[]⟩),j,l]).bind λm=>
 some [m]:=Aq rfl (by kernel_rfl)
theorem Aw5:W Bce 0 [a,b]=
 (aD .i64 b (.int 1)).bind λc=>
 calls (W A4e 0 [a,c]) 1 λd=>
 (aU a).bind λe=>
 (aS d e).bind λg=>
 (cnd g (some (.bool true)) (
 (aD .i64 b (.int 1)).bind λh=>
 (aE d h).bind λi=>
 some i)).bind λh=>
 cnd h (
 (aJ [(.int 0),(.str ⟨#[]⟩),(.int 0),(.str ⟨#[]⟩),(.int 0),(.bool true)]).bind λi=>
 some [i]) (
 (aD .i64 b (.int 1)).bind λi=>
 (aX a i d).bind λj=>
 (aV a d).bind λk=>
 (aE k (.int 93)).bind λl=>
 cnd l (
 calls (W F237 0 [j]) 1 λm=>
 (aD .i64 d (.int 1)).bind λn=>
 calls (W F238 0 [j]) 1 λo=>
 (aG o).bind λp=>
 (aJ [(.int 2),(.str ⟨#[]⟩),m,(.str ⟨#[]⟩),n,p]).bind λq=>
 some [q]) (
 (aK k (.int 61)).bind λm=>
 cnd m (
 (aJ [(.int 0),(.str ⟨#[]⟩),(.int 0),(.str ⟨#[]⟩),(.int 0),(.bool true)]).bind λn=>
 some [n]) (
 (aD .i64 d (.int 1)).bind λn=>
 calls (W Ahj 0 [a,n]) 3 λo p q=>
 (aG q).bind λr=>
 (cnd r (some (.bool true)) (
 (aS p e).bind λs=>
 some s)).bind λs=>
 (cnd s (some (.bool true)) (
 (aV a p).bind λt=>
 (aK t (.int 93)).bind λu=>
 some u)).bind λt=>
 cnd t (
 (aJ [(.int 0),(.str ⟨#[]⟩),(.int 0),(.str ⟨#[]⟩),(.int 0),(.bool true)]).bind λu=>
 some [u]) (
 (aD .i64 p (.int 1)).bind λu=>
 (aJ [(.int 3),j,(.int 0),o,u,(.bool false)]).bind λv=>
 some [v])))):=Aq rfl (by kernel_rfl)
theorem Ai1:W A4e 0 [a,b]=
 W A4e 1 [a,b]:=Aq rfl (by kernel_rfl)
theorem Akr:W A4e 1 [a,b]=
 (aU a).bind λc=>
 (aF b c).bind λd=>
 (cnd d (
 (aV a b).bind λe=>
 calls (W Bb3 0 [e]) 1 λg=>
 some g) (some (.bool false))).bind λe=>
 cnd e (
 (aD .i64 b (.int 1)).bind λg=>
 W A4e 1 [a,g]) (
 some [b]):=Aq rfl (by kernel_rfl)
theorem Aw3:W Ahj 0 [a,b]=
 (aU a).bind λc=>
 (aS b c).bind λd=>
 (cnd d (some (.bool true)) (
 (aV a b).bind λe=>
 (aK e (.int 34)).bind λg=>
 some g)).bind λe=>
 cnd e (
 some [(.str ⟨#[]⟩),(.int 0),(.bool false)]) (
 (aD .i64 b (.int 1)).bind λg=>
 W Ahj 1 [a,g,(.str ⟨#[]⟩)]):=Aq rfl (by kernel_rfl)
theorem Zs:W Ahj 1 [a,b,c]=
 (aU a).bind λd=>
 (aF b d).bind λe=>
 (cnd e (
 (aV a b).bind λg=>
 (aK g (.int 34)).bind λh=>
 some h) (some (.bool false))).bind λg=>
 cnd g (
 (aV a b).bind λh=>
 (aF h (.int 32)).bind λi=>
 (cnd i (some (.bool true)) (
 (aL h (.int 126)).bind λj=>
 some j)).bind λj=>
 cnd j (
 some [(.str ⟨#[]⟩),(.int 0),(.bool false)]) (
 (aK h (.int 92)).bind λk=>
 cnd k (
 (aD .i64 b (.int 1)).bind λl=>
 (aX a b l).bind λm=>
 (aR c m).bind λn=>
 (aD .i64 b (.int 1)).bind λo=>
 W Ahj 2 [a,o,n]) (
 (aD .i64 b (.int 1)).bind λl=>
 (aS l d).bind λm=>
 (cnd m (some (.bool true)) (
 (aD .i64 b (.int 1)).bind λn=>
 (aV a n).bind λo=>
 (aK o (.int 34)).bind λp=>
 (cnd p (
 (aD .i64 b (.int 1)).bind λq=>
 (aV a q).bind λr=>
 (aK r (.int 92)).bind λs=>
 some s) (some (.bool false))).bind λq=>
 (cnd q (
 (aD .i64 b (.int 1)).bind λr=>
 (aV a r).bind λs=>
 (aK s (.int 110)).bind λt=>
 some t) (some (.bool false))).bind λr=>
 some r)).bind λn=>
 cnd n (
 some [(.str ⟨#[]⟩),(.int 0),(.bool false)]) (
 (aD .i64 b (.int 1)).bind λo=>
 (aV a o).bind λp=>
 (aE p (.int 110)).bind λq=>
 cnd q (
 (aR c (.str ⟨#[10]⟩)).bind λr=>
 W Ahj 3 [a,b,r]) (
 (aD .i64 b (.int 1)).bind λr=>
 (aD .i64 b (.int 2)).bind λs=>
 (aX a r s).bind λt=>
 (aR c t).bind λu=>
 W Ahj 3 [a,b,u]))))) (
 (aD .i64 b (.int 1)).bind λh=>
 (aF b d).bind λi=>
 some [c,h,i]):=Aq rfl (by kernel_rfl)
theorem Ak2:W Ahj 2 [a,b,c]=
 W Ahj 1 [a,b,c]:=Aq rfl (by kernel_rfl)
theorem A1r:W Ahj 3 [a,b,c]=
 (aD .i64 b (.int 2)).bind λd=>
 W Ahj 2 [a,d,c]:=Aq rfl (by kernel_rfl)
theorem Ax4:W Ar6 0 [a,b]=
 calls (W Azn 0 [b]) 1 λc=>
 (aG c).bind λd=>
 cnd d (
 (aJ [(.int 0),(.int 0),(.str ⟨#[]⟩),(.list []),(.list [])]).bind λe=>
 some [e,(.bool false)]) (
 W Ar6 1 [b,(.int 0),a,(.int 0),(.int 0),(.str ⟨#[]⟩)]):=Aq rfl (by kernel_rfl)
theorem Aiz:W Ar6 1 [a,b,c,d,e,g]=
 (aC a).bind λh=>
 (aF b h).bind λi=>
 cnd i (
 (aB a b).bind λj=>
 calls (W A8f 0 [c,j]) 1 λk=>
 (aF k (.int 0)).bind λl=>
 cnd l (
 (aJ [(.int 0),(.int 0),(.str ⟨#[]⟩),(.list []),(.list [])]).bind λm=>
 some [m,(.bool false)]) (
 (aA 0 j).bind λm=>
 (aE m (.int 1)).bind λn=>
 cnd n (
 (aA 4 c).bind λo=>
 (aB o k).bind λp=>
 (aI 1 5 p).bind λq=>
 W Ar6 2 [a,b,q,d,e,g]) (
 (aA 3 c).bind λo=>
 (aB o k).bind λp=>
 W Ar6 2 [a,b,p,d,e,g]))) (
 some [c,(.bool true)]):=Aq rfl (by kernel_rfl)
theorem Av4:W Ar6 2 [a,b,c,d,e,g]=
 (aD .i64 b (.int 1)).bind λh=>
 W Ar6 1 [a,h,c,d,e,g]:=Aq rfl (by kernel_rfl)
theorem Axn:W A8f 0 [a,b]=
 (aA 0 b).bind λc=>
 (aE c (.int 1)).bind λd=>
 cnd d (
 (aA 1 b).bind λe=>
 calls (W A28 0 [a,e]) 1 λg=>
 some [g]) (
 (aA 0 a).bind λe=>
 (aK e (.int 4)).bind λg=>
 cnd g (
 some [(.int (-1))]) (
 (aE c (.int 2)).bind λh=>
 cnd h (
 (aA 2 b).bind λi=>
 (aA 3 a).bind λj=>
 (aC j).bind λk=>
 (aF i k).bind λl=>
 cnd l (
 some [i]) (
 some [(.int (-1))])) (
 W A8f 1 [(.int 0),a,b]))):=Aq rfl (by kernel_rfl)
theorem Amt:W A8f 1 [a,b,c]=
 (aA 3 b).bind λd=>
 (aC d).bind λe=>
 (aF a e).bind λg=>
 cnd g (
 (aB d a).bind λh=>
 (aA 1 c).bind λi=>
 (aA 3 c).bind λj=>
 calls (W Bdp 0 [h,i,j]) 1 λk=>
 cnd k (
 some [a]) (
 (aD .i64 a (.int 1)).bind λl=>
 W A8f 1 [l,b,c])) (
 some [(.int (-1))]):=Aq rfl (by kernel_rfl)
theorem Ayr:W A28 0 [a,b]=
 W A28 1 [b,(.int 0),a]:=Aq rfl (by kernel_rfl)
theorem Akk:W A28 1 [a,b,c]=
 (aA 4 c).bind λd=>
 (aC d).bind λe=>
 (aF b e).bind λg=>
 cnd g (
 (aA 0 c).bind λh=>
 (aE h (.int 5)).bind λi=>
 (cnd i (
 (aB d b).bind λj=>
 (aA 0 j).bind λk=>
 (aM k a).bind λl=>
 some l) (some (.bool false))).bind λj=>
 cnd j (
 some [b]) (
 (aD .i64 b (.int 1)).bind λk=>
 W A28 1 [a,k,c])) (
 some [(.int (-1))]):=Aq rfl (by kernel_rfl)
theorem Av0:W Bdp 0 [a,b,c]=
 calls (W A28 0 [a,b]) 1 λd=>
 (aS d (.int 0)).bind λe=>
 (cnd e (
 (aA 4 a).bind λg=>
 (aB g d).bind λh=>
 (aA 1 h).bind λi=>
 (aE i (.int 3)).bind λj=>
 some j) (some (.bool false))).bind λg=>
 (cnd g (
 (aA 4 a).bind λh=>
 (aB h d).bind λi=>
 (aA 3 i).bind λj=>
 (aM j c).bind λk=>
 some k) (some (.bool false))).bind λh=>
 some [h]:=Aq rfl (by kernel_rfl)
theorem Azb:W Aqq 0 [a,b]=
 W Aqq 1 [a,b,(.int 0),(.list [])]:=Aq rfl (by kernel_rfl)
theorem Ait:W Aqq 1 [a,b,c,d]=
 (aC a).bind λe=>
 (aF c e).bind λg=>
 cnd g (
 (aB a c).bind λh=>
 calls (W Avy 0 [b,h]) 1 λi=>
 cnd i (
 calls (W Ach 0 [d,h]) 1 λj=>
 W Aqq 2 [a,b,c,j]) (
 W Aqq 2 [a,b,c,d])) (
 some [d]):=Aq rfl (by kernel_rfl)
theorem Akg:W Aqq 2 [a,b,c,d]=
 (aD .i64 c (.int 1)).bind λe=>
 W Aqq 1 [a,b,e,d]:=Aq rfl (by kernel_rfl)
theorem Awx:W Avs 0 [a,b]=
 W Avs 1 [a,b,(.int 0),(.list [])]:=Aq rfl (by kernel_rfl)
theorem Ajy:W Avs 1 [a,b,c,d]=
 (aC a).bind λe=>
 (aF c e).bind λg=>
 cnd g (
 (aB a c).bind λh=>
 calls (W Avy 0 [b,h]) 1 λi=>
 (aG i).bind λj=>
 cnd j (
 calls (W Ach 0 [d,h]) 1 λk=>
 W Avs 2 [a,b,c,k]) (
 W Avs 2 [a,b,c,d])) (
 some [d]):=Aq rfl (by kernel_rfl)
theorem Aj9:W Avs 2 [a,b,c,d]=
 (aD .i64 c (.int 1)).bind λe=>
 W Avs 1 [a,b,e,d]:=Aq rfl (by kernel_rfl)
theorem A1h:W A2t 0 [a,b]=
 W A2t 1 [a,b,(.int 0)]:=Aq rfl (by kernel_rfl)
theorem Alb:W A2t 1 [a,b,c]=
 (aC a).bind λd=>
 (aF c d).bind λe=>
 cnd e (
 (aB a c).bind λg=>
 (aA 0 g).bind λh=>
 (aM h b).bind λi=>
 cnd i (
 (aA 1 g).bind λj=>
 some [j]) (
 (aD .i64 c (.int 1)).bind λj=>
 W A2t 1 [a,b,j])) (
 some [(.list [])]):=Aq rfl (by kernel_rfl)
theorem Azs:W Ab6 0 [a,b,c]=
 (aC c).bind λd=>
 (aE d (.int 0)).bind λe=>
 W Ab6 1 [a,b,c,e,(.int 0),(.list [])]:=Aq rfl (by kernel_rfl)
theorem Ajj:W Ab6 1 [a,b,c,d,e,g]=
 (aC a).bind λh=>
 (aF e h).bind λi=>
 cnd i (
 (aG d).bind λj=>
 (cnd j (
 (aB a e).bind λk=>
 (aA 0 k).bind λl=>
 (aY l b).bind λm=>
 some m) (some (.bool false))).bind λk=>
 cnd k (
 (aJ [b,c]).bind λl=>
 (aN [l]).bind λm=>
 (aH 40 g m).bind λn=>
 W Ab6 2 [a,b,c,(.bool true),e,n]) (
 W Ab6 2 [a,b,c,d,e,g])) (
 (aG d).bind λj=>
 cnd j (
 (aJ [b,c]).bind λk=>
 (aN [k]).bind λl=>
 (aH 40 g l).bind λm=>
 some [m]) (
 some [g])):=Aq rfl (by kernel_rfl)
theorem Az0:W Ab6 2 [a,b,c,d,e,g]=
 (aB a e).bind λh=>
 (aA 0 h).bind λi=>
 (aT i b).bind λj=>
 (cnd j (
 (aA 1 h).bind λk=>
 (aC k).bind λl=>
 (aL l (.int 0)).bind λm=>
 some m) (some (.bool false))).bind λk=>
 cnd k (
 (aN [h]).bind λl=>
 (aH 40 g l).bind λm=>
 W Ab6 3 [a,b,c,d,e,m]) (
 W Ab6 3 [a,b,c,d,e,g]):=Aq rfl (by kernel_rfl)
theorem Al6:W Ab6 3 [a,b,c,d,e,g]=
 (aD .i64 e (.int 1)).bind λh=>
 W Ab6 1 [a,b,c,d,h,g]:=Aq rfl (by kernel_rfl)
theorem mixed:Tryz.prog.follows .mixedOrders =true:=by kernel_rfl
theorem numbers:M3 specs=true:=by kernel_rfl
end
theorem Bdd: ∀i s f,(i,s)∈specs->pr i=some f->Aec Tryz.prog f s:=by
 intro i s f c hp
 have b:=Wi numbers c
 unfold pr at hp
 split at hp
 ·injection hp with hp;subst hp;have a:=b.symm.trans (show I0 37 specs=some ⟨141,[.data 28],[.cells 28 [true]],true⟩by kernel_rfl);injection a with a;subst a;refine aP ?_ (by kernel_rfl)
  exact Np mixed (e:=84) (fn:=Axq Tryz.prog 141) (root:=Wn Tryz.prog 141) (rest:=X8 Tryz.prog 141) ⟨by kernel_rfl,by kernel_rfl,by kernel_rfl,by kernel_rfl,by kernel_rfl,of_decide_eq_true (by kernel_rfl),by kernel_rfl,by kernel_rfl,by kernel_rfl,by kernel_rfl,96,by kernel_rfl,of_decide_eq_true (by kernel_rfl)⟩
 ·injection hp with hp;subst hp;have a:=b.symm.trans (show I0 44 specs=some ⟨253,[.data 9,.data 9],[.whole 3],false⟩by kernel_rfl);injection a with a;subst a;refine aP ?_ (by kernel_rfl)
  exact Aof (fn:=Axq Tryz.prog 253) (ts:=9) (ti:=3) (by kernel_rfl) (by kernel_rfl) (by kernel_rfl) (by kernel_rfl) (by kernel_rfl) (by kernel_rfl) (by kernel_rfl)
 ·injection hp with hp;subst hp;have a:=b.symm.trans (show I0 49 specs=some ⟨196,[.data 27],[.cells 27 [true]],true⟩by kernel_rfl);injection a with a;subst a;refine aP ?_ (by kernel_rfl)
  exact Np mixed (e:=30) (fn:=Axq Tryz.prog 196) (root:=Wn Tryz.prog 196) (rest:=X8 Tryz.prog 196) ⟨by kernel_rfl,by kernel_rfl,by kernel_rfl,by kernel_rfl,by kernel_rfl,of_decide_eq_true (by kernel_rfl),by kernel_rfl,by kernel_rfl,by kernel_rfl,by kernel_rfl,80,by kernel_rfl,of_decide_eq_true (by kernel_rfl)⟩
 ·injection hp with hp;subst hp;have a:=b.symm.trans (show I0 62 specs=some ⟨284,[.bld 223 true],[],false⟩by kernel_rfl);injection a with a;subst a;refine aP ?_ (by kernel_rfl)
  exact Adp A5x Av1 (by kernel_rfl) (by kernel_rfl)
 ·injection hp with hp;subst hp;have a:=b.symm.trans (show I0 63 specs=some ⟨258,[.data 3],[.whole 9],false⟩by kernel_rfl);injection a with a;subst a;refine aP ?_ (by kernel_rfl)
  exact A57 Tryz.A7r (by kernel_rfl) (by kernel_rfl) (by kernel_rfl)
 ·injection hp with hp;subst hp;have a:=b.symm.trans (show I0 66 specs=some ⟨260,[.bld 223 false],[.whole 9],false⟩by kernel_rfl);injection a with a;subst a;refine aP ?_ (by kernel_rfl)
  exact Atq Tryz.A5z Tryz.extra (by kernel_rfl) (by kernel_rfl) (by kernel_rfl) (by kernel_rfl)
 ·injection hp with hp;subst hp;have a:=b.symm.trans (show I0 69 specs=some ⟨316,[.data 98,.data 21],[.cells 98 [true]],false⟩by kernel_rfl);injection a with a;subst a;refine aP ?_ (by kernel_rfl)
  exact Aq0
 ·injection hp with hp;subst hp;have a:=b.symm.trans (show I0 77 specs=some ⟨261,[.data 87],[.cells 87 [true]],false⟩by kernel_rfl);injection a with a;subst a;refine aP ?_ (by kernel_rfl)
  exact Np mixed (e:=123) (fn:=Axq Tryz.prog 261) (root:=Wn Tryz.prog 261) (rest:=X8 Tryz.prog 261) ⟨by kernel_rfl,by kernel_rfl,by kernel_rfl,by kernel_rfl,by kernel_rfl,of_decide_eq_true (by kernel_rfl),by kernel_rfl,by kernel_rfl,by kernel_rfl,by kernel_rfl,48,by kernel_rfl,of_decide_eq_true (by kernel_rfl)⟩
 ·injection hp with hp;subst hp;have a:=b.symm.trans (show I0 78 specs=some ⟨280,[.own 87],[.clip 87],true⟩by kernel_rfl);injection a with a;subst a;refine aP ?_ (by kernel_rfl)
  exact A5n (fn:=Axq Tryz.prog 280) (e:=123) (by kernel_rfl) (by kernel_rfl) (by kernel_rfl) (by kernel_rfl) Ac3
 ·injection hp with hp;subst hp;have a:=b.symm.trans (show I0 111 specs=some ⟨230,[.fn 232 [22]],[.cells 22 [true]],false⟩by kernel_rfl);injection a with a;subst a;refine aP ?_ (by kernel_rfl)
  exact Coll.Anm
 ·injection hp with hp;subst hp;have a:=b.symm.trans (show I0 112 specs=some ⟨231,[.arr 22],[],false⟩by kernel_rfl);injection a with a;subst a;refine aP ?_ (by kernel_rfl)
  exact Coll.A4f
 ·injection hp with hp;subst hp;have a:=b.symm.trans (show I0 113 specs=some ⟨168,[.own 22],[.cells 22 [true]],false⟩by kernel_rfl);injection a with a;subst a;refine aP ?_ (by kernel_rfl)
  exact Coll.Ao7
 ·injection hp with hp;subst hp;have a:=b.symm.trans (show I0 124 specs=some ⟨207,[.data 9],[.whole 3,.whole 4],false⟩by kernel_rfl);injection a with a;subst a;refine aP ?_ (by kernel_rfl)
  exact Aq0
 ·injection hp with hp;subst hp;have a:=b.symm.trans (show I0 145 specs=some ⟨60,[.data 22],[.cells 22 [true]],false⟩by kernel_rfl);injection a with a;subst a;refine aP ?_ (by kernel_rfl)
  exact Np mixed (e:=9) (fn:=Axq Tryz.prog 60) (root:=Wn Tryz.prog 60) (rest:=X8 Tryz.prog 60) ⟨by kernel_rfl,by kernel_rfl,by kernel_rfl,by kernel_rfl,by kernel_rfl,of_decide_eq_true (by kernel_rfl),by kernel_rfl,by kernel_rfl,by kernel_rfl,by kernel_rfl,16,by kernel_rfl,of_decide_eq_true (by kernel_rfl)⟩
 ·injection hp with hp;subst hp;have a:=b.symm.trans (show I0 146 specs=some ⟨214,[.data 23],[.cells 23 [true]],true⟩by kernel_rfl);injection a with a;subst a;refine aP ?_ (by kernel_rfl)
  exact Np mixed (e:=26) (fn:=Axq Tryz.prog 214) (root:=Wn Tryz.prog 214) (rest:=X8 Tryz.prog 214) ⟨by kernel_rfl,by kernel_rfl,by kernel_rfl,by kernel_rfl,by kernel_rfl,of_decide_eq_true (by kernel_rfl),by kernel_rfl,by kernel_rfl,by kernel_rfl,by kernel_rfl,112,by kernel_rfl,of_decide_eq_true (by kernel_rfl)⟩
 ·injection hp with hp;subst hp;have a:=b.symm.trans (show I0 147 specs=some ⟨215,[.data 24],[.cells 24 [true]],true⟩by kernel_rfl);injection a with a;subst a;refine aP ?_ (by kernel_rfl)
  exact Np mixed (e:=94) (fn:=Axq Tryz.prog 215) (root:=Wn Tryz.prog 215) (rest:=X8 Tryz.prog 215) ⟨by kernel_rfl,by kernel_rfl,by kernel_rfl,by kernel_rfl,by kernel_rfl,of_decide_eq_true (by kernel_rfl),by kernel_rfl,by kernel_rfl,by kernel_rfl,by kernel_rfl,160,by kernel_rfl,of_decide_eq_true (by kernel_rfl)⟩
 ·injection hp with hp;subst hp;have a:=b.symm.trans (show I0 152 specs=some ⟨171,[.own 22,.data 3],[.cells 22 [true]],false⟩by kernel_rfl);injection a with a;subst a;refine aP ?_ (by kernel_rfl)
  exact Coll.A5f
 ·injection hp with hp;subst hp;have a:=b.symm.trans (show I0 169 specs=some ⟨106,[.arr 31,.fn 107 []],[],false⟩by kernel_rfl);injection a with a;subst a;refine aP ?_ (by kernel_rfl)
  exact Coll.Ayw
 ·cases hp
theorem Bak: ∀k,Sound Tryz.prog specs (run (tab Tryz.prog specs Yy 3000) pr k):=Aq4 mixed numbers (by kernel_rfl) Bdd
end Go.CT.Sch
