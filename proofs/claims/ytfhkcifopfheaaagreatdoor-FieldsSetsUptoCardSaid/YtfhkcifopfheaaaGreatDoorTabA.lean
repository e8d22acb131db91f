import Derived.Test.YtfhkcifopfheaaaGreatDoorCtC
import Derived.Test.YtfhkcifopfheaaaGreatDoorLib
import Derived.Test.YtfhkcifopfheaaaGreatDoorRows
set_option linter.unusedVariables false
set_option linter.unusedSimpArgs false
namespace Go.CT.Sch
open Go.Proofs
def F5 : Nat := 5 -- law10_awake
def F89 : Nat := 89 -- fields_set
def F90 : Nat := 90 -- slices_Values_string
def F91 : Nat := 91 -- slices_Sorted_string_slices_Values
def F92 : Nat := 92 -- slices_Collect_string_slices_Values
def F93 : Nat := 93 -- slices_Sort_string
def F94 : Nat := 94 -- slices_Compact_string
def F95 : Nat := 95 -- law10_same
def F111 : Nat := 111 -- fields_Union
def F112 : Nat := 112 -- slices_Concat_string
def F113 : Nat := 113 -- slices_Grow_string
def F114 : Nat := 114 -- fields_Minus
def F115 : Nat := 115 -- fields_pick
def F116 : Nat := 116 -- slices_DeleteFunc_string_fields_pick_1
def F117 : Nat := 117 -- slices_IndexFunc_string_fields_pick_1
def F118 : Nat := 118 -- fields_pick_1
def F119 : Nat := 119 -- fields_Intersect
def F156 : Nat := 156 -- ref10_Union
def F157 : Nat := 157 -- ref10_put
def F158 : Nat := 158 -- law10_FieldsSets
def F159 : Nat := 159 -- ref10_Intersect
def F160 : Nat := 160 -- ref10_Has
def F161 : Nat := 161 -- ref10_Minus
def specs : List (Nat × Spec) := [
 (0, ⟨10, [.data 26, .data 33], [.whole 4], false⟩),
 (1, ⟨36, [.data 26, .data 33, .data 22], [.whole 4], false⟩),
 (2, ⟨88, [.data 26, .data 3], [.whole 3], false⟩),
 (3, ⟨53, [.data 33, .data 3], [.whole 4], false⟩),
 (4, ⟨102, [.data 33, .data 3, .data 3], [.whole 3], false⟩),
 (5, ⟨37, [], [.whole 4], false⟩),
 (6, ⟨89, [], [.cells 26 [false, false, false, true, false, true, true], .cells 33 [false, false, false, true, true]], true⟩),
 (7, ⟨90, [.data 4], [.cells 33 [false, false, false, true, true]], true⟩),
 (8, ⟨55, [.data 31], [.cells 33 [false, false, false, true, true]], true⟩),
 (9, ⟨104, [.data 33], [.cells 33 [false, false, false, true, true]], true⟩),
 (10, ⟨103, [.data 31, .data 70], [.cells 31 [true]], true⟩),
 (11, ⟨57, [.data 3], [.cells 33 [false, false, false, true, true]], true⟩),
 (12, ⟨39, [.data 26, .data 33], [.cells 22 [true]], false⟩),
 (13, ⟨91, [.data 26, .data 33], [.whole 4], false⟩),
 (14, ⟨17, [.data 26], [.whole 4], false⟩),
 (15, ⟨60, [.data 26, .data 3], [.whole 4], false⟩),
 (16, ⟨105, [.data 26, .data 3], [.whole 4], false⟩),
 (17, ⟨106, [.data 26], [.whole 4], false⟩),
 (18, ⟨175, [.data 9], [.cells 33 [false, false, false, true, true]], true⟩),
 (19, ⟨62, [.data 33], [.whole 4], false⟩),
 (20, ⟨115, [.data 33, .data 3], [.whole 4], false⟩),
 (21, ⟨178, [.data 33], [.whole 4], false⟩),
 (22, ⟨220, [.data 9], [.whole 4], false⟩),
 (23, ⟨179, [.data 9], [.whole 4], false⟩),
 (24, ⟨116, [.data 33], [.whole 3], false⟩),
 (25, ⟨107, [.data 26], [.whole 4], false⟩),
 (26, ⟨125, [.data 26, .data 9], [.whole 64, .whole 4], true⟩),
 (27, ⟨185, [.data 24, .fn 186 [9]], [.whole 3], false⟩),
 (28, ⟨186, [.data 64, .rd 9], [.whole 4], false⟩),
 (29, ⟨187, [.data 26], [.whole 4], false⟩),
 (30, ⟨108, [.data 23, .fn 109 [3]], [.whole 4], false⟩),
 (31, ⟨176, [.data 23, .fn 109 [3]], [.whole 3], false⟩),
 (32, ⟨109, [.data 26, .rd 3], [.whole 4], false⟩),
 (33, ⟨110, [.data 26, .data 3], [.whole 4], false⟩),
 (34, ⟨78, [.data 31], [.cells 33 [false, false, false, true, true]], true⟩),
 (35, ⟨135, [.data 31], [.cells 31 [true]], true⟩),
 (36, ⟨136, [.arr 31, .fn 137 []], [], false⟩),
 (37, ⟨193, [.arr 31, .data 3, .fn 137 []], [], false⟩),
 (38, ⟨224, [.arr 31, .data 3, .data 3, .fn 137 []], [], false⟩),
 (39, ⟨137, [.data 70, .data 70], [.whole 3], false⟩),
 (40, ⟨84, [.data 9, .data 9], [.whole 3], false⟩),
 (41, ⟨150, [.data 9, .data 9], [.whole 3], false⟩),
 (42, ⟨199, [.data 9, .data 9], [.whole 3], false⟩),
 (43, ⟨225, [.arr 31, .data 3, .data 3, .data 3, .fn 137 []], [], false⟩),
 (44, ⟨240, [.arr 31, .data 3, .data 3, .data 3, .fn 137 []], [], false⟩),
 (45, ⟨257, [.arr 31, .data 3, .data 3, .data 3, .fn 137 []], [], false⟩),
 (46, ⟨133, [.data 33], [.cells 33 [false, false, false, true, true]], true⟩),
 (47, ⟨190, [.data 30], [.cells 30 [true]], true⟩),
 (48, ⟨63, [.data 26, .data 33], [.cells 36 [true]], false⟩),
 (49, ⟨117, [.box 89 [true], .data 26, .data 33, .data 39], [], false⟩),
 (50, ⟨144, [.box 89 [true], .data 39, .data 50], [], false⟩),
 (51, ⟨160, [.data 39], [.whole 9, .whole 50], false⟩),
 (52, ⟨65, [.data 39], [.whole 4], false⟩),
 (53, ⟨121, [.data 39, .fn 122 []], [.whole 4], false⟩),
 (54, ⟨183, [.data 39, .fn 122 []], [.whole 3], false⟩),
 (55, ⟨122, [.data 74], [.whole 4], false⟩),
 (56, ⟨123, [.data 74], [.whole 4], false⟩),
 (57, ⟨184, [.data 9], [.whole 4], false⟩),
 (58, ⟨222, [.data 21], [.whole 4], false⟩),
 (59, ⟨207, [.bld 176 true, .data 5], [.skip], false⟩),
 (60, ⟨233, [.bld 176 true], [], false⟩),
 (61, ⟨209, [.data 3], [.whole 9], false⟩),
 (62, ⟨208, [.bld 176 true, .data 9], [.whole 3, .skip], false⟩),
 (63, ⟨210, [.data 9], [.whole 9], false⟩),
 (64, ⟨211, [.bld 176 false], [.whole 9], false⟩),
 (65, ⟨235, [.bld 176 true, .data 21], [.whole 3, .skip], false⟩),
 (66, ⟨245, [.own 174, .data 21], [.cells 174 [true]], false⟩),
 (67, ⟨262, [.data 174, .data 21], [.cells 174 [true]], false⟩),
 (68, ⟨180, [.data 22, .data 9], [.whole 4], false⟩),
 (69, ⟨221, [.data 22, .data 9], [.whole 3], false⟩),
 (70, ⟨181, [.box 89 [true], .data 26, .data 33, .data 39], [], false⟩),
 (71, ⟨148, [.data 26, .data 3, .data 33], [.whole 74], false⟩),
 (72, ⟨145, [.data 33, .data 9], [.whole 9, .whole 4], false⟩),
 (73, ⟨75, [.data 33, .data 9], [.cells 33 [false, false, false, true, true], .whole 4], true⟩),
 (74, ⟨141, [.data 39, .data 74], [.cells 39 [true]], false⟩),
 (75, ⟨195, [.data 39], [.cells 39 [true]], false⟩),
 (76, ⟨194, [.own 39], [.clip 39], true⟩),
 (77, ⟨124, [.data 26], [.whole 4], false⟩),
 (78, ⟨182, [.box 89 [true], .data 26, .data 33, .data 39], [], false⟩),
 (79, ⟨142, [.data 9], [.whole 74], false⟩),
 (80, ⟨140, [.data 33, .data 9], [.cells 33 [false, false, false, true, true], .whole 4], true⟩),
 (81, ⟨92, [.data 104, .data 39, .fnb 93 1, .box 22 [true]], [], false⟩),
 (82, ⟨159, [.data 104], [.cells 142 [true]], true⟩),
 (83, ⟨205, [.data 26, .data 33], [.cells 142 [true]], true⟩),
 (84, ⟨185, [.data 24, .fn 232 [70]], [.whole 3], false⟩),
 (85, ⟨232, [.data 64, .rd 70], [.whole 4], false⟩),
 (86, ⟨206, [.data 26, .data 33], [.cells 142 [true]], true⟩),
 (87, ⟨93, [.data 9, .box 22 [true]], [], false⟩),
 (88, ⟨161, [.data 39, .data 74], [.cells 39 [true]], false⟩),
 (89, ⟨94, [.data 22], [.cells 22 [true]], false⟩),
 (90, ⟨164, [.data 22], [.clo 214 [(22, [false])]], true⟩),
 (91, ⟨163, [.fn 214 [22]], [.cells 22 [true]], false⟩),
 (92, ⟨212, [.fn 214 [22]], [.cells 22 [true]], false⟩),
 (93, ⟨213, [.arr 22], [], false⟩),
 (94, ⟨162, [.own 22], [.cells 22 [true]], false⟩),
 (95, ⟨38, [.data 22, .data 22], [.whole 4], false⟩),
 (96, ⟨47, [.data 26, .data 33, .data 22], [.whole 33], true⟩),
 (97, ⟨100, [.data 26, .data 33, .data 22, .data 4], [.whole 33], true⟩),
 (98, ⟨129, [.data 30], [.cells 33 [false, false, false, true, true]], true⟩),
 (99, ⟨171, [.data 104, .data 39, .fnb 172 2, .box 132 [true], .box 4 [false]], [.whole 33, .whole 4], true⟩),
 (100, ⟨172, [.data 9, .box 132 [true], .box 4 [false]], [.whole 4], false⟩),
 (101, ⟨76, [.data 33, .data 9, .data 33], [.cells 33 [false, false, false, true, true]], true⟩),
 (102, ⟨134, [.data 33, .data 9], [.cells 31 [true]], true⟩),
 (103, ⟨191, [.own 31, .fn 192 [9]], [.cells 31 [true]], true⟩),
 (104, ⟨223, [.data 31, .fn 192 [9]], [.whole 3], false⟩),
 (105, ⟨192, [.data 70, .rd 9], [.whole 4], false⟩),
 (106, ⟨173, [], [.cells 33 [false, false, false, true, true]], true⟩),
 (107, ⟨35, [.data 33, .data 33], [.whole 4], false⟩),
 (108, ⟨87, [.data 33, .data 33], [.whole 3], false⟩),
 (109, ⟨158, [.data 4, .data 4], [.whole 3], false⟩),
 (110, ⟨49, [.data 26, .data 33, .data 22], [.whole 33], true⟩),
 (111, ⟨41, [.data 22, .data 22], [.cells 22 [true]], false⟩),
 (112, ⟨97, [.data 151], [.cells 22 [true]], false⟩),
 (113, ⟨168, [.own 22, .data 3], [.cells 22 [true]], false⟩),
 (114, ⟨45, [.data 22, .data 22], [.cells 22 [true]], false⟩),
 (115, ⟨99, [.data 22, .data 22, .data 4], [.cells 22 [true]], false⟩),
 (116, ⟨169, [.own 22, .fnb 170 2, .box 132 [true], .box 4 [false]], [.cells 22 [true]], false⟩),
 (117, ⟨218, [.data 22, .fnb 170 2, .box 132 [true], .box 4 [false]], [.whole 3], false⟩),
 (118, ⟨170, [.data 9, .box 132 [true], .box 4 [false]], [.whole 4], false⟩),
 (119, ⟨43, [.data 22, .data 22], [.cells 22 [true]], false⟩),
 (120, ⟨40, [.data 26, .data 33], [.cells 22 [true]], false⟩),
 (121, ⟨95, [.data 26, .data 33], [.whole 4], false⟩),
 (122, ⟨18, [.data 26], [.whole 4], false⟩),
 (123, ⟨61, [.data 26, .data 3], [.whole 4], false⟩),
 (124, ⟨111, [.data 26], [.whole 4], false⟩),
 (125, ⟨112, [.data 26], [.whole 4], false⟩),
 (126, ⟨177, [.data 9], [.whole 4], false⟩),
 (127, ⟨113, [.data 26, .data 3], [.whole 4], false⟩),
 (128, ⟨69, [.data 26, .data 9], [.whole 64, .whole 4], true⟩),
 (129, ⟨114, [.data 26, .data 3], [.whole 4], false⟩),
 (130, ⟨139, [.data 9], [.whole 4], false⟩),
 (131, ⟨31, [.data 33], [.whole 4], false⟩),
 (132, ⟨79, [.data 33, .data 3], [.whole 4], false⟩),
 (133, ⟨138, [.data 33], [.whole 4], false⟩),
 (134, ⟨80, [.data 33], [.whole 3], false⟩),
 (135, ⟨64, [.data 26, .data 33, .data 39], [.cells 36 [true]], false⟩),
 (136, ⟨118, [.data 39, .data 50], [.cells 36 [true]], false⟩),
 (137, ⟨166, [.data 39], [.whole 9, .whole 50], false⟩),
 (138, ⟨68, [.data 39], [.whole 4], false⟩),
 (139, ⟨130, [.data 74], [.whole 4], false⟩),
 (140, ⟨188, [.data 9], [.whole 4], false⟩),
 (141, ⟨204, [.data 5], [.whole 4], false⟩),
 (142, ⟨189, [.data 9], [.whole 4], false⟩),
 (143, ⟨216, [.data 3], [.whole 9], false⟩),
 (144, ⟨217, [.data 9], [.whole 9], false⟩),
 (145, ⟨119, [.data 26, .data 33, .data 39], [.cells 36 [true]], false⟩),
 (146, ⟨154, [.data 26, .data 30, .data 3], [.whole 74], false⟩),
 (147, ⟨151, [.data 33, .data 9], [.whole 9, .whole 4], false⟩),
 (148, ⟨200, [.data 33, .data 9], [.cells 33 [false, false, false, true, true], .whole 4], true⟩),
 (149, ⟨153, [.data 39, .data 74], [.cells 39 [true]], false⟩),
 (150, ⟨120, [.data 26, .data 33, .data 39], [.cells 36 [true]], false⟩),
 (151, ⟨155, [.data 33, .data 9], [.cells 33 [false, false, false, true, true], .whole 4], true⟩),
 (152, ⟨96, [.data 26, .data 4, .data 33, .data 39], [.cells 22 [true]], false⟩),
 (153, ⟨165, [.data 26, .data 4, .data 33], [.whole 4], false⟩),
 (154, ⟨215, [.data 26, .data 33], [.whole 4], false⟩),
 (155, ⟨167, [.data 26, .data 9], [.whole 26, .whole 4], true⟩),
 (156, ⟨42, [.data 22, .data 22], [.cells 22 [true]], false⟩),
 (157, ⟨98, [.data 22, .data 9], [.cells 22 [true]], false⟩),
 (158, ⟨11, [.data 22, .data 22], [.whole 4], false⟩),
 (159, ⟨44, [.data 22, .data 22], [.cells 22 [true]], false⟩),
 (160, ⟨52, [.data 22, .data 9], [.whole 4], false⟩),
 (161, ⟨46, [.data 22, .data 22], [.cells 22 [true]], false⟩),
 (162, ⟨12, [.data 26, .data 33, .data 22], [.whole 4], false⟩),
 (163, ⟨48, [.data 26, .data 33, .data 22], [.cells 33 [false, false, false, true, true]], true⟩),
 (164, ⟨101, [.data 26, .data 33, .data 22, .data 4], [.cells 33 [false, false, false, true, true]], true⟩),
 (165, ⟨174, [.data 26, .data 4, .data 33, .data 39, .data 22, .data 4], [.whole 33, .whole 4], true⟩),
 (166, ⟨219, [.data 33, .data 9, .data 33], [.cells 33 [false, false, false, true, true]], true⟩),
 (167, ⟨239, [.data 33, .data 9], [.cells 31 [true]], true⟩),
 (168, ⟨50, [.data 26, .data 33, .data 22], [.cells 33 [false, false, false, true, true]], true⟩),
 (169, ⟨13, [.data 26, .data 33, .data 22], [.whole 4], false⟩),
 (170, ⟨51, [.data 33, .data 9], [.whole 33, .whole 4], true⟩),
 (171, ⟨34, [.data 9], [.cells 39 [true], .whole 50], false⟩),
 (172, ⟨86, [.data 9, .data 3], [.whole 96], false⟩),
 (173, ⟨156, [.data 9, .data 3], [.whole 96], false⟩),
 (174, ⟨157, [.data 9, .data 3], [.whole 3], false⟩),
 (175, ⟨201, [.data 9], [.whole 3], false⟩),
 (176, ⟨202, [.data 9], [.whole 4], false⟩),
 (177, ⟨203, [.data 9, .data 3], [.whole 9, .whole 3, .whole 4], false⟩),
 (178, ⟨26, [.data 33, .data 39], [.whole 33, .whole 4], true⟩),
 (179, ⟨70, [.data 33, .data 74], [.whole 3], false⟩),
 (180, ⟨131, [.data 33, .data 9], [.whole 3], false⟩),
 (181, ⟨132, [.data 33, .data 9, .data 9], [.whole 4], false⟩),
 (182, ⟨14, [.data 26, .data 33, .data 22], [.whole 4], false⟩)]
def b2 : List Blk := [
 ⟨[(0, 0, [false, false, true, false, true, true, true]), (2, 0, [false, false, true, false, true, true, true]), (1, 0, []), (0, 0, [true, true, true, true])], ⟨3, 1, [(1, ⟨[], .one (.leaf (.at (.v 0) 3))⟩), (2, ⟨[], .one (.leaf (.ptr (.p 0 0)))⟩), (5, ⟨[], .one (.leaf (.at (.v 1) 3))⟩)], [(0, .box 26 (.leaf (.at (.v 2) 26)))]⟩⟩,
 ⟨[(0, 0, [false, false, true, false, true, true, true, true]), (2, 0, [false, false, true, false, true, true, true, true]), (1, 2, []), (0, 0, [true, true, true, true, true])], ⟨3, 1, [(1, ⟨[], .one (.leaf (.at (.v 0) 3))⟩), (2, ⟨[], .one (.leaf (.ptr (.p 0 0)))⟩), (6, ⟨[], .one (.leaf (.at (.v 1) 3))⟩)], [(0, .box 26 (.leaf (.at (.v 2) 26)))]⟩⟩,
 ⟨[(0, 0, [false, false, true, false, false, false, true, false, false, true, false, true, true, true, true]), (2, 0, [false, false, true, false, false, false, true, false, false, true, false, true, true, true, true]), (1, 4, []), (0, 0, [true, false, false, true, false, false, true, false, true, true, true, true]), (1, 3, []), (0, 0, [true, true, false, false, true, false, true, true, true, true]), (2, 0, [false, false, true, false, true, true, true, true]), (1, 2, []), (0, 0, [true, true, true, true, true])], ⟨4, 1, [(1, ⟨[], .one (.leaf (.at (.v 0) 3))⟩), (2, ⟨[], .one (.leaf (.ptr (.p 0 0)))⟩), (6, ⟨[], .one (.leaf (.at (.v 1) 3))⟩), (7, ⟨[], .one (.leaf (.at (.v 2) 3))⟩)], [(0, .box 26 (.leaf (.at (.v 3) 26)))]⟩⟩]
def b4 : List Blk := [
 ⟨[(0, 0, [false, false, true, false, true, true, true]), (2, 0, [false, false, true, false, true, true, true]), (1, 0, []), (0, 0, [true, true, true, true])], ⟨4, 1, [(1, ⟨[], .one (.leaf (.at (.v 0) 3))⟩), (2, ⟨[], .one (.leaf (.at (.v 1) 3))⟩), (3, ⟨[], .one (.leaf (.ptr (.p 0 0)))⟩), (7, ⟨[], .one (.leaf (.at (.v 2) 3))⟩)], [(0, .box 33 (.leaf (.at (.v 3) 33)))]⟩⟩,
 ⟨[(0, 0, [false, false, true, false, true, true, true, true]), (2, 0, [false, false, true, false, true, true, true, true]), (1, 2, []), (0, 0, [true, true, true, true, true])], ⟨4, 1, [(1, ⟨[], .one (.leaf (.at (.v 0) 3))⟩), (2, ⟨[], .one (.leaf (.at (.v 1) 3))⟩), (3, ⟨[], .one (.leaf (.ptr (.p 0 0)))⟩), (8, ⟨[], .one (.leaf (.at (.v 2) 3))⟩)], [(0, .box 33 (.leaf (.at (.v 3) 33)))]⟩⟩]
def b8 : List Blk := [
 ⟨[(0, 0, [false, false, true, false, true, true]), (2, 0, [false, false, true, false, true, true]), (1, 0, []), (0, 0, [true, true, true])], ⟨9, 3, [(0, ⟨[], .one (.leaf (.at (.v 0) 31))⟩), (2, ⟨[], .one (.leaf (.ptr (.p 0 0)))⟩), (3, ⟨[], .one (.leaf (.ptr (.p 1 0)))⟩), (4, ⟨[], .one (.leaf (.at (.v 1) 3))⟩)], [(0, .box 33 (.agg 33 [.at (.v 2) 3, .at (.v 3) 3, .at (.v 4) 9, .nil 30, .nil 31])), (1, .box 33 (.agg 33 [.at (.v 5) 3, .at (.v 6) 3, .at (.v 7) 9, .nil 30, .ref 2 31])), (2, .arr 70 31 (.v 8))]⟩⟩]
def b9 : List Blk := [
 ⟨[(0, 0, [false, false, true, false, true, true]), (2, 0, [false, false, true, false, true, true]), (1, 0, []), (0, 0, [true, true, true])], ⟨9, 4, [(1, ⟨[], .one (.leaf (.ptr (.p 0 0)))⟩), (2, ⟨[], .one (.leaf (.ptr (.p 1 0)))⟩), (3, ⟨[], .one (.leaf (.ptr (.p 2 0)))⟩), (4, ⟨[], .one (.leaf (.at (.v 0) 3))⟩)], [(0, .box 33 (.leaf (.at (.v 1) 33))), (1, .box 33 (.agg 33 [.at (.v 2) 3, .at (.v 3) 3, .at (.v 4) 9, .nil 30, .nil 31])), (2, .box 33 (.agg 33 [.at (.v 5) 3, .at (.v 6) 3, .at (.v 7) 9, .ref 3 30, .nil 31])), (3, .arr 33 30 (.v 8))]⟩⟩,
 ⟨[(0, 0, [false, false, true, false, true, true, true]), (2, 0, [false, false, true, false, true, true, true]), (1, 2, []), (0, 0, [true, true, true, true])], ⟨10, 5, [(1, ⟨[], .one (.leaf (.ptr (.p 0 0)))⟩), (2, ⟨[], .one (.leaf (.ptr (.p 1 0)))⟩), (3, ⟨[], .one (.leaf (.ptr (.p 2 0)))⟩), (5, ⟨[], .one (.leaf (.at (.v 0) 3))⟩)], [(0, .box 33 (.leaf (.at (.v 1) 33))), (1, .box 33 (.agg 33 [.at (.v 2) 3, .at (.v 3) 3, .at (.v 4) 9, .nil 30, .nil 31])), (2, .box 33 (.agg 33 [.at (.v 5) 3, .at (.v 6) 3, .at (.v 7) 9, .ref 3 30, .ref 4 31])), (3, .arr 33 30 (.v 8)), (4, .arr 70 31 (.v 9))]⟩⟩]
def b10 : List Blk := [
 ⟨[(0, 0, [false, false, true, false, true, true, true]), (2, 0, [false, false, true, false, true, true, true]), (1, 0, []), (0, 0, [true, true, true, true])], ⟨5, 2, [(0, ⟨[], .one (.leaf (.at (.v 0) 31))⟩), (3, ⟨[], .one (.leaf (.ptr (.p 0 0)))⟩), (5, ⟨[], .one (.leaf (.ref 1 31))⟩), (6, ⟨[], .one (.leaf (.at (.v 1) 4))⟩), (7, ⟨[], .one (.leaf (.at (.v 2) 3))⟩)], [(0, .box 70 (.leaf (.at (.v 3) 70))), (1, .arr 70 31 (.v 4))]⟩⟩,
 ⟨[(0, 0, [true, false, false, true, false, false, true, false, true, true, true]), (1, 1, []), (0, 0, [true, true, false, false, true, false, true, true, true]), (2, 0, [false, false, true, false, true, true, true]), (1, 0, []), (0, 0, [true, true, true, true])], ⟨5, 2, [(0, ⟨[], .one (.leaf (.at (.v 0) 31))⟩), (3, ⟨[], .one (.leaf (.ptr (.p 0 0)))⟩), (5, ⟨[], .one (.leaf (.ref 1 31))⟩), (6, ⟨[], .one (.leaf (.at (.v 1) 4))⟩), (7, ⟨[], .one (.leaf (.at (.v 2) 3))⟩)], [(0, .box 70 (.leaf (.at (.v 3) 70))), (1, .arr 70 31 (.v 4))]⟩⟩,
 ⟨[(1, 1, []), (0, 0, [true, true, false, false, true, false, true, true, true]), (2, 0, [false, false, true, false, true, true, true]), (1, 0, []), (0, 0, [true, true, true, true])], ⟨5, 2, [(0, ⟨[], .one (.leaf (.at (.v 0) 31))⟩), (3, ⟨[], .one (.leaf (.ptr (.p 0 0)))⟩), (5, ⟨[], .one (.leaf (.ref 1 31))⟩), (6, ⟨[], .one (.leaf (.at (.v 1) 4))⟩), (7, ⟨[], .one (.leaf (.at (.v 2) 3))⟩)], [(0, .box 70 (.leaf (.at (.v 3) 70))), (1, .arr 70 31 (.v 4))]⟩⟩]
def b17 : List Blk := [
 ⟨[(0, 0, [false, false, true, false, true]), (2, 0, [false, false, true, false, true]), (1, 0, []), (0, 0, [true, true])], ⟨4, 1, [(1, ⟨[], .one (.leaf (.ptr (.p 0 0)))⟩), (6, ⟨[], .one (.leaf (.at (.v 0) 22))⟩), (7, ⟨[], .one (.leaf (.at (.v 1) 3))⟩), (8, ⟨[], .one (.leaf (.at (.v 2) 3))⟩)], [(0, .box 26 (.leaf (.at (.v 3) 26)))]⟩⟩]
def b20 : List Blk := [
 ⟨[(0, 0, [false, false, true, false, true, true]), (2, 0, [false, false, true, false, true, true]), (1, 0, []), (0, 0, [true, true, true])], ⟨5, 1, [(1, ⟨[], .one (.leaf (.at (.v 0) 3))⟩), (2, ⟨[], .one (.leaf (.ptr (.p 0 0)))⟩), (51, ⟨[], .one (.leaf (.at (.v 1) 30))⟩), (52, ⟨[], .one (.leaf (.at (.v 2) 3))⟩), (53, ⟨[], .one (.leaf (.at (.v 3) 3))⟩)], [(0, .box 33 (.leaf (.at (.v 4) 33)))]⟩⟩,
 ⟨[(0, 0, [false, false, true, false, true, true, true]), (2, 0, [false, false, true, false, true, true, true]), (1, 2, []), (0, 0, [true, true, true, true])], ⟨5, 1, [(1, ⟨[], .one (.leaf (.at (.v 0) 3))⟩), (2, ⟨[], .one (.leaf (.ptr (.p 0 0)))⟩), (64, ⟨[], .one (.leaf (.at (.v 1) 31))⟩), (65, ⟨[], .one (.leaf (.at (.v 2) 3))⟩), (66, ⟨[], .one (.leaf (.at (.v 3) 3))⟩)], [(0, .box 33 (.leaf (.at (.v 4) 33)))]⟩⟩]
def b21 : List Blk := [
 ⟨[(0, 0, [true, true, true, true, true, true, true, false, true, false, true]), (1, 0, []), (0, 0, [true, true])], ⟨2, 1, [(1, ⟨[], .one (.leaf (.ptr (.p 0 0)))⟩), (45, ⟨[], .one (.leaf (.at (.v 0) 4))⟩)], [(0, .box 33 (.leaf (.at (.v 1) 33)))]⟩⟩]
def b22 : List Blk := [
 ⟨[(0, 0, [false, false, true, false, true]), (2, 0, [false, false, true, false, true]), (1, 0, []), (0, 0, [true, true])], ⟨3, 0, [(0, ⟨[], .one (.leaf (.at (.v 0) 9))⟩), (5, ⟨[], .one (.leaf (.at (.v 1) 3))⟩), (6, ⟨[], .one (.leaf (.at (.v 2) 3))⟩)], []⟩⟩]
def b23 : List Blk := [
 ⟨[(0, 0, [false, false, true, false, true]), (2, 0, [false, false, true, false, true]), (1, 0, []), (0, 0, [true, true])], ⟨3, 0, [(0, ⟨[], .one (.leaf (.at (.v 0) 9))⟩), (6, ⟨[], .one (.leaf (.at (.v 1) 3))⟩), (7, ⟨[], .one (.leaf (.at (.v 2) 3))⟩)], []⟩⟩]
def b24 : List Blk := [
 ⟨[(0, 0, [false, false, true, false, true, true]), (2, 0, [false, false, true, false, true, true]), (1, 0, []), (0, 0, [true, true, true])], ⟨5, 1, [(1, ⟨[], .one (.leaf (.ptr (.p 0 0)))⟩), (3, ⟨[], .one (.leaf (.at (.v 0) 3))⟩), (9, ⟨[], .one (.leaf (.at (.v 1) 30))⟩), (10, ⟨[], .one (.leaf (.at (.v 2) 3))⟩), (11, ⟨[], .one (.leaf (.at (.v 3) 3))⟩)], [(0, .box 33 (.leaf (.at (.v 4) 33)))]⟩⟩,
 ⟨[(0, 0, [false, false, true, false, true, true, true]), (2, 0, [false, false, true, false, true, true, true]), (1, 2, []), (0, 0, [true, true, true, true])], ⟨4, 0, [(3, ⟨[], .one (.leaf (.at (.v 0) 3))⟩), (21, ⟨[], .one (.leaf (.at (.v 1) 31))⟩), (22, ⟨[], .one (.leaf (.at (.v 2) 3))⟩), (23, ⟨[], .one (.leaf (.at (.v 3) 3))⟩)], []⟩⟩]
def b27 : List Blk := [
 ⟨[(0, 0, [false, false, true, false, true]), (2, 0, [false, false, true, false, true]), (1, 0, []), (0, 0, [true, true])], ⟨4, 0, [(0, ⟨[], .one (.leaf (.at (.v 0) 24))⟩), (1, ⟨[], .one (.leaf (.fn 186 [.im (.v 1) 9 0]))⟩), (7, ⟨[], .one (.leaf (.at (.v 2) 3))⟩), (8, ⟨[], .one (.leaf (.at (.v 3) 3))⟩)], []⟩⟩]
def b31 : List Blk := [
 ⟨[(0, 0, [false, false, true, false, true]), (2, 0, [false, false, true, false, true]), (1, 0, []), (0, 0, [true, true])], ⟨4, 0, [(0, ⟨[], .one (.leaf (.at (.v 0) 23))⟩), (1, ⟨[], .one (.leaf (.fn 109 [.im (.v 1) 3 0]))⟩), (7, ⟨[], .one (.leaf (.at (.v 2) 3))⟩), (8, ⟨[], .one (.leaf (.at (.v 3) 3))⟩)], []⟩⟩]
def b33 : List Blk := [
 ⟨[(0, 0, [false, false, true, false, true]), (2, 0, [false, false, true, false, true]), (1, 0, []), (0, 0, [true, true])], ⟨5, 1, [(1, ⟨[], .one (.leaf (.at (.v 0) 3))⟩), (2, ⟨[], .one (.leaf (.ptr (.p 0 0)))⟩), (11, ⟨[], .one (.leaf (.at (.v 1) 24))⟩), (12, ⟨[], .one (.leaf (.at (.v 2) 3))⟩), (13, ⟨[], .one (.leaf (.at (.v 3) 3))⟩)], [(0, .box 26 (.leaf (.at (.v 4) 26)))]⟩⟩,
 ⟨[(0, 0, [false, false, true, true, true, true, false, false, true, true, false, false, true, false, true]), (2, 0, [false, false, true, true, true, true, false, false, true, true, false, false, true, false, true]), (1, 2, []), (1, 1, []), (0, 0, [true, true, true, false, false, true, false, true]), (2, 0, [false, false, true, false, true]), (1, 0, []), (0, 0, [true, true])], ⟨9, 2, [(1, ⟨[], .one (.leaf (.at (.v 0) 3))⟩), (2, ⟨[], .one (.leaf (.ptr (.p 0 0)))⟩), (6, ⟨[], .one (.leaf (.ptr (.p 1 0)))⟩), (11, ⟨[], .one (.leaf (.at (.v 1) 24))⟩), (12, ⟨[], .one (.leaf (.at (.v 2) 3))⟩), (13, ⟨[], .one (.leaf (.at (.v 3) 3))⟩), (56, ⟨[], .one (.leaf (.at (.v 4) 30))⟩), (57, ⟨[], .one (.leaf (.at (.v 5) 3))⟩), (58, ⟨[], .one (.leaf (.at (.v 6) 3))⟩)], [(0, .box 26 (.leaf (.at (.v 7) 26))), (1, .box 64 (.leaf (.at (.v 8) 64)))]⟩⟩]
def b34 : List Blk := [
 ⟨[(0, 0, [false, false, true, false, true, true, true, true]), (2, 0, [false, false, true, false, true, true, true, true]), (1, 0, []), (0, 0, [true, true, true, true, true])], ⟨10, 4, [(2, ⟨[], .one (.leaf (.ptr (.p 0 0)))⟩), (3, ⟨[], .one (.leaf (.ref 1 31))⟩), (4, ⟨[], .one (.leaf (.ptr (.p 2 0)))⟩), (12, ⟨[], .one (.leaf (.ref 1 31))⟩), (13, ⟨[], .one (.leaf (.at (.v 0) 3))⟩), (14, ⟨[], .one (.leaf (.at (.v 1) 3))⟩)], [(0, .box 33 (.agg 33 [.at (.v 2) 3, .at (.v 3) 3, .at (.v 4) 9, .nil 30, .nil 31])), (1, .arr 70 31 (.v 5)), (2, .box 33 (.agg 33 [.at (.v 6) 3, .at (.v 7) 3, .at (.v 8) 9, .nil 30, .ref 3 31])), (3, .arr 70 31 (.v 9))]⟩⟩,
 ⟨[(1, 1, []), (0, 0, [true, true, true, false, false, true, false, true, true, true, true]), (2, 0, [false, false, true, false, true, true, true, true]), (1, 0, []), (0, 0, [true, true, true, true, true])], ⟨10, 4, [(2, ⟨[], .one (.leaf (.ptr (.p 0 0)))⟩), (3, ⟨[], .one (.leaf (.ref 1 31))⟩), (4, ⟨[], .one (.leaf (.ptr (.p 2 0)))⟩), (12, ⟨[], .one (.leaf (.ref 1 31))⟩), (13, ⟨[], .one (.leaf (.at (.v 0) 3))⟩), (14, ⟨[], .one (.leaf (.at (.v 1) 3))⟩)], [(0, .box 33 (.agg 33 [.at (.v 2) 3, .at (.v 3) 3, .at (.v 4) 9, .nil 30, .nil 31])), (1, .arr 70 31 (.v 5)), (2, .box 33 (.agg 33 [.at (.v 6) 3, .at (.v 7) 3, .at (.v 8) 9, .nil 30, .ref 3 31])), (3, .arr 70 31 (.v 9))]⟩⟩]
def b37 : List Blk := [
 ⟨[(0, 0, [false, false, false, true, true]), (2, 0, [false, false, false, true, true]), (1, 0, []), (0, 0, [true, true, true])], ⟨5, 1, [(0, ⟨[], .one (.leaf (.ref 0 31))⟩), (1, ⟨[], .one (.leaf (.at (.v 0) 3))⟩), (2, ⟨[], .one (.leaf (.fn 137 []))⟩), (6, ⟨[], .one (.leaf (.at (.v 1) 3))⟩), (7, ⟨[], .one (.leaf (.at (.v 2) 3))⟩), (8, ⟨[], .one (.leaf (.at (.v 3) 3))⟩)], [(0, .arr 70 31 (.v 4))]⟩⟩,
 ⟨[(0, 0, [false, false, true, true, true, true]), (2, 0, [false, false, true, true, true, true]), (1, 2, [])], ⟨3, 1, [(0, ⟨[], .one (.leaf (.ref 0 31))⟩), (1, ⟨[], .one (.leaf (.at (.v 0) 3))⟩), (2, ⟨[], .one (.leaf (.fn 137 []))⟩), (6, ⟨[], .one (.leaf (.at (.v 1) 3))⟩)], [(0, .arr 70 31 (.v 2))]⟩⟩,
 ⟨[(0, 0, [false, false, false, true, false, true, false, false, true, true, true, true]), (2, 0, [false, false, false, true, false, true, false, false, true, true, true, true]), (1, 4, []), (0, 0, [true, true, false, true, false, false, true, true, true, true]), (1, 3, []), (2, 0, [false, false, true, true, true, true]), (1, 2, [])], ⟨5, 1, [(0, ⟨[], .one (.leaf (.ref 0 31))⟩), (1, ⟨[], .one (.leaf (.at (.v 0) 3))⟩), (2, ⟨[], .one (.leaf (.fn 137 []))⟩), (6, ⟨[], .one (.leaf (.at (.v 1) 3))⟩), (7, ⟨[], .one (.leaf (.at (.v 2) 3))⟩), (8, ⟨[], .one (.leaf (.at (.v 3) 3))⟩)], [(0, .arr 70 31 (.v 4))]⟩⟩,
 ⟨[(0, 0, [true, true, true, false, true, false, false, true, true, true, true]), (1, 3, []), (2, 0, [false, false, true, true, true, true]), (1, 2, [])], ⟨3, 1, [(0, ⟨[], .one (.leaf (.ref 0 31))⟩), (1, ⟨[], .one (.leaf (.at (.v 0) 3))⟩), (2, ⟨[], .one (.leaf (.fn 137 []))⟩), (6, ⟨[], .one (.leaf (.at (.v 1) 3))⟩)], [(0, .arr 70 31 (.v 2))]⟩⟩]
def b38 : List Blk := [
 ⟨[(0, 0, [false, false, true]), (2, 0, [false, false, true]), (1, 0, [])], ⟨4, 1, [(0, ⟨[], .one (.leaf (.ref 0 31))⟩), (1, ⟨[], .one (.leaf (.at (.v 0) 3))⟩), (2, ⟨[], .one (.leaf (.at (.v 1) 3))⟩), (3, ⟨[], .one (.leaf (.fn 137 []))⟩), (8, ⟨[], .one (.leaf (.at (.v 2) 3))⟩)], [(0, .arr 70 31 (.v 3))]⟩⟩,
 ⟨[(0, 0, [false, false, true, false, false, true, false, false, true]), (2, 0, [false, false, true, false, false, true, false, false, true]), (1, 2, []), (1, 1, []), (0, 0, [true, true, false, false, true]), (2, 0, [false, false, true]), (1, 0, [])], ⟨5, 1, [(0, ⟨[], .one (.leaf (.ref 0 31))⟩), (1, ⟨[], .one (.leaf (.at (.v 0) 3))⟩), (2, ⟨[], .one (.leaf (.at (.v 1) 3))⟩), (3, ⟨[], .one (.leaf (.fn 137 []))⟩), (8, ⟨[], .one (.leaf (.at (.v 2) 3))⟩), (9, ⟨[], .one (.leaf (.at (.v 3) 3))⟩)], [(0, .arr 70 31 (.v 4))]⟩⟩]
def b43 : List Blk := [
 ⟨[(0, 0, [false, false, false, true, true, false, true, false]), (2, 0, [false, false, false, true, true, false, true, false]), (1, 0, []), (0, 0, [true, true, true, false, true, false]), (0, 0, [true])], ⟨4, 1, [(0, ⟨[], .one (.leaf (.ref 0 31))⟩), (1, ⟨[], .one (.leaf (.at (.v 0) 3))⟩), (4, ⟨[], .one (.leaf (.fn 137 []))⟩), (10, ⟨[], .one (.leaf (.at (.v 1) 3))⟩), (11, ⟨[], .one (.leaf (.at (.v 2) 3))⟩)], [(0, .arr 70 31 (.v 3))]⟩⟩,
 ⟨[(0, 0, [false, false, false, true, true, false, true, false, true]), (2, 0, [false, false, false, true, true, false, true, false, true]), (1, 4, []), (0, 0, [true, true, true, false, true, false, true]), (0, 0, [true, true])], ⟨4, 1, [(0, ⟨[], .one (.leaf (.ref 0 31))⟩), (2, ⟨[], .one (.leaf (.at (.v 0) 3))⟩), (4, ⟨[], .one (.leaf (.fn 137 []))⟩), (14, ⟨[], .one (.leaf (.at (.v 1) 3))⟩), (15, ⟨[], .one (.leaf (.at (.v 2) 3))⟩)], [(0, .arr 70 31 (.v 3))]⟩⟩,
 ⟨[(0, 0, [true, true, true, true, true, true])], ⟨8, 1, [(0, ⟨[], .one (.leaf (.ref 0 31))⟩), (1, ⟨[], .one (.leaf (.at (.v 0) 3))⟩), (2, ⟨[], .one (.leaf (.at (.v 1) 3))⟩), (3, ⟨[], .one (.leaf (.at (.v 2) 3))⟩), (4, ⟨[], .one (.leaf (.fn 137 []))⟩), (18, ⟨[], .one (.leaf (.at (.v 3) 3))⟩), (19, ⟨[], .one (.leaf (.at (.v 4) 3))⟩), (20, ⟨[], .one (.leaf (.at (.v 5) 3))⟩), (21, ⟨[], .one (.leaf (.at (.v 6) 3))⟩)], [(0, .arr 70 31 (.v 7))]⟩⟩,
 ⟨[(1, 1, []), (2, 0, [false, false, false, true, true, false, true, false]), (1, 0, []), (0, 0, [true, true, true, false, true, false]), (0, 0, [true])], ⟨4, 1, [(0, ⟨[], .one (.leaf (.ref 0 31))⟩), (1, ⟨[], .one (.leaf (.at (.v 0) 3))⟩), (4, ⟨[], .one (.leaf (.fn 137 []))⟩), (10, ⟨[], .one (.leaf (.at (.v 1) 3))⟩), (11, ⟨[], .one (.leaf (.at (.v 2) 3))⟩)], [(0, .arr 70 31 (.v 3))]⟩⟩,
 ⟨[(0, 0, [false, false, true, false, true, true, true, false, true, false]), (2, 0, [false, false, true, false, true, true, true, false, true, false]), (1, 2, []), (0, 0, [true, true, true, true, false, true, false]), (0, 0, [true])], ⟨3, 1, [(0, ⟨[], .one (.leaf (.ref 0 31))⟩), (10, ⟨[], .one (.leaf (.at (.v 0) 3))⟩), (13, ⟨[], .one (.leaf (.at (.v 1) 3))⟩)], [(0, .arr 70 31 (.v 2))]⟩⟩,
 ⟨[(1, 5, []), (2, 0, [false, false, false, true, true, false, true, false, true]), (1, 4, []), (0, 0, [true, true, true, false, true, false, true]), (0, 0, [true, true])], ⟨4, 1, [(0, ⟨[], .one (.leaf (.ref 0 31))⟩), (2, ⟨[], .one (.leaf (.at (.v 0) 3))⟩), (4, ⟨[], .one (.leaf (.fn 137 []))⟩), (14, ⟨[], .one (.leaf (.at (.v 1) 3))⟩), (15, ⟨[], .one (.leaf (.at (.v 2) 3))⟩)], [(0, .arr 70 31 (.v 3))]⟩⟩,
 ⟨[(0, 0, [false, false, true, false, true, true, true, false, true, false, true]), (2, 0, [false, false, true, false, true, true, true, false, true, false, true]), (1, 6, []), (0, 0, [true, true, true, true, false, true, false, true]), (0, 0, [true, true])], ⟨3, 1, [(0, ⟨[], .one (.leaf (.ref 0 31))⟩), (14, ⟨[], .one (.leaf (.at (.v 0) 3))⟩), (17, ⟨[], .one (.leaf (.at (.v 1) 3))⟩)], [(0, .arr 70 31 (.v 2))]⟩⟩,
 ⟨[(0, 0, [false, false, false, true, true, true, true, true, true, true]), (2, 0, [false, false, false, true, true, true, true, true, true, true]), (1, 8, []), (0, 0, [true, true, true, true, true, true, true, true])], ⟨9, 1, [(0, ⟨[], .one (.leaf (.ref 0 31))⟩), (1, ⟨[], .one (.leaf (.at (.v 0) 3))⟩), (2, ⟨[], .one (.leaf (.at (.v 1) 3))⟩), (3, ⟨[], .one (.leaf (.at (.v 2) 3))⟩), (4, ⟨[], .one (.leaf (.fn 137 []))⟩), (18, ⟨[], .one (.leaf (.at (.v 3) 3))⟩), (19, ⟨[], .one (.leaf (.at (.v 4) 3))⟩), (20, ⟨[], .one (.leaf (.at (.v 5) 3))⟩), (21, ⟨[], .one (.leaf (.at (.v 6) 3))⟩), (22, ⟨[], .one (.leaf (.at (.v 7) 3))⟩)], [(0, .arr 70 31 (.v 8))]⟩⟩,
 ⟨[(1, 9, []), (2, 0, [false, false, false, true, true, true, true, true, true, true]), (1, 8, []), (0, 0, [true, true, true, true, true, true, true, true])], ⟨9, 1, [(0, ⟨[], .one (.leaf (.ref 0 31))⟩), (1, ⟨[], .one (.leaf (.at (.v 0) 3))⟩), (2, ⟨[], .one (.leaf (.at (.v 1) 3))⟩), (3, ⟨[], .one (.leaf (.at (.v 2) 3))⟩), (4, ⟨[], .one (.leaf (.fn 137 []))⟩), (18, ⟨[], .one (.leaf (.at (.v 3) 3))⟩), (19, ⟨[], .one (.leaf (.at (.v 4) 3))⟩), (20, ⟨[], .one (.leaf (.at (.v 5) 3))⟩), (21, ⟨[], .one (.leaf (.at (.v 6) 3))⟩), (22, ⟨[], .one (.leaf (.at (.v 7) 3))⟩)], [(0, .arr 70 31 (.v 8))]⟩⟩,
 ⟨[(0, 0, [true, true, true, true, true, true, true, true, true, true])], ⟨6, 1, [(0, ⟨[], .one (.leaf (.ref 0 31))⟩), (1, ⟨[], .one (.leaf (.at (.v 0) 3))⟩), (3, ⟨[], .one (.leaf (.at (.v 1) 3))⟩), (4, ⟨[], .one (.leaf (.fn 137 []))⟩), (18, ⟨[], .one (.leaf (.at (.v 2) 3))⟩), (20, ⟨[], .one (.leaf (.at (.v 3) 3))⟩), (24, ⟨[], .one (.leaf (.at (.v 4) 3))⟩)], [(0, .arr 70 31 (.v 5))]⟩⟩,
 ⟨[(0, 0, [true, true, true, true, true, true, true, true, true, true, true])], ⟨4, 1, [(0, ⟨[], .one (.leaf (.ref 0 31))⟩), (3, ⟨[], .one (.leaf (.at (.v 0) 3))⟩), (4, ⟨[], .one (.leaf (.fn 137 []))⟩), (18, ⟨[], .one (.leaf (.at (.v 1) 3))⟩), (24, ⟨[], .one (.leaf (.at (.v 2) 3))⟩)], [(0, .arr 70 31 (.v 3))]⟩⟩]
def b44 : List Blk := [
 ⟨[(0, 0, [false, false, false, true, true]), (2, 0, [false, false, false, true, true]), (1, 0, []), (0, 0, [true, true, true])], ⟨4, 1, [(0, ⟨[], .one (.leaf (.ref 0 31))⟩), (2, ⟨[], .one (.leaf (.at (.v 0) 3))⟩), (4, ⟨[], .one (.leaf (.fn 137 []))⟩), (10, ⟨[], .one (.leaf (.at (.v 1) 3))⟩), (11, ⟨[], .one (.leaf (.at (.v 2) 3))⟩)], [(0, .arr 70 31 (.v 3))]⟩⟩,
 ⟨[(1, 1, []), (2, 0, [false, false, false, true, true]), (1, 0, []), (0, 0, [true, true, true])], ⟨4, 1, [(0, ⟨[], .one (.leaf (.ref 0 31))⟩), (2, ⟨[], .one (.leaf (.at (.v 0) 3))⟩), (4, ⟨[], .one (.leaf (.fn 137 []))⟩), (10, ⟨[], .one (.leaf (.at (.v 1) 3))⟩), (11, ⟨[], .one (.leaf (.at (.v 2) 3))⟩)], [(0, .arr 70 31 (.v 3))]⟩⟩]
def b45 : List Blk := [
 ⟨[(0, 0, [false, false, true]), (2, 0, [false, false, true]), (1, 0, [])], ⟨5, 1, [(0, ⟨[], .one (.leaf (.ref 0 31))⟩), (1, ⟨[], .one (.leaf (.at (.v 0) 3))⟩), (2, ⟨[], .one (.leaf (.at (.v 1) 3))⟩), (3, ⟨[], .one (.leaf (.at (.v 2) 3))⟩), (10, ⟨[], .one (.leaf (.at (.v 3) 3))⟩)], [(0, .arr 70 31 (.v 4))]⟩⟩]
def b46 : List Blk := [
 ⟨[(0, 0, [false, false, true, false, true, true]), (2, 0, [false, false, true, false, true, true]), (1, 0, []), (0, 0, [true, true, true])], ⟨10, 3, [(1, ⟨[], .one (.leaf (.ptr (.p 0 0)))⟩), (2, ⟨[], .one (.leaf (.ptr (.p 1 0)))⟩), (12, ⟨[], .one (.leaf (.ref 2 30))⟩), (13, ⟨[], .one (.leaf (.at (.v 0) 3))⟩), (14, ⟨[], .one (.leaf (.at (.v 1) 3))⟩)], [(0, .box 33 (.agg 33 [.at (.v 2) 3, .at (.v 3) 3, .at (.v 4) 9, .ref 2 30, .at (.v 5) 31])), (1, .box 33 (.agg 33 [.at (.v 6) 3, .at (.v 7) 3, .at (.v 8) 9, .nil 30, .nil 31])), (2, .arr 33 30 (.v 9))]⟩⟩,
 ⟨[(0, 0, [false, false, true, false, true, true, true, true]), (2, 0, [false, false, true, false, true, true, true, true]), (1, 2, []), (0, 0, [true, true, true, true, true])], ⟨10, 4, [(1, ⟨[], .one (.leaf (.ptr (.p 0 0)))⟩), (2, ⟨[], .one (.leaf (.ptr (.p 1 0)))⟩), (31, ⟨[], .one (.leaf (.ref 2 31))⟩), (32, ⟨[], .one (.leaf (.at (.v 0) 3))⟩), (33, ⟨[], .one (.leaf (.at (.v 1) 3))⟩)], [(0, .box 33 (.agg 33 [.at (.v 2) 3, .at (.v 3) 3, .at (.v 4) 9, .ref 3 30, .ref 2 31])), (1, .box 33 (.agg 33 [.at (.v 5) 3, .at (.v 6) 3, .at (.v 7) 9, .nil 30, .nil 31])), (2, .arr 70 31 (.v 8)), (3, .arr 33 30 (.v 9))]⟩⟩]
def b49 : List Blk := [
 ⟨[(0, 0, [false, false, true, false, true, true, true, true, true, true, true, true, true, false, true]), (2, 0, [false, false, true, false, true, true, true, true, true, true, true, true, true, false, true]), (1, 1, []), (1, 0, [])], ⟨6, 4, [(0, ⟨[], .one (.leaf (.ptr (.p 1 0)))⟩), (3, ⟨[], .one (.leaf (.at (.v 0) 39))⟩), (5, ⟨[], .one (.leaf (.ptr (.p 2 0)))⟩), (87, ⟨[], .one (.leaf (.at (.v 1) 31))⟩), (88, ⟨[], .one (.leaf (.at (.v 2) 3))⟩), (89, ⟨[], .one (.leaf (.at (.v 3) 3))⟩)], [(1, .box 89 (.agg 89 [.ref 3 36])), (2, .box 26 (.leaf (.at (.v 4) 26))), (3, .arr 54 36 (.v 5))]⟩⟩,
 ⟨[(1, 2, []), (0, 0, [true, true, true, false, false, true, false, true, true, true, true, true, true, true, true, true, false, true]), (2, 0, [false, false, true, false, true, true, true, true, true, true, true, true, true, false, true]), (1, 1, []), (1, 0, [])], ⟨6, 4, [(0, ⟨[], .one (.leaf (.ptr (.p 1 0)))⟩), (3, ⟨[], .one (.leaf (.at (.v 0) 39))⟩), (5, ⟨[], .one (.leaf (.ptr (.p 2 0)))⟩), (87, ⟨[], .one (.leaf (.at (.v 1) 31))⟩), (88, ⟨[], .one (.leaf (.at (.v 2) 3))⟩), (89, ⟨[], .one (.leaf (.at (.v 3) 3))⟩)], [(1, .box 89 (.agg 89 [.ref 3 36])), (2, .box 26 (.leaf (.at (.v 4) 26))), (3, .arr 54 36 (.v 5))]⟩⟩]
def b51 : List Blk := [
 ⟨[(0, 0, [false, false, true, false, true, true, true]), (2, 0, [false, false, true, false, true, true, true]), (1, 0, []), (0, 0, [true, true, true, true])], ⟨4, 2, [(4, ⟨[], .one (.leaf (.ptr (.p 0 0)))⟩), (10, ⟨[], .one (.leaf (.at (.v 0) 39))⟩), (11, ⟨[], .one (.leaf (.at (.v 1) 3))⟩), (12, ⟨[], .one (.leaf (.at (.v 2) 3))⟩)], [(0, .box 176 (.agg 176 [.hid 0, .ref 1 174])), (1, .arr 5 174 (.v 3))]⟩⟩,
 ⟨[(0, 0, [true, false, true, false, true, true, false, false, true, true, false, false, true, false, true, true, true]), (1, 2, []), (1, 1, []), (0, 0, [true, true, true, false, false, true, false, true, true, true]), (2, 0, [false, false, true, false, true, true, true]), (1, 0, []), (0, 0, [true, true, true, true])], ⟨5, 3, [(4, ⟨[], .one (.leaf (.ptr (.p 0 0)))⟩), (6, ⟨[], .one (.leaf (.ptr (.p 1 0)))⟩), (10, ⟨[], .one (.leaf (.at (.v 0) 39))⟩), (11, ⟨[], .one (.leaf (.at (.v 1) 3))⟩), (12, ⟨[], .one (.leaf (.at (.v 2) 3))⟩)], [(0, .box 176 (.agg 176 [.hid 0, .ref 2 174])), (1, .box 74 (.leaf (.at (.v 3) 74))), (2, .arr 5 174 (.v 4))]⟩⟩,
 ⟨[(1, 2, []), (1, 1, []), (0, 0, [true, true, true, false, false, true, false, true, true, true]), (2, 0, [false, false, true, false, true, true, true]), (1, 0, []), (0, 0, [true, true, true, true])], ⟨4, 2, [(4, ⟨[], .one (.leaf (.ptr (.p 0 0)))⟩), (10, ⟨[], .one (.leaf (.at (.v 0) 39))⟩), (11, ⟨[], .one (.leaf (.at (.v 1) 3))⟩), (12, ⟨[], .one (.leaf (.at (.v 2) 3))⟩)], [(0, .box 176 (.agg 176 [.hid 0, .ref 1 174])), (1, .arr 5 174 (.v 3))]⟩⟩]
def b54 : List Blk := [
 ⟨[(0, 0, [false, false, true, false, true]), (2, 0, [false, false, true, false, true]), (1, 0, []), (0, 0, [true, true])], ⟨3, 0, [(0, ⟨[], .one (.leaf (.at (.v 0) 39))⟩), (1, ⟨[], .one (.leaf (.fn 122 []))⟩), (7, ⟨[], .one (.leaf (.at (.v 1) 3))⟩), (8, ⟨[], .one (.leaf (.at (.v 2) 3))⟩)], []⟩⟩]
def b57 : List Blk := [
 ⟨[(0, 0, [false, false, true, false, true]), (2, 0, [false, false, true, false, true]), (1, 0, []), (0, 0, [true, true])], ⟨3, 1, [(0, ⟨[], .one (.leaf (.at (.v 0) 9))⟩), (6, ⟨[], .one (.leaf (.ptr (.p 0 0)))⟩)], [(0, .iter (.v 1) (.v 2))]⟩⟩]
def b63 : List Blk := [
 ⟨[(0, 0, [false, false, true, false, true, true, true]), (2, 0, [false, false, true, false, true, true, true]), (1, 0, []), (0, 0, [true, true, true, true])], ⟨3, 3, [(3, ⟨[], .one (.leaf (.ptr (.p 0 0)))⟩), (8, ⟨[], .one (.leaf (.ptr (.p 1 0)))⟩)], [(0, .box 176 (.agg 176 [.hid 0, .ref 2 174])), (1, .iter (.v 0) (.v 1)), (2, .arr 5 174 (.v 2))]⟩⟩,
 ⟨[(0, 0, [true, false, true, true, false, true, true, false, false, true, false, true, true, true]), (1, 2, []), (1, 1, []), (2, 0, [false, false, true, false, true, true, true]), (1, 0, []), (0, 0, [true, true, true, true])], ⟨6, 3, [(3, ⟨[], .one (.leaf (.ptr (.p 0 0)))⟩), (5, ⟨[], .one (.leaf (.at (.v 0) 21))⟩), (8, ⟨[], .one (.leaf (.ptr (.p 1 0)))⟩), (12, ⟨[], .one (.leaf (.at (.v 1) 21))⟩), (15, ⟨[], .one (.leaf (.at (.v 2) 4))⟩)], [(0, .box 176 (.agg 176 [.hid 0, .ref 2 174])), (1, .iter (.v 3) (.v 4)), (2, .arr 5 174 (.v 5))]⟩⟩,
 ⟨[(1, 2, []), (1, 1, []), (2, 0, [false, false, true, false, true, true, true]), (1, 0, []), (0, 0, [true, true, true, true])], ⟨3, 3, [(3, ⟨[], .one (.leaf (.ptr (.p 0 0)))⟩), (8, ⟨[], .one (.leaf (.ptr (.p 1 0)))⟩)], [(0, .box 176 (.agg 176 [.hid 0, .ref 2 174])), (1, .iter (.v 0) (.v 1)), (2, .arr 5 174 (.v 2))]⟩⟩]
def b69 : List Blk := [
 ⟨[(0, 0, [false, false, true, false, true]), (2, 0, [false, false, true, false, true]), (1, 0, []), (0, 0, [true, true])], ⟨4, 0, [(0, ⟨[], .one (.leaf (.at (.v 0) 22))⟩), (1, ⟨[], .one (.leaf (.at (.v 1) 9))⟩), (7, ⟨[], .one (.leaf (.at (.v 2) 3))⟩), (8, ⟨[], .one (.leaf (.at (.v 3) 3))⟩)], []⟩⟩]
def b70 : List Blk := [
 ⟨[(0, 0, [true, true])], ⟨4, 5, [(0, ⟨[], .one (.leaf (.ptr (.p 1 0)))⟩), (3, ⟨[], .one (.leaf (.at (.v 0) 39))⟩), (5, ⟨[], .one (.leaf (.ptr (.p 2 0)))⟩), (6, ⟨[], .one (.leaf (.ptr (.p 3 0)))⟩)], [(1, .box 89 (.agg 89 [.ref 4 36])), (2, .box 26 (.leaf (.at (.v 1) 26))), (3, .box 33 (.leaf (.at (.v 2) 33))), (4, .arr 54 36 (.v 3))]⟩⟩,
 ⟨[(0, 0, [false, false, true, true, true, true]), (2, 0, [false, false, true, true, true, true]), (1, 0, [])], ⟨7, 5, [(0, ⟨[], .one (.leaf (.ptr (.p 1 0)))⟩), (3, ⟨[], .one (.leaf (.at (.v 0) 39))⟩), (5, ⟨[], .one (.leaf (.ptr (.p 2 0)))⟩), (8, ⟨[], .one (.leaf (.mref 3 132))⟩), (33, ⟨[], .one (.leaf (.at (.v 1) 30))⟩), (34, ⟨[], .one (.leaf (.at (.v 2) 3))⟩), (35, ⟨[], .one (.leaf (.at (.v 3) 3))⟩)], [(1, .box 89 (.agg 89 [.ref 4 36])), (2, .box 26 (.leaf (.at (.v 4) 26))), (3, .mp 132 9 4 (.v 5)), (4, .arr 54 36 (.v 6))]⟩⟩,
 ⟨[(0, 0, [true, false, true, true, true, true, true, false, false, true, true, false, false, true, true, true, true]), (1, 1, []), (0, 0, [true, true, true, false, false, true, true, true, true]), (2, 0, [false, false, true, true, true, true]), (1, 0, [])], ⟨8, 5, [(0, ⟨[], .one (.leaf (.ptr (.p 1 0)))⟩), (3, ⟨[], .one (.leaf (.at (.v 0) 39))⟩), (5, ⟨[], .one (.leaf (.ptr (.p 2 0)))⟩), (8, ⟨[], .one (.leaf (.mref 3 132))⟩), (12, ⟨[], .one (.leaf (.at (.v 1) 9))⟩), (33, ⟨[], .one (.leaf (.at (.v 2) 30))⟩), (34, ⟨[], .one (.leaf (.at (.v 3) 3))⟩), (35, ⟨[], .one (.leaf (.at (.v 4) 3))⟩)], [(1, .box 89 (.agg 89 [.ref 4 36])), (2, .box 26 (.leaf (.at (.v 5) 26))), (3, .mp 132 9 4 (.v 6)), (4, .arr 54 36 (.v 7))]⟩⟩,
 ⟨[(1, 1, []), (0, 0, [true, true, true, false, false, true, true, true, true]), (2, 0, [false, false, true, true, true, true]), (1, 0, [])], ⟨7, 5, [(0, ⟨[], .one (.leaf (.ptr (.p 1 0)))⟩), (3, ⟨[], .one (.leaf (.at (.v 0) 39))⟩), (5, ⟨[], .one (.leaf (.ptr (.p 2 0)))⟩), (8, ⟨[], .one (.leaf (.mref 3 132))⟩), (33, ⟨[], .one (.leaf (.at (.v 1) 30))⟩), (34, ⟨[], .one (.leaf (.at (.v 2) 3))⟩), (35, ⟨[], .one (.leaf (.at (.v 3) 3))⟩)], [(1, .box 89 (.agg 89 [.ref 4 36])), (2, .box 26 (.leaf (.at (.v 4) 26))), (3, .mp 132 9 4 (.v 5)), (4, .arr 54 36 (.v 6))]⟩⟩]
def b73 : List Blk := [
 ⟨[(0, 0, [false, false, true, false, true, false, true]), (2, 0, [false, false, true, false, true, false, true]), (1, 0, []), (0, 0, [true, true])], ⟨7, 1, [(1, ⟨[], .one (.leaf (.at (.v 0) 9))⟩), (4, ⟨[], .one (.leaf (.ptr (.p 0 0)))⟩), (12, ⟨[], .one (.leaf (.at (.v 1) 31))⟩), (13, ⟨[], .one (.leaf (.at (.v 2) 3))⟩), (14, ⟨[], .one (.leaf (.at (.v 3) 3))⟩)], [(0, .box 33 (.agg 33 [.at (.v 4) 3, .at (.v 5) 3, .at (.v 6) 9, .nil 30, .nil 31]))]⟩⟩]
def b78 : List Blk := [
 ⟨[(0, 0, [false, false, true, false, true]), (2, 0, [false, false, true, false, true]), (1, 0, []), (0, 0, [true, true])], ⟨7, 5, [(0, ⟨[], .one (.leaf (.ptr (.p 1 0)))⟩), (3, ⟨[], .one (.leaf (.at (.v 0) 39))⟩), (5, ⟨[], .one (.leaf (.ptr (.p 2 0)))⟩), (6, ⟨[], .one (.leaf (.ptr (.p 3 0)))⟩), (18, ⟨[], .one (.leaf (.at (.v 1) 31))⟩), (19, ⟨[], .one (.leaf (.at (.v 2) 3))⟩), (20, ⟨[], .one (.leaf (.at (.v 3) 3))⟩)], [(1, .box 89 (.agg 89 [.ref 4 36])), (2, .box 26 (.leaf (.at (.v 4) 26))), (3, .box 33 (.leaf (.at (.v 5) 33))), (4, .arr 54 36 (.v 6))]⟩⟩,
 ⟨[(1, 1, []), (0, 0, [true, true, true, false, false, true, false, true]), (2, 0, [false, false, true, false, true]), (1, 0, []), (0, 0, [true, true])], ⟨7, 5, [(0, ⟨[], .one (.leaf (.ptr (.p 1 0)))⟩), (3, ⟨[], .one (.leaf (.at (.v 0) 39))⟩), (5, ⟨[], .one (.leaf (.ptr (.p 2 0)))⟩), (6, ⟨[], .one (.leaf (.ptr (.p 3 0)))⟩), (18, ⟨[], .one (.leaf (.at (.v 1) 31))⟩), (19, ⟨[], .one (.leaf (.at (.v 2) 3))⟩), (20, ⟨[], .one (.leaf (.at (.v 3) 3))⟩)], [(1, .box 89 (.agg 89 [.ref 4 36])), (2, .box 26 (.leaf (.at (.v 4) 26))), (3, .box 33 (.leaf (.at (.v 5) 33))), (4, .arr 54 36 (.v 6))]⟩⟩,
 ⟨[(0, 0, [false, false, true, true, true]), (2, 0, [false, false, true, true, true]), (1, 2, [])], ⟨6, 4, [(0, ⟨[], .one (.leaf (.ptr (.p 1 0)))⟩), (3, ⟨[], .one (.leaf (.at (.v 0) 39))⟩), (6, ⟨[], .one (.leaf (.ptr (.p 2 0)))⟩), (54, ⟨[], .one (.leaf (.at (.v 1) 24))⟩), (55, ⟨[], .one (.leaf (.at (.v 2) 3))⟩), (56, ⟨[], .one (.leaf (.at (.v 3) 3))⟩)], [(1, .box 89 (.agg 89 [.ref 3 36])), (2, .box 33 (.leaf (.at (.v 4) 33))), (3, .arr 54 36 (.v 5))]⟩⟩,
 ⟨[(1, 3, []), (0, 0, [true, true, true, false, false, true, true, true]), (2, 0, [false, false, true, true, true]), (1, 2, [])], ⟨6, 4, [(0, ⟨[], .one (.leaf (.ptr (.p 1 0)))⟩), (3, ⟨[], .one (.leaf (.at (.v 0) 39))⟩), (6, ⟨[], .one (.leaf (.ptr (.p 2 0)))⟩), (54, ⟨[], .one (.leaf (.at (.v 1) 24))⟩), (55, ⟨[], .one (.leaf (.at (.v 2) 3))⟩), (56, ⟨[], .one (.leaf (.at (.v 3) 3))⟩)], [(1, .box 89 (.agg 89 [.ref 3 36])), (2, .box 33 (.leaf (.at (.v 4) 33))), (3, .arr 54 36 (.v 5))]⟩⟩]
def b81 : List Blk := [
 ⟨[(0, 0, [true, true, true])], ⟨3, 4, [(1, ⟨[], .one (.leaf (.at (.v 0) 39))⟩), (2, ⟨[], .one (.leaf (.fn 93 [.p 1 0]))⟩), (6, ⟨[], .one (.leaf (.ref 2 142))⟩)], [(1, .box 22 (.leaf (.ref 3 22))), (2, .arr 104 142 (.v 1)), (3, .arr 9 22 (.v 2))]⟩⟩,
 ⟨[(0, 0, [false, false, true, true, true, true]), (2, 0, [false, false, true, true, true, true]), (1, 0, [])], ⟨5, 4, [(1, ⟨[], .one (.leaf (.at (.v 0) 39))⟩), (2, ⟨[], .one (.leaf (.fn 93 [.p 1 0]))⟩), (24, ⟨[], .one (.leaf (.ref 2 142))⟩), (25, ⟨[], .one (.leaf (.at (.v 1) 3))⟩), (26, ⟨[], .one (.leaf (.at (.v 2) 3))⟩)], [(1, .box 22 (.leaf (.ref 3 22))), (2, .arr 104 142 (.v 3)), (3, .arr 9 22 (.v 4))]⟩⟩]
def b83 : List Blk := [
 ⟨[(0, 0, [false, false, true, false, true, true]), (2, 0, [false, false, true, false, true, true]), (1, 0, []), (0, 0, [true, true, true])], ⟨5, 2, [(2, ⟨[], .one (.leaf (.ptr (.p 0 0)))⟩), (5, ⟨[], .one (.leaf (.ref 1 142))⟩), (11, ⟨[], .one (.leaf (.at (.v 0) 31))⟩), (12, ⟨[], .one (.leaf (.at (.v 1) 3))⟩), (13, ⟨[], .one (.leaf (.at (.v 2) 3))⟩)], [(0, .box 26 (.leaf (.at (.v 3) 26))), (1, .arr 104 142 (.v 4))]⟩⟩,
 ⟨[(0, 0, [true, true, true, false, false, true, true, false, false, true, false, true, true]), (1, 1, []), (0, 0, [true, true, true, false, false, true, false, true, true]), (2, 0, [false, false, true, false, true, true]), (1, 0, []), (0, 0, [true, true, true])], ⟨22, 3, [(2, ⟨[], .one (.leaf (.ptr (.p 0 0)))⟩), (5, ⟨[], .one (.leaf (.ref 1 142))⟩), (8, ⟨[], .one (.leaf (.ptr (.p 2 0)))⟩), (11, ⟨[], .one (.leaf (.at (.v 0) 31))⟩), (12, ⟨[], .one (.leaf (.at (.v 1) 3))⟩), (13, ⟨[], .one (.leaf (.at (.v 2) 3))⟩)], [(0, .box 26 (.leaf (.at (.v 3) 26))), (1, .arr 104 142 (.v 4)), (2, .box 104 (.agg 104 [.at (.v 5) 3, .at (.v 6) 9, .at (.v 7) 3, .at (.v 8) 9, .at (.v 9) 3, .at (.v 10) 3, .at (.v 11) 9, .at (.v 12) 30, .at (.v 13) 31, .at (.v 14) 3, .at (.v 15) 3, .at (.v 16) 3, .at (.v 17) 22, .at (.v 18) 9, .at (.v 19) 23, .at (.v 20) 24, .at (.v 21) 4]))]⟩⟩]
def b84 : List Blk := [
 ⟨[(0, 0, [false, false, true, false, true]), (2, 0, [false, false, true, false, true]), (1, 0, []), (0, 0, [true, true])], ⟨4, 0, [(0, ⟨[], .one (.leaf (.at (.v 0) 24))⟩), (1, ⟨[], .one (.leaf (.fn 232 [.im (.v 1) 70 0]))⟩), (7, ⟨[], .one (.leaf (.at (.v 2) 3))⟩), (8, ⟨[], .one (.leaf (.at (.v 3) 3))⟩)], []⟩⟩]
def b86 : List Blk := [
 ⟨[(0, 0, [false, false, true, false, true, true, true]), (2, 0, [false, false, true, false, true, true, true]), (1, 0, []), (0, 0, [true, true, true, true])], ⟨6, 3, [(2, ⟨[], .one (.leaf (.ptr (.p 0 0)))⟩), (5, ⟨[], .one (.leaf (.ref 1 142))⟩), (6, ⟨[], .one (.leaf (.mref 2 132))⟩), (13, ⟨[], .one (.leaf (.at (.v 0) 30))⟩), (14, ⟨[], .one (.leaf (.at (.v 1) 3))⟩), (15, ⟨[], .one (.leaf (.at (.v 2) 3))⟩)], [(0, .box 26 (.leaf (.at (.v 3) 26))), (1, .arr 104 142 (.v 4)), (2, .mp 132 9 4 (.v 5))]⟩⟩]
def b95 : List Blk := [
 ⟨[(0, 0, [false, false, true, false, true, true]), (2, 0, [false, false, true, false, true, true]), (1, 0, []), (0, 0, [true, true, true])], ⟨3, 0, [(0, ⟨[], .one (.leaf (.at (.v 0) 22))⟩), (1, ⟨[], .one (.leaf (.at (.v 1) 22))⟩), (5, ⟨[], .one (.leaf (.at (.v 2) 3))⟩)], []⟩⟩]
def b97 : List Blk := [
 ⟨[(0, 0, [false, false, true, false, true, true, true]), (2, 0, [false, false, true, false, true, true, true]), (1, 0, []), (0, 0, [true, true, true, true])], ⟨10, 6, [(4, ⟨[], .one (.leaf (.ptr (.p 0 0)))⟩), (5, ⟨[], .one (.leaf (.ptr (.p 1 0)))⟩), (7, ⟨[], .one (.leaf (.ptr (.p 2 0)))⟩), (8, ⟨[], .one (.leaf (.ptr (.p 3 0)))⟩), (9, ⟨[], .one (.leaf (.ptr (.p 4 0)))⟩), (25, ⟨[], .one (.leaf (.at (.v 0) 22))⟩), (26, ⟨[], .one (.leaf (.at (.v 1) 3))⟩), (27, ⟨[], .one (.leaf (.at (.v 2) 3))⟩)], [(0, .box 26 (.leaf (.at (.v 3) 26))), (1, .box 33 (.leaf (.at (.v 4) 33))), (2, .box 4 (.leaf (.at (.v 5) 4))), (3, .box 33 (.agg 33 [.at (.v 6) 3, .at (.v 7) 3, .at (.v 8) 9, .nil 30, .nil 31])), (4, .box 132 (.leaf (.mref 5 132))), (5, .mp 132 9 4 (.v 9))]⟩⟩]
def b99 : List Blk := [
 ⟨[(0, 0, [false, false, true, false, true, true, true, true]), (2, 0, [false, false, true, false, true, true, true, true]), (1, 0, []), (0, 0, [true, true, true, true, true])], ⟨14, 9, [(1, ⟨[], .one (.leaf (.at (.v 0) 39))⟩), (2, ⟨[], .one (.leaf (.fn 172 [.p 1 0, .p 2 0]))⟩), (6, ⟨[], .one (.leaf (.ptr (.p 3 0)))⟩), (11, ⟨[], .one (.leaf (.ptr (.p 4 0)))⟩), (35, ⟨[], .one (.leaf (.ref 5 142))⟩), (36, ⟨[], .one (.leaf (.at (.v 1) 3))⟩), (37, ⟨[], .one (.leaf (.at (.v 2) 3))⟩)], [(1, .box 132 (.leaf (.mref 6 132))), (2, .box 4 (.leaf (.at (.v 3) 4))), (3, .box 33 (.agg 33 [.at (.v 4) 3, .at (.v 5) 3, .at (.v 6) 9, .nil 30, .nil 31])), (4, .box 33 (.agg 33 [.at (.v 7) 3, .at (.v 8) 3, .at (.v 9) 9, .ref 7 30, .ref 8 31])), (5, .arr 104 142 (.v 10)), (6, .mp 132 9 4 (.v 11)), (7, .arr 33 30 (.v 12)), (8, .arr 70 31 (.v 13))]⟩⟩,
 ⟨[(1, 2, []), (1, 1, []), (0, 0, [true, true, true, false, false, true, false, true, true, true, true]), (2, 0, [false, false, true, false, true, true, true, true]), (1, 0, []), (0, 0, [true, true, true, true, true])], ⟨14, 9, [(1, ⟨[], .one (.leaf (.at (.v 0) 39))⟩), (2, ⟨[], .one (.leaf (.fn 172 [.p 1 0, .p 2 0]))⟩), (6, ⟨[], .one (.leaf (.ptr (.p 3 0)))⟩), (11, ⟨[], .one (.leaf (.ptr (.p 4 0)))⟩), (35, ⟨[], .one (.leaf (.ref 5 142))⟩), (36, ⟨[], .one (.leaf (.at (.v 1) 3))⟩), (37, ⟨[], .one (.leaf (.at (.v 2) 3))⟩)], [(1, .box 132 (.leaf (.mref 6 132))), (2, .box 4 (.leaf (.at (.v 3) 4))), (3, .box 33 (.agg 33 [.at (.v 4) 3, .at (.v 5) 3, .at (.v 6) 9, .nil 30, .nil 31])), (4, .box 33 (.agg 33 [.at (.v 7) 3, .at (.v 8) 3, .at (.v 9) 9, .ref 7 30, .ref 8 31])), (5, .arr 104 142 (.v 10)), (6, .mp 132 9 4 (.v 11)), (7, .arr 33 30 (.v 12)), (8, .arr 70 31 (.v 13))]⟩⟩]
def b103 : List Blk := [
 ⟨[(0, 0, [false, false, true, false, true, true, true]), (2, 0, [false, false, true, false, true, true, true]), (1, 0, []), (0, 0, [true, true, true, true])], ⟨4, 2, [(0, ⟨[], .one (.leaf (.ref 1 31))⟩), (1, ⟨[], .one (.leaf (.fn 192 [.im (.v 0) 9 0]))⟩), (5, ⟨[], .one (.leaf (.at (.v 1) 3))⟩), (6, ⟨[], .one (.leaf (.at (.v 2) 3))⟩)], [(1, .arr 70 31 (.v 3))]⟩⟩,
 ⟨[(1, 1, []), (0, 0, [true, true, false, false, true, false, true, true, true]), (2, 0, [false, false, true, false, true, true, true]), (1, 0, []), (0, 0, [true, true, true, true])], ⟨4, 2, [(0, ⟨[], .one (.leaf (.ref 1 31))⟩), (1, ⟨[], .one (.leaf (.fn 192 [.im (.v 0) 9 0]))⟩), (5, ⟨[], .one (.leaf (.at (.v 1) 3))⟩), (6, ⟨[], .one (.leaf (.at (.v 2) 3))⟩)], [(1, .arr 70 31 (.v 3))]⟩⟩]
def b104 : List Blk := [
 ⟨[(0, 0, [false, false, true, false, true]), (2, 0, [false, false, true, false, true]), (1, 0, []), (0, 0, [true, true])], ⟨4, 0, [(0, ⟨[], .one (.leaf (.at (.v 0) 31))⟩), (1, ⟨[], .one (.leaf (.fn 192 [.im (.v 1) 9 0]))⟩), (7, ⟨[], .one (.leaf (.at (.v 2) 3))⟩), (8, ⟨[], .one (.leaf (.at (.v 3) 3))⟩)], []⟩⟩]
def b108 : List Blk := [
 ⟨[(0, 0, [true, true, true])], ⟨3, 2, [(2, ⟨[], .one (.leaf (.ptr (.p 0 0)))⟩), (3, ⟨[], .one (.leaf (.ptr (.p 1 0)))⟩), (5, ⟨[], .one (.leaf (.at (.v 0) 3))⟩)], [(0, .box 33 (.leaf (.at (.v 1) 33))), (1, .box 33 (.leaf (.at (.v 2) 33)))]⟩⟩,
 ⟨[(0, 0, [true, true, true, true])], ⟨3, 2, [(2, ⟨[], .one (.leaf (.ptr (.p 0 0)))⟩), (3, ⟨[], .one (.leaf (.ptr (.p 1 0)))⟩), (5, ⟨[], .one (.leaf (.at (.v 0) 3))⟩)], [(0, .box 33 (.leaf (.at (.v 1) 33))), (1, .box 33 (.leaf (.at (.v 2) 33)))]⟩⟩,
 ⟨[(0, 0, [false, false, true, false, true, true, true, true]), (2, 0, [false, false, true, false, true, true, true, true]), (1, 0, []), (0, 0, [true, true, true, true, true])], ⟨4, 2, [(2, ⟨[], .one (.leaf (.ptr (.p 0 0)))⟩), (3, ⟨[], .one (.leaf (.ptr (.p 1 0)))⟩), (5, ⟨[], .one (.leaf (.at (.v 0) 3))⟩), (6, ⟨[], .one (.leaf (.at (.v 1) 3))⟩)], [(0, .box 33 (.leaf (.at (.v 2) 33))), (1, .box 33 (.leaf (.at (.v 3) 33)))]⟩⟩,
 ⟨[(0, 0, [true, true, true, true, true, true])], ⟨3, 2, [(2, ⟨[], .one (.leaf (.ptr (.p 0 0)))⟩), (3, ⟨[], .one (.leaf (.ptr (.p 1 0)))⟩), (5, ⟨[], .one (.leaf (.at (.v 0) 3))⟩)], [(0, .box 33 (.leaf (.at (.v 1) 33))), (1, .box 33 (.leaf (.at (.v 2) 33)))]⟩⟩,
 ⟨[(0, 0, [false, false, true, false, true, true, true, true, true, true]), (2, 0, [false, false, true, false, true, true, true, true, true, true]), (1, 2, []), (0, 0, [true, true, true, true, true, true, true])], ⟨4, 2, [(2, ⟨[], .one (.leaf (.ptr (.p 0 0)))⟩), (3, ⟨[], .one (.leaf (.ptr (.p 1 0)))⟩), (5, ⟨[], .one (.leaf (.at (.v 0) 3))⟩), (7, ⟨[], .one (.leaf (.at (.v 1) 3))⟩)], [(0, .box 33 (.leaf (.at (.v 2) 33))), (1, .box 33 (.leaf (.at (.v 3) 33)))]⟩⟩,
 ⟨[(1, 3, []), (0, 0, [true, true, false, false, true, false, true, true, true, true, true, true]), (2, 0, [false, false, true, false, true, true, true, true, true, true]), (1, 2, []), (0, 0, [true, true, true, true, true, true, true])], ⟨4, 2, [(2, ⟨[], .one (.leaf (.ptr (.p 0 0)))⟩), (3, ⟨[], .one (.leaf (.ptr (.p 1 0)))⟩), (5, ⟨[], .one (.leaf (.at (.v 0) 3))⟩), (7, ⟨[], .one (.leaf (.at (.v 1) 3))⟩)], [(0, .box 33 (.leaf (.at (.v 2) 33))), (1, .box 33 (.leaf (.at (.v 3) 33)))]⟩⟩]
def b112 : List Blk := [
 ⟨[(0, 0, [false, false, true, false, true, true]), (2, 0, [false, false, true, false, true, true]), (1, 0, []), (0, 0, [true, true, true])], ⟨5, 0, [(0, ⟨[], .one (.leaf (.at (.v 0) 151))⟩), (3, ⟨[], .one (.leaf (.at (.v 1) 3))⟩), (9, ⟨[], .one (.leaf (.at (.v 2) 151))⟩), (10, ⟨[], .one (.leaf (.at (.v 3) 3))⟩), (11, ⟨[], .one (.leaf (.at (.v 4) 3))⟩)], []⟩⟩,
 ⟨[(1, 1, []), (0, 0, [true, true, true, false, false, true, false, true, true]), (2, 0, [false, false, true, false, true, true]), (1, 0, []), (0, 0, [true, true, true])], ⟨5, 0, [(0, ⟨[], .one (.leaf (.at (.v 0) 151))⟩), (3, ⟨[], .one (.leaf (.at (.v 1) 3))⟩), (9, ⟨[], .one (.leaf (.at (.v 2) 151))⟩), (10, ⟨[], .one (.leaf (.at (.v 3) 3))⟩), (11, ⟨[], .one (.leaf (.at (.v 4) 3))⟩)], []⟩⟩,
 ⟨[(0, 0, [false, false, true, false, true, true, true, true]), (2, 0, [false, false, true, false, true, true, true, true]), (1, 2, []), (0, 0, [true, true, true, true, true])], ⟨4, 1, [(6, ⟨[], .one (.leaf (.ref 0 22))⟩), (25, ⟨[], .one (.leaf (.at (.v 0) 151))⟩), (26, ⟨[], .one (.leaf (.at (.v 1) 3))⟩), (27, ⟨[], .one (.leaf (.at (.v 2) 3))⟩)], [(0, .arr 9 22 (.v 3))]⟩⟩]
def b115 : List Blk := [
 ⟨[(0, 0, [false, false, true, false, true, true]), (2, 0, [false, false, true, false, true, true]), (1, 0, []), (0, 0, [true, true, true])], ⟨6, 3, [(0, ⟨[], .one (.leaf (.at (.v 0) 22))⟩), (5, ⟨[], .one (.leaf (.ptr (.p 0 0)))⟩), (7, ⟨[], .one (.leaf (.ptr (.p 1 0)))⟩), (11, ⟨[], .one (.leaf (.at (.v 1) 22))⟩), (12, ⟨[], .one (.leaf (.at (.v 2) 3))⟩), (13, ⟨[], .one (.leaf (.at (.v 3) 3))⟩)], [(0, .box 4 (.leaf (.at (.v 4) 4))), (1, .box 132 (.leaf (.mref 2 132))), (2, .mp 132 9 4 (.v 5))]⟩⟩]
def b116 : List Blk := [
 ⟨[(0, 0, [false, false, true, false, true, true, true]), (2, 0, [false, false, true, false, true, true, true]), (1, 0, []), (0, 0, [true, true, true, true])], ⟨5, 6, [(0, ⟨[], .one (.leaf (.ref 4 22))⟩), (1, ⟨[], .one (.leaf (.fn 170 [.p 2 0, .p 3 0]))⟩), (5, ⟨[], .one (.leaf (.at (.v 0) 3))⟩), (6, ⟨[], .one (.leaf (.at (.v 1) 3))⟩)], [(2, .box 132 (.leaf (.mref 5 132))), (3, .box 4 (.leaf (.at (.v 2) 4))), (4, .arr 9 22 (.v 3)), (5, .mp 132 9 4 (.v 4))]⟩⟩,
 ⟨[(1, 1, []), (0, 0, [true, true, false, false, true, false, true, true, true]), (2, 0, [false, false, true, false, true, true, true]), (1, 0, []), (0, 0, [true, true, true, true])], ⟨5, 6, [(0, ⟨[], .one (.leaf (.ref 4 22))⟩), (1, ⟨[], .one (.leaf (.fn 170 [.p 2 0, .p 3 0]))⟩), (5, ⟨[], .one (.leaf (.at (.v 0) 3))⟩), (6, ⟨[], .one (.leaf (.at (.v 1) 3))⟩)], [(2, .box 132 (.leaf (.mref 5 132))), (3, .box 4 (.leaf (.at (.v 2) 4))), (4, .arr 9 22 (.v 3)), (5, .mp 132 9 4 (.v 4))]⟩⟩]
def b117 : List Blk := [
 ⟨[(0, 0, [false, false, true, false, true]), (2, 0, [false, false, true, false, true]), (1, 0, []), (0, 0, [true, true])], ⟨5, 4, [(0, ⟨[], .one (.leaf (.at (.v 0) 22))⟩), (1, ⟨[], .one (.leaf (.fn 170 [.p 1 0, .p 2 0]))⟩), (7, ⟨[], .one (.leaf (.at (.v 1) 3))⟩), (8, ⟨[], .one (.leaf (.at (.v 2) 3))⟩)], [(1, .box 132 (.leaf (.mref 3 132))), (2, .box 4 (.leaf (.at (.v 3) 4))), (3, .mp 132 9 4 (.v 4))]⟩⟩]
def b125 : List Blk := [
 ⟨[(0, 0, [false, false, true, false, true]), (2, 0, [false, false, true, false, true]), (1, 0, []), (0, 0, [true, true])], ⟨2, 1, [(1, ⟨[], .one (.leaf (.ptr (.p 0 0)))⟩), (3, ⟨[], .one (.leaf (.at (.v 0) 3))⟩)], [(0, .box 26 (.leaf (.at (.v 1) 26)))]⟩⟩]
def b126 : List Blk := [
 ⟨[(0, 0, [false, false, true, false, true]), (2, 0, [false, false, true, false, true]), (1, 0, []), (0, 0, [true, true])], ⟨2, 0, [(0, ⟨[], .one (.leaf (.at (.v 0) 9))⟩), (3, ⟨[], .one (.leaf (.at (.v 1) 3))⟩)], []⟩⟩]
def b127 : List Blk := [
 ⟨[(0, 0, [true, true, true])], ⟨2, 1, [(1, ⟨[], .one (.leaf (.at (.v 0) 3))⟩), (2, ⟨[], .one (.leaf (.ptr (.p 0 0)))⟩)], [(0, .box 26 (.leaf (.at (.v 1) 26)))]⟩⟩]
def b128 : List Blk := [
 ⟨[(0, 0, [false, false, true, false, true]), (2, 0, [false, false, true, false, true]), (1, 0, []), (0, 0, [true, true])], ⟨10, 2, [(1, ⟨[], .one (.leaf (.at (.v 0) 9))⟩), (2, ⟨[], .one (.leaf (.ptr (.p 0 0)))⟩), (4, ⟨[], .one (.leaf (.ptr (.p 1 0)))⟩), (6, ⟨[], .one (.leaf (.at (.v 1) 3))⟩)], [(0, .box 26 (.leaf (.at (.v 2) 26))), (1, .box 64 (.agg 64 [.at (.v 3) 9, .at (.v 4) 4, .at (.v 5) 4, .nil 30, .at (.v 6) 3, .at (.v 7) 3, .at (.v 8) 3, .nil 22, .at (.v 9) 9, .nil 23, .nil 24]))]⟩⟩]
def b129 : List Blk := [
 ⟨[(0, 0, [false, false, true, false, true, true, true]), (2, 0, [false, false, true, false, true, true, true]), (1, 0, []), (0, 0, [true, true, true, true])], ⟨3, 1, [(1, ⟨[], .one (.leaf (.at (.v 0) 3))⟩), (2, ⟨[], .one (.leaf (.ptr (.p 0 0)))⟩), (5, ⟨[], .one (.leaf (.at (.v 1) 3))⟩)], [(0, .box 26 (.leaf (.at (.v 2) 26)))]⟩⟩]
def b130 : List Blk := [
 ⟨[(0, 0, [false, false, true, false, true]), (2, 0, [false, false, true, false, true]), (1, 0, []), (0, 0, [true, true])], ⟨2, 0, [(0, ⟨[], .one (.leaf (.at (.v 0) 9))⟩), (3, ⟨[], .one (.leaf (.at (.v 1) 3))⟩)], []⟩⟩]
def b132 : List Blk := [
 ⟨[(0, 0, [false, false, true, false, true, true, true]), (2, 0, [false, false, true, false, true, true, true]), (1, 0, []), (0, 0, [true, true, true, true])], ⟨3, 1, [(1, ⟨[], .one (.leaf (.at (.v 0) 3))⟩), (2, ⟨[], .one (.leaf (.ptr (.p 0 0)))⟩), (5, ⟨[], .one (.leaf (.at (.v 1) 3))⟩)], [(0, .box 33 (.leaf (.at (.v 2) 33)))]⟩⟩,
 ⟨[(0, 0, [false, false, true, false, true, true, true, true]), (2, 0, [false, false, true, false, true, true, true, true]), (1, 2, []), (0, 0, [true, true, true, true, true])], ⟨3, 1, [(1, ⟨[], .one (.leaf (.at (.v 0) 3))⟩), (2, ⟨[], .one (.leaf (.ptr (.p 0 0)))⟩), (6, ⟨[], .one (.leaf (.at (.v 1) 3))⟩)], [(0, .box 33 (.leaf (.at (.v 2) 33)))]⟩⟩]
def b133 : List Blk := [
 ⟨[(0, 0, [true, true, true, true, true, true, true, false, true, false, true]), (1, 0, []), (0, 0, [true, true])], ⟨2, 1, [(1, ⟨[], .one (.leaf (.ptr (.p 0 0)))⟩), (45, ⟨[], .one (.leaf (.at (.v 0) 4))⟩)], [(0, .box 33 (.leaf (.at (.v 1) 33)))]⟩⟩]
def b134 : List Blk := [
 ⟨[(0, 0, [false, false, true, false, true, true]), (2, 0, [false, false, true, false, true, true]), (1, 0, []), (0, 0, [true, true, true])], ⟨3, 1, [(1, ⟨[], .one (.leaf (.ptr (.p 0 0)))⟩), (3, ⟨[], .one (.leaf (.at (.v 0) 3))⟩), (4, ⟨[], .one (.leaf (.at (.v 1) 3))⟩)], [(0, .box 33 (.leaf (.at (.v 2) 33)))]⟩⟩,
 ⟨[(0, 0, [false, false, true, false, true, true, true]), (2, 0, [false, false, true, false, true, true, true]), (1, 2, []), (0, 0, [true, true, true, true])], ⟨3, 1, [(1, ⟨[], .one (.leaf (.ptr (.p 0 0)))⟩), (3, ⟨[], .one (.leaf (.at (.v 0) 3))⟩), (5, ⟨[], .one (.leaf (.at (.v 1) 3))⟩)], [(0, .box 33 (.leaf (.at (.v 2) 33)))]⟩⟩]
def b135 : List Blk := [
 ⟨[(0, 0, [false, false, true, false, true, false, true, true, true, false, true, false, true, true]), (2, 0, [false, false, true, false, true, false, true, true, true, false, true, false, true, true]), (1, 1, []), (0, 0, [true, true, false, true, true, true, false, true, false, true, true]), (1, 0, []), (0, 0, [true, true, true])], ⟨4, 2, [(2, ⟨[], .one (.leaf (.at (.v 0) 39))⟩), (3, ⟨[], .one (.leaf (.ptr (.p 0 0)))⟩), (4, ⟨[], .one (.leaf (.ptr (.p 1 0)))⟩), (7, ⟨[], .one (.leaf (.at (.v 1) 3))⟩)], [(0, .box 26 (.leaf (.at (.v 2) 26))), (1, .box 33 (.leaf (.at (.v 3) 33)))]⟩⟩]
def b137 : List Blk := [
 ⟨[(0, 0, [false, false, true, false, true, true, true]), (2, 0, [false, false, true, false, true, true, true]), (1, 0, []), (0, 0, [true, true, true, true])], ⟨3, 0, [(0, ⟨[], .one (.leaf (.at (.v 0) 39))⟩), (4, ⟨[], .one (.leaf (.at (.v 1) 9))⟩), (5, ⟨[], .one (.leaf (.at (.v 2) 3))⟩)], []⟩⟩,
 ⟨[(1, 1, []), (0, 0, [true, true, false, false, true, false, true, true, true]), (2, 0, [false, false, true, false, true, true, true]), (1, 0, []), (0, 0, [true, true, true, true])], ⟨3, 0, [(0, ⟨[], .one (.leaf (.at (.v 0) 39))⟩), (4, ⟨[], .one (.leaf (.at (.v 1) 9))⟩), (5, ⟨[], .one (.leaf (.at (.v 2) 3))⟩)], []⟩⟩]
def b138 : List Blk := [
 ⟨[(0, 0, [false, false, true, false, true]), (2, 0, [false, false, true, false, true]), (1, 0, []), (0, 0, [true, true])], ⟨2, 0, [(0, ⟨[], .one (.leaf (.at (.v 0) 39))⟩), (3, ⟨[], .one (.leaf (.at (.v 1) 3))⟩)], []⟩⟩]
def b140 : List Blk := [
 ⟨[(0, 0, [false, false, true, false, true]), (2, 0, [false, false, true, false, true]), (1, 0, []), (0, 0, [true, true])], ⟨2, 0, [(0, ⟨[], .one (.leaf (.at (.v 0) 9))⟩), (3, ⟨[], .one (.leaf (.at (.v 1) 3))⟩)], []⟩⟩]
def b142 : List Blk := [
 ⟨[(0, 0, [false, false, true, false, true]), (2, 0, [false, false, true, false, true]), (1, 0, []), (0, 0, [true, true])], ⟨2, 0, [(0, ⟨[], .one (.leaf (.at (.v 0) 9))⟩), (3, ⟨[], .one (.leaf (.at (.v 1) 3))⟩)], []⟩⟩]
def b144 : List Blk := [
 ⟨[(0, 0, [false, false, true, false, true, true]), (2, 0, [false, false, true, false, true, true]), (1, 0, []), (0, 0, [true, true, true])], ⟨3, 0, [(0, ⟨[], .one (.leaf (.at (.v 0) 9))⟩), (3, ⟨[], .one (.leaf (.at (.v 1) 9))⟩), (4, ⟨[], .one (.leaf (.at (.v 2) 3))⟩)], []⟩⟩,
 ⟨[(1, 1, []), (0, 0, [true, true, false, false, true, false, true, true]), (2, 0, [false, false, true, false, true, true]), (1, 0, []), (0, 0, [true, true, true])], ⟨3, 0, [(0, ⟨[], .one (.leaf (.at (.v 0) 9))⟩), (3, ⟨[], .one (.leaf (.at (.v 1) 9))⟩), (4, ⟨[], .one (.leaf (.at (.v 2) 3))⟩)], []⟩⟩]
def b145 : List Blk := [
 ⟨[(0, 0, [true, true, true])], ⟨4, 3, [(2, ⟨[], .one (.leaf (.at (.v 0) 39))⟩), (3, ⟨[], .one (.leaf (.ptr (.p 0 0)))⟩), (4, ⟨[], .one (.leaf (.ptr (.p 1 0)))⟩), (7, ⟨[], .one (.leaf (.ref 2 36))⟩)], [(0, .box 26 (.leaf (.at (.v 1) 26))), (1, .box 33 (.leaf (.at (.v 2) 33))), (2, .arr 54 36 (.v 3))]⟩⟩,
 ⟨[(0, 0, [false, false, true, false, true, true, true]), (2, 0, [false, false, true, false, true, true, true]), (1, 0, []), (0, 0, [true, true, true, true])], ⟨5, 3, [(2, ⟨[], .one (.leaf (.at (.v 0) 39))⟩), (3, ⟨[], .one (.leaf (.ptr (.p 0 0)))⟩), (4, ⟨[], .one (.leaf (.ptr (.p 1 0)))⟩), (7, ⟨[], .one (.leaf (.ref 2 36))⟩), (8, ⟨[], .one (.leaf (.at (.v 1) 3))⟩)], [(0, .box 26 (.leaf (.at (.v 2) 26))), (1, .box 33 (.leaf (.at (.v 3) 33))), (2, .arr 54 36 (.v 4))]⟩⟩,
 ⟨[(0, 0, [false, false, true, false, true, true, true, true, false, false, true, false, false, true, false, true, true, true]), (2, 0, [false, false, true, false, true, true, true, true, false, false, true, false, false, true, false, true, true, true]), (1, 2, []), (0, 0, [true, true, true, true, true, false, false, true, false, false, true, false, true, true, true]), (1, 1, []), (0, 0, [true, true, false, false, true, false, true, true, true]), (2, 0, [false, false, true, false, true, true, true]), (1, 0, []), (0, 0, [true, true, true, true])], ⟨10, 4, [(2, ⟨[], .one (.leaf (.at (.v 0) 39))⟩), (3, ⟨[], .one (.leaf (.ptr (.p 0 0)))⟩), (4, ⟨[], .one (.leaf (.ptr (.p 1 0)))⟩), (7, ⟨[], .one (.leaf (.ref 2 36))⟩), (8, ⟨[], .one (.leaf (.at (.v 1) 3))⟩), (9, ⟨[], .one (.leaf (.ref 3 39))⟩), (10, ⟨[], .one (.leaf (.at (.v 2) 9))⟩), (11, ⟨[], .one (.leaf (.at (.v 3) 4))⟩), (12, ⟨[], .one (.leaf (.at (.v 4) 4))⟩), (13, ⟨[], .one (.leaf (.at (.v 5) 3))⟩)], [(0, .box 26 (.leaf (.at (.v 6) 26))), (1, .box 33 (.leaf (.at (.v 7) 33))), (2, .arr 54 36 (.v 8)), (3, .arr 74 39 (.v 9))]⟩⟩,
 ⟨[(1, 1, []), (0, 0, [true, true, false, false, true, false, true, true, true]), (2, 0, [false, false, true, false, true, true, true]), (1, 0, []), (0, 0, [true, true, true, true])], ⟨5, 3, [(2, ⟨[], .one (.leaf (.at (.v 0) 39))⟩), (3, ⟨[], .one (.leaf (.ptr (.p 0 0)))⟩), (4, ⟨[], .one (.leaf (.ptr (.p 1 0)))⟩), (7, ⟨[], .one (.leaf (.ref 2 36))⟩), (8, ⟨[], .one (.leaf (.at (.v 1) 3))⟩)], [(0, .box 26 (.leaf (.at (.v 2) 26))), (1, .box 33 (.leaf (.at (.v 3) 33))), (2, .arr 54 36 (.v 4))]⟩⟩]
def b148 : List Blk := [
 ⟨[(0, 0, [false, false, true, false, true, false, true]), (2, 0, [false, false, true, false, true, false, true]), (1, 0, []), (0, 0, [true, true])], ⟨6, 2, [(1, ⟨[], .one (.leaf (.at (.v 0) 9))⟩), (2, ⟨[], .one (.leaf (.ptr (.p 0 0)))⟩), (4, ⟨[], .one (.leaf (.ptr (.p 1 0)))⟩), (6, ⟨[], .one (.leaf (.at (.v 1) 3))⟩)], [(0, .box 33 (.leaf (.at (.v 2) 33))), (1, .box 33 (.agg 33 [.at (.v 3) 3, .at (.v 4) 3, .at (.v 5) 9, .nil 30, .nil 31]))]⟩⟩]
def b150 : List Blk := [
 ⟨[(0, 0, [false, false, true, false, true, true]), (2, 0, [false, false, true, false, true, true]), (1, 0, []), (0, 0, [true, true, true])], ⟨5, 3, [(2, ⟨[], .one (.leaf (.at (.v 0) 39))⟩), (3, ⟨[], .one (.leaf (.ptr (.p 0 0)))⟩), (4, ⟨[], .one (.leaf (.ptr (.p 1 0)))⟩), (7, ⟨[], .one (.leaf (.ref 2 36))⟩), (8, ⟨[], .one (.leaf (.at (.v 1) 3))⟩)], [(0, .box 26 (.leaf (.at (.v 2) 26))), (1, .box 33 (.leaf (.at (.v 3) 33))), (2, .arr 54 36 (.v 4))]⟩⟩,
 ⟨[(1, 1, []), (0, 0, [true, true, false, false, true, false, true, true]), (2, 0, [false, false, true, false, true, true]), (1, 0, []), (0, 0, [true, true, true])], ⟨5, 3, [(2, ⟨[], .one (.leaf (.at (.v 0) 39))⟩), (3, ⟨[], .one (.leaf (.ptr (.p 0 0)))⟩), (4, ⟨[], .one (.leaf (.ptr (.p 1 0)))⟩), (7, ⟨[], .one (.leaf (.ref 2 36))⟩), (8, ⟨[], .one (.leaf (.at (.v 1) 3))⟩)], [(0, .box 26 (.leaf (.at (.v 2) 26))), (1, .box 33 (.leaf (.at (.v 3) 33))), (2, .arr 54 36 (.v 4))]⟩⟩,
 ⟨[(0, 0, [false, false, true, false, true, true, true]), (2, 0, [false, false, true, false, true, true, true]), (1, 2, []), (0, 0, [true, true, true, true])], ⟨5, 3, [(2, ⟨[], .one (.leaf (.at (.v 0) 39))⟩), (3, ⟨[], .one (.leaf (.ptr (.p 0 0)))⟩), (4, ⟨[], .one (.leaf (.ptr (.p 1 0)))⟩), (7, ⟨[], .one (.leaf (.ref 2 36))⟩), (13, ⟨[], .one (.leaf (.at (.v 1) 3))⟩)], [(0, .box 26 (.leaf (.at (.v 2) 26))), (1, .box 33 (.leaf (.at (.v 3) 33))), (2, .arr 54 36 (.v 4))]⟩⟩,
 ⟨[(1, 3, []), (0, 0, [true, true, false, false, true, false, true, true, true]), (2, 0, [false, false, true, false, true, true, true]), (1, 2, []), (0, 0, [true, true, true, true])], ⟨5, 3, [(2, ⟨[], .one (.leaf (.at (.v 0) 39))⟩), (3, ⟨[], .one (.leaf (.ptr (.p 0 0)))⟩), (4, ⟨[], .one (.leaf (.ptr (.p 1 0)))⟩), (7, ⟨[], .one (.leaf (.ref 2 36))⟩), (13, ⟨[], .one (.leaf (.at (.v 1) 3))⟩)], [(0, .box 26 (.leaf (.at (.v 2) 26))), (1, .box 33 (.leaf (.at (.v 3) 33))), (2, .arr 54 36 (.v 4))]⟩⟩]
def b152 : List Blk := [
 ⟨[(0, 0, [false, false, true, false, true, true, true]), (2, 0, [false, false, true, false, true, true, true]), (1, 0, []), (0, 0, [true, true, true, true])], ⟨5, 3, [(3, ⟨[], .one (.leaf (.at (.v 0) 39))⟩), (4, ⟨[], .one (.leaf (.ptr (.p 0 0)))⟩), (6, ⟨[], .one (.leaf (.ptr (.p 1 0)))⟩), (11, ⟨[], .one (.leaf (.ref 2 22))⟩), (12, ⟨[], .one (.leaf (.at (.v 1) 3))⟩)], [(0, .box 26 (.leaf (.at (.v 2) 26))), (1, .box 33 (.leaf (.at (.v 3) 33))), (2, .arr 9 22 (.v 4))]⟩⟩,
 ⟨[(0, 0, [false, false, true, false, true, true, true, true]), (2, 0, [false, false, true, false, true, true, true, true]), (1, 2, []), (0, 0, [true, true, true, true, true])], ⟨5, 3, [(3, ⟨[], .one (.leaf (.at (.v 0) 39))⟩), (4, ⟨[], .one (.leaf (.ptr (.p 0 0)))⟩), (6, ⟨[], .one (.leaf (.ptr (.p 1 0)))⟩), (11, ⟨[], .one (.leaf (.ref 2 22))⟩), (13, ⟨[], .one (.leaf (.at (.v 1) 3))⟩)], [(0, .box 26 (.leaf (.at (.v 2) 26))), (1, .box 33 (.leaf (.at (.v 3) 33))), (2, .arr 9 22 (.v 4))]⟩⟩]
def b154 : List Blk := [
 ⟨[(0, 0, [false, false, true, false, true, true]), (2, 0, [false, false, true, false, true, true]), (1, 0, []), (0, 0, [true, true, true])], ⟨3, 2, [(2, ⟨[], .one (.leaf (.ptr (.p 0 0)))⟩), (3, ⟨[], .one (.leaf (.ptr (.p 1 0)))⟩), (5, ⟨[], .one (.leaf (.at (.v 0) 3))⟩)], [(0, .box 26 (.leaf (.at (.v 1) 26))), (1, .box 33 (.leaf (.at (.v 2) 33)))]⟩⟩,
 ⟨[(0, 0, [false, false, true, true, true, false, false, true, false, false, true, false, true, true]), (2, 0, [false, false, true, true, true, false, false, true, false, false, true, false, true, true]), (1, 2, []), (1, 1, []), (0, 0, [true, true, false, false, true, false, true, true]), (2, 0, [false, false, true, false, true, true]), (1, 0, []), (0, 0, [true, true, true])], ⟨5, 2, [(2, ⟨[], .one (.leaf (.ptr (.p 0 0)))⟩), (3, ⟨[], .one (.leaf (.ptr (.p 1 0)))⟩), (5, ⟨[], .one (.leaf (.at (.v 0) 3))⟩), (6, ⟨[], .one (.leaf (.at (.v 1) 9))⟩), (8, ⟨[], .one (.leaf (.at (.v 2) 3))⟩)], [(0, .box 26 (.leaf (.at (.v 3) 26))), (1, .box 33 (.leaf (.at (.v 4) 33)))]⟩⟩]
def b155 : List Blk := [
 ⟨[(0, 0, [false, false, true, false, true, true]), (2, 0, [false, false, true, false, true, true]), (1, 0, []), (0, 0, [true, true, true])], ⟨7, 2, [(1, ⟨[], .one (.leaf (.at (.v 0) 9))⟩), (2, ⟨[], .one (.leaf (.ptr (.p 0 0)))⟩), (4, ⟨[], .one (.leaf (.ptr (.p 1 0)))⟩), (6, ⟨[], .one (.leaf (.at (.v 1) 3))⟩)], [(0, .box 26 (.leaf (.at (.v 2) 26))), (1, .box 26 (.agg 26 [.at (.v 3) 3, .at (.v 4) 3, .at (.v 5) 3, .nil 22, .at (.v 6) 9, .nil 23, .nil 24]))]⟩⟩]
def b156 : List Blk := [
 ⟨[(0, 0, [false, false, true, false, true, true]), (2, 0, [false, false, true, false, true, true]), (1, 0, []), (0, 0, [true, true, true])], ⟨4, 1, [(0, ⟨[], .one (.leaf (.at (.v 0) 22))⟩), (1, ⟨[], .one (.leaf (.at (.v 1) 22))⟩), (5, ⟨[], .one (.leaf (.ref 0 22))⟩), (6, ⟨[], .one (.leaf (.at (.v 2) 3))⟩)], [(0, .arr 9 22 (.v 3))]⟩⟩,
 ⟨[(0, 0, [false, false, true, false, true, true, true]), (2, 0, [false, false, true, false, true, true, true]), (1, 2, []), (0, 0, [true, true, true, true])], ⟨3, 1, [(1, ⟨[], .one (.leaf (.at (.v 0) 22))⟩), (5, ⟨[], .one (.leaf (.ref 0 22))⟩), (7, ⟨[], .one (.leaf (.at (.v 1) 3))⟩)], [(0, .arr 9 22 (.v 2))]⟩⟩]
def b157 : List Blk := [
 ⟨[(0, 0, [false, false, true, false, true, true, true]), (2, 0, [false, false, true, false, true, true, true]), (1, 0, []), (0, 0, [true, true, true, true])], ⟨5, 1, [(0, ⟨[], .one (.leaf (.at (.v 0) 22))⟩), (1, ⟨[], .one (.leaf (.at (.v 1) 9))⟩), (5, ⟨[], .one (.leaf (.ref 0 22))⟩), (6, ⟨[], .one (.leaf (.at (.v 2) 4))⟩), (7, ⟨[], .one (.leaf (.at (.v 3) 3))⟩)], [(0, .arr 9 22 (.v 4))]⟩⟩,
 ⟨[(0, 0, [true, false, false, true, false, false, true, false, true, true, true]), (1, 1, []), (0, 0, [true, true, false, false, true, false, true, true, true]), (2, 0, [false, false, true, false, true, true, true]), (1, 0, []), (0, 0, [true, true, true, true])], ⟨5, 1, [(0, ⟨[], .one (.leaf (.at (.v 0) 22))⟩), (1, ⟨[], .one (.leaf (.at (.v 1) 9))⟩), (5, ⟨[], .one (.leaf (.ref 0 22))⟩), (6, ⟨[], .one (.leaf (.at (.v 2) 4))⟩), (7, ⟨[], .one (.leaf (.at (.v 3) 3))⟩)], [(0, .arr 9 22 (.v 4))]⟩⟩,
 ⟨[(1, 1, []), (0, 0, [true, true, false, false, true, false, true, true, true]), (2, 0, [false, false, true, false, true, true, true]), (1, 0, []), (0, 0, [true, true, true, true])], ⟨5, 1, [(0, ⟨[], .one (.leaf (.at (.v 0) 22))⟩), (1, ⟨[], .one (.leaf (.at (.v 1) 9))⟩), (5, ⟨[], .one (.leaf (.ref 0 22))⟩), (6, ⟨[], .one (.leaf (.at (.v 2) 4))⟩), (7, ⟨[], .one (.leaf (.at (.v 3) 3))⟩)], [(0, .arr 9 22 (.v 4))]⟩⟩]
def b159 : List Blk := [
 ⟨[(0, 0, [false, false, true, false, true, true]), (2, 0, [false, false, true, false, true, true]), (1, 0, []), (0, 0, [true, true, true])], ⟨4, 1, [(0, ⟨[], .one (.leaf (.at (.v 0) 22))⟩), (1, ⟨[], .one (.leaf (.at (.v 1) 22))⟩), (5, ⟨[], .one (.leaf (.ref 0 22))⟩), (6, ⟨[], .one (.leaf (.at (.v 2) 3))⟩)], [(0, .arr 9 22 (.v 3))]⟩⟩,
 ⟨[(1, 1, []), (0, 0, [true, true, false, false, true, false, true, true]), (2, 0, [false, false, true, false, true, true]), (1, 0, []), (0, 0, [true, true, true])], ⟨4, 1, [(0, ⟨[], .one (.leaf (.at (.v 0) 22))⟩), (1, ⟨[], .one (.leaf (.at (.v 1) 22))⟩), (5, ⟨[], .one (.leaf (.ref 0 22))⟩), (6, ⟨[], .one (.leaf (.at (.v 2) 3))⟩)], [(0, .arr 9 22 (.v 3))]⟩⟩]
def b160 : List Blk := [
 ⟨[(0, 0, [false, false, true, false, true]), (2, 0, [false, false, true, false, true]), (1, 0, []), (0, 0, [true, true])], ⟨3, 0, [(0, ⟨[], .one (.leaf (.at (.v 0) 22))⟩), (1, ⟨[], .one (.leaf (.at (.v 1) 9))⟩), (5, ⟨[], .one (.leaf (.at (.v 2) 3))⟩)], []⟩⟩]
def b161 : List Blk := [
 ⟨[(0, 0, [false, false, true, false, true, true]), (2, 0, [false, false, true, false, true, true]), (1, 0, []), (0, 0, [true, true, true])], ⟨4, 1, [(0, ⟨[], .one (.leaf (.at (.v 0) 22))⟩), (1, ⟨[], .one (.leaf (.at (.v 1) 22))⟩), (5, ⟨[], .one (.leaf (.ref 0 22))⟩), (6, ⟨[], .one (.leaf (.at (.v 2) 3))⟩)], [(0, .arr 9 22 (.v 3))]⟩⟩,
 ⟨[(1, 1, []), (0, 0, [true, true, false, false, true, false, true, true]), (2, 0, [false, false, true, false, true, true]), (1, 0, []), (0, 0, [true, true, true])], ⟨4, 1, [(0, ⟨[], .one (.leaf (.at (.v 0) 22))⟩), (1, ⟨[], .one (.leaf (.at (.v 1) 22))⟩), (5, ⟨[], .one (.leaf (.ref 0 22))⟩), (6, ⟨[], .one (.leaf (.at (.v 2) 3))⟩)], [(0, .arr 9 22 (.v 3))]⟩⟩]
def b165 : List Blk := [
 ⟨[(0, 0, [false, false, true, false, true, true, true]), (2, 0, [false, false, true, false, true, true, true]), (1, 0, []), (0, 0, [true, true, true, true])], ⟨13, 5, [(3, ⟨[], .one (.leaf (.at (.v 0) 39))⟩), (4, ⟨[], .one (.leaf (.at (.v 1) 22))⟩), (5, ⟨[], .one (.leaf (.at (.v 2) 4))⟩), (6, ⟨[], .one (.leaf (.ptr (.p 0 0)))⟩), (8, ⟨[], .one (.leaf (.ptr (.p 1 0)))⟩), (12, ⟨[], .one (.leaf (.ptr (.p 2 0)))⟩), (16, ⟨[], .one (.leaf (.ptr (.p 3 0)))⟩), (17, ⟨[], .one (.leaf (.at (.v 3) 3))⟩)], [(0, .box 26 (.leaf (.at (.v 4) 26))), (1, .box 33 (.leaf (.at (.v 5) 33))), (2, .box 33 (.agg 33 [.at (.v 6) 3, .at (.v 7) 3, .at (.v 8) 9, .nil 30, .nil 31])), (3, .box 33 (.agg 33 [.at (.v 9) 3, .at (.v 10) 3, .at (.v 11) 9, .ref 4 30, .nil 31])), (4, .arr 33 30 (.v 12))]⟩⟩,
 ⟨[(1, 1, []), (0, 0, [true, true, false, false, true, false, true, true, true]), (2, 0, [false, false, true, false, true, true, true]), (1, 0, []), (0, 0, [true, true, true, true])], ⟨13, 5, [(3, ⟨[], .one (.leaf (.at (.v 0) 39))⟩), (4, ⟨[], .one (.leaf (.at (.v 1) 22))⟩), (5, ⟨[], .one (.leaf (.at (.v 2) 4))⟩), (6, ⟨[], .one (.leaf (.ptr (.p 0 0)))⟩), (8, ⟨[], .one (.leaf (.ptr (.p 1 0)))⟩), (12, ⟨[], .one (.leaf (.ptr (.p 2 0)))⟩), (16, ⟨[], .one (.leaf (.ptr (.p 3 0)))⟩), (17, ⟨[], .one (.leaf (.at (.v 3) 3))⟩)], [(0, .box 26 (.leaf (.at (.v 4) 26))), (1, .box 33 (.leaf (.at (.v 5) 33))), (2, .box 33 (.agg 33 [.at (.v 6) 3, .at (.v 7) 3, .at (.v 8) 9, .nil 30, .nil 31])), (3, .box 33 (.agg 33 [.at (.v 9) 3, .at (.v 10) 3, .at (.v 11) 9, .ref 4 30, .nil 31])), (4, .arr 33 30 (.v 12))]⟩⟩,
 ⟨[(0, 0, [false, false, true, false, true, true, true, true]), (2, 0, [false, false, true, false, true, true, true, true]), (1, 2, []), (0, 0, [true, true, true, true, true])], ⟨14, 6, [(3, ⟨[], .one (.leaf (.at (.v 0) 39))⟩), (4, ⟨[], .one (.leaf (.at (.v 1) 22))⟩), (5, ⟨[], .one (.leaf (.at (.v 2) 4))⟩), (6, ⟨[], .one (.leaf (.ptr (.p 0 0)))⟩), (8, ⟨[], .one (.leaf (.ptr (.p 1 0)))⟩), (12, ⟨[], .one (.leaf (.ptr (.p 2 0)))⟩), (16, ⟨[], .one (.leaf (.ptr (.p 3 0)))⟩), (22, ⟨[], .one (.leaf (.at (.v 3) 3))⟩)], [(0, .box 26 (.leaf (.at (.v 4) 26))), (1, .box 33 (.leaf (.at (.v 5) 33))), (2, .box 33 (.agg 33 [.at (.v 6) 3, .at (.v 7) 3, .at (.v 8) 9, .nil 30, .nil 31])), (3, .box 33 (.agg 33 [.at (.v 9) 3, .at (.v 10) 3, .at (.v 11) 9, .ref 4 30, .ref 5 31])), (4, .arr 33 30 (.v 12)), (5, .arr 70 31 (.v 13))]⟩⟩,
 ⟨[(1, 3, []), (0, 0, [true, true, false, false, true, false, true, true, true, true]), (2, 0, [false, false, true, false, true, true, true, true]), (1, 2, []), (0, 0, [true, true, true, true, true])], ⟨14, 6, [(3, ⟨[], .one (.leaf (.at (.v 0) 39))⟩), (4, ⟨[], .one (.leaf (.at (.v 1) 22))⟩), (5, ⟨[], .one (.leaf (.at (.v 2) 4))⟩), (6, ⟨[], .one (.leaf (.ptr (.p 0 0)))⟩), (8, ⟨[], .one (.leaf (.ptr (.p 1 0)))⟩), (12, ⟨[], .one (.leaf (.ptr (.p 2 0)))⟩), (16, ⟨[], .one (.leaf (.ptr (.p 3 0)))⟩), (22, ⟨[], .one (.leaf (.at (.v 3) 3))⟩)], [(0, .box 26 (.leaf (.at (.v 4) 26))), (1, .box 33 (.leaf (.at (.v 5) 33))), (2, .box 33 (.agg 33 [.at (.v 6) 3, .at (.v 7) 3, .at (.v 8) 9, .nil 30, .nil 31])), (3, .box 33 (.agg 33 [.at (.v 9) 3, .at (.v 10) 3, .at (.v 11) 9, .ref 4 30, .ref 5 31])), (4, .arr 33 30 (.v 12)), (5, .arr 70 31 (.v 13))]⟩⟩]
def b167 : List Blk := [
 ⟨[(0, 0, [false, false, true, false, true, true]), (2, 0, [false, false, true, false, true, true]), (1, 0, []), (0, 0, [true, true, true])], ⟨4, 2, [(1, ⟨[], .one (.leaf (.at (.v 0) 9))⟩), (2, ⟨[], .one (.leaf (.ptr (.p 0 0)))⟩), (5, ⟨[], .one (.leaf (.ref 1 31))⟩), (6, ⟨[], .one (.leaf (.at (.v 1) 3))⟩)], [(0, .box 33 (.leaf (.at (.v 2) 33))), (1, .arr 70 31 (.v 3))]⟩⟩,
 ⟨[(1, 1, []), (0, 0, [true, true, false, false, true, false, true, true]), (2, 0, [false, false, true, false, true, true]), (1, 0, []), (0, 0, [true, true, true])], ⟨4, 2, [(1, ⟨[], .one (.leaf (.at (.v 0) 9))⟩), (2, ⟨[], .one (.leaf (.ptr (.p 0 0)))⟩), (5, ⟨[], .one (.leaf (.ref 1 31))⟩), (6, ⟨[], .one (.leaf (.at (.v 1) 3))⟩)], [(0, .box 33 (.leaf (.at (.v 2) 33))), (1, .arr 70 31 (.v 3))]⟩⟩]
def b169 : List Blk := [
 ⟨[(0, 0, [false, false, true, false, true, true, true, true]), (2, 0, [false, false, true, false, true, true, true, true]), (1, 0, []), (0, 0, [true, true, true, true, true])], ⟨6, 4, [(2, ⟨[], .one (.leaf (.at (.v 0) 22))⟩), (4, ⟨[], .one (.leaf (.ptr (.p 0 0)))⟩), (7, ⟨[], .one (.leaf (.ptr (.p 1 0)))⟩), (8, ⟨[], .one (.leaf (.ptr (.p 2 0)))⟩), (9, ⟨[], .one (.leaf (.ref 3 22))⟩), (10, ⟨[], .one (.leaf (.at (.v 1) 3))⟩)], [(0, .box 33 (.leaf (.at (.v 2) 33))), (1, .box 33 (.leaf (.at (.v 3) 33))), (2, .box 33 (.leaf (.at (.v 4) 33))), (3, .arr 9 22 (.v 5))]⟩⟩,
 ⟨[(0, 0, [true, true, true, false, false, true, false, false, true, false, true, true, true, true]), (1, 1, []), (0, 0, [true, true, false, false, true, false, true, true, true, true]), (2, 0, [false, false, true, false, true, true, true, true]), (1, 0, []), (0, 0, [true, true, true, true, true])], ⟨9, 6, [(2, ⟨[], .one (.leaf (.at (.v 0) 22))⟩), (4, ⟨[], .one (.leaf (.ptr (.p 0 0)))⟩), (7, ⟨[], .one (.leaf (.ptr (.p 1 0)))⟩), (8, ⟨[], .one (.leaf (.ptr (.p 2 0)))⟩), (9, ⟨[], .one (.leaf (.ref 3 22))⟩), (10, ⟨[], .one (.leaf (.at (.v 1) 3))⟩), (11, ⟨[], .one (.leaf (.ptr (.p 4 0)))⟩), (12, ⟨[], .one (.leaf (.at (.v 2) 4))⟩), (13, ⟨[], .one (.leaf (.ptr (.p 5 0)))⟩)], [(0, .box 33 (.leaf (.at (.v 3) 33))), (1, .box 33 (.leaf (.at (.v 4) 33))), (2, .box 33 (.leaf (.at (.v 5) 33))), (3, .arr 9 22 (.v 6)), (4, .box 33 (.leaf (.at (.v 7) 33))), (5, .box 33 (.leaf (.at (.v 8) 33)))]⟩⟩]
def b171 : List Blk := [
 ⟨[(0, 0, [false, false, false, true, true, true, true]), (2, 0, [false, false, false, true, true, true, true]), (1, 0, []), (0, 0, [true, true, true, true, true])], ⟨3, 1, [(0, ⟨[], .one (.leaf (.at (.v 0) 9))⟩), (4, ⟨[], .one (.leaf (.ref 0 39))⟩), (5, ⟨[], .one (.leaf (.at (.v 1) 3))⟩)], [(0, .arr 74 39 (.v 2))]⟩⟩]
def b172 : List Blk := [
 ⟨[(0, 0, [true, true, true])], ⟨8, 1, [(0, ⟨[], .one (.leaf (.at (.v 0) 9))⟩), (1, ⟨[], .one (.leaf (.at (.v 1) 3))⟩), (4, ⟨[], .one (.leaf (.ptr (.p 0 0)))⟩)], [(0, .box 96 (.agg 96 [.at (.v 2) 3, .at (.v 3) 9, .at (.v 4) 3, .at (.v 5) 9, .at (.v 6) 3, .at (.v 7) 4]))]⟩⟩]
def b174 : List Blk := [
 ⟨[(0, 0, [false, false, false, true]), (2, 0, [false, false, false, true]), (1, 0, []), (0, 0, [true, true])], ⟨2, 0, [(0, ⟨[], .one (.leaf (.at (.v 0) 9))⟩), (1, ⟨[], .one (.leaf (.at (.v 1) 3))⟩)], []⟩⟩]
def b175 : List Blk := [
 ⟨[(0, 0, [false, false, true, false, true, true]), (2, 0, [false, false, true, false, true, true]), (1, 0, []), (0, 0, [true, true, true])], ⟨3, 0, [(0, ⟨[], .one (.leaf (.at (.v 0) 9))⟩), (3, ⟨[], .one (.leaf (.at (.v 1) 3))⟩), (4, ⟨[], .one (.leaf (.at (.v 2) 3))⟩)], []⟩⟩]
def b176 : List Blk := [
 ⟨[(0, 0, [false, false, true, false, true]), (2, 0, [false, false, true, false, true]), (1, 0, []), (0, 0, [true, true])], ⟨2, 0, [(0, ⟨[], .one (.leaf (.at (.v 0) 9))⟩), (3, ⟨[], .one (.leaf (.at (.v 1) 3))⟩)], []⟩⟩]
def b177 : List Blk := [
 ⟨[(0, 0, [false, false, false, true, true, true, true]), (2, 0, [false, false, false, true, true, true, true]), (1, 0, []), (0, 0, [true, true, true, true, true])], ⟨3, 0, [(0, ⟨[], .one (.leaf (.at (.v 0) 9))⟩), (1, ⟨[], .one (.leaf (.at (.v 1) 3))⟩), (7, ⟨[], .one (.leaf (.at (.v 2) 9))⟩)], []⟩⟩,
 ⟨[(2, 0, [false, false, false, true, true, true, true]), (1, 0, []), (0, 0, [true, true, true, true, true])], ⟨3, 0, [(0, ⟨[], .one (.leaf (.at (.v 0) 9))⟩), (1, ⟨[], .one (.leaf (.at (.v 1) 3))⟩), (7, ⟨[], .one (.leaf (.at (.v 2) 9))⟩)], []⟩⟩,
 ⟨[(0, 0, [true, true, true, true, false, true, false, false, false, true, true, true, true]), (1, 1, []), (2, 0, [false, false, false, true, true, true, true]), (1, 0, []), (0, 0, [true, true, true, true, true])], ⟨3, 0, [(0, ⟨[], .one (.leaf (.at (.v 0) 9))⟩), (1, ⟨[], .one (.leaf (.at (.v 1) 3))⟩), (7, ⟨[], .one (.leaf (.at (.v 2) 9))⟩)], []⟩⟩]
def b178 : List Blk := [
 ⟨[(0, 0, [false, false, true, false, true, true]), (2, 0, [false, false, true, false, true, true]), (1, 0, []), (0, 0, [true, true, true])], ⟨6, 2, [(1, ⟨[], .one (.leaf (.at (.v 0) 39))⟩), (2, ⟨[], .one (.leaf (.ptr (.p 0 0)))⟩), (4, ⟨[], .one (.leaf (.ptr (.p 1 0)))⟩), (6, ⟨[], .one (.leaf (.at (.v 1) 3))⟩)], [(0, .box 33 (.leaf (.at (.v 2) 33))), (1, .box 33 (.agg 33 [.at (.v 3) 3, .at (.v 4) 3, .at (.v 5) 9, .nil 30, .nil 31]))]⟩⟩,
 ⟨[(1, 1, []), (0, 0, [true, true, false, false, true, false, true, true]), (2, 0, [false, false, true, false, true, true]), (1, 0, []), (0, 0, [true, true, true])], ⟨6, 2, [(1, ⟨[], .one (.leaf (.at (.v 0) 39))⟩), (2, ⟨[], .one (.leaf (.ptr (.p 0 0)))⟩), (4, ⟨[], .one (.leaf (.ptr (.p 1 0)))⟩), (6, ⟨[], .one (.leaf (.at (.v 1) 3))⟩)], [(0, .box 33 (.leaf (.at (.v 2) 33))), (1, .box 33 (.agg 33 [.at (.v 3) 3, .at (.v 4) 3, .at (.v 5) 9, .nil 30, .nil 31]))]⟩⟩]
def b179 : List Blk := [
 ⟨[(0, 0, [false, false, true, false, true, true, true, true]), (2, 0, [false, false, true, false, true, true, true, true]), (1, 0, []), (0, 0, [true, true, true, true, true])], ⟨3, 2, [(2, ⟨[], .one (.leaf (.ptr (.p 0 0)))⟩), (3, ⟨[], .one (.leaf (.ptr (.p 1 0)))⟩), (5, ⟨[], .one (.leaf (.at (.v 0) 3))⟩)], [(0, .box 33 (.leaf (.at (.v 1) 33))), (1, .box 74 (.leaf (.at (.v 2) 74)))]⟩⟩]
def b180 : List Blk := [
 ⟨[(0, 0, [false, false, true, false, true]), (2, 0, [false, false, true, false, true]), (1, 0, []), (0, 0, [true, true])], ⟨3, 1, [(1, ⟨[], .one (.leaf (.at (.v 0) 9))⟩), (2, ⟨[], .one (.leaf (.ptr (.p 0 0)))⟩), (5, ⟨[], .one (.leaf (.at (.v 1) 3))⟩)], [(0, .box 33 (.leaf (.at (.v 2) 33)))]⟩⟩]
def b182 : List Blk := [
 ⟨[(0, 0, [false, false, true, false, true, true, true, true, true]), (2, 0, [false, false, true, false, true, true, true, true, true]), (1, 0, []), (0, 0, [true, true, true, true, true, true])], ⟨3, 1, [(7, ⟨[], .one (.leaf (.at (.v 0) 22))⟩), (8, ⟨[], .one (.leaf (.ref 0 22))⟩), (9, ⟨[], .one (.leaf (.at (.v 1) 3))⟩)], [(0, .arr 9 22 (.v 2))]⟩⟩]
def blks (i : Nat) : List Blk :=
 match i with
 | 2 => b2
 | 4 => b4
 | 8 => b8
 | 9 => b9
 | 10 => b10
 | 17 => b17
 | 20 => b20
 | 21 => b21
 | 22 => b22
 | 23 => b23
 | 24 => b24
 | 27 => b27
 | 31 => b31
 | 33 => b33
 | 34 => b34
 | 37 => b37
 | 38 => b38
 | 43 => b43
 | 44 => b44
 | 45 => b45
 | 46 => b46
 | 49 => b49
 | 51 => b51
 | 54 => b54
 | 57 => b57
 | 63 => b63
 | 69 => b69
 | 70 => b70
 | 73 => b73
 | 78 => b78
 | 81 => b81
 | 83 => b83
 | 84 => b84
 | 86 => b86
 | 95 => b95
 | 97 => b97
 | 99 => b99
 | 103 => b103
 | 104 => b104
 | 108 => b108
 | 112 => b112
 | 115 => b115
 | 116 => b116
 | 117 => b117
 | 125 => b125
 | 126 => b126
 | 127 => b127
 | 128 => b128
 | 129 => b129
 | 130 => b130
 | 132 => b132
 | 133 => b133
 | 134 => b134
 | 135 => b135
 | 137 => b137
 | 138 => b138
 | 140 => b140
 | 142 => b142
 | 144 => b144
 | 145 => b145
 | 148 => b148
 | 150 => b150
 | 152 => b152
 | 154 => b154
 | 155 => b155
 | 156 => b156
 | 157 => b157
 | 159 => b159
 | 160 => b160
 | 161 => b161
 | 165 => b165
 | 167 => b167
 | 169 => b169
 | 171 => b171
 | 172 => b172
 | 174 => b174
 | 175 => b175
 | 176 => b176
 | 177 => b177
 | 178 => b178
 | 179 => b179
 | 180 => b180
 | 182 => b182
 | _ => []
def pr (i : Nat) : Option (List IV → Option (List IV)) :=
 match i with
 | 35 => some O.cloneF
 | 42 => some O.compareF
 | 47 => some O.cloneF
 | 60 => some O.copyCheckF
 | 61 => some O.itoaF
 | 64 => some O.stringF
 | 67 => some O.noneF
 | 75 => some O.cloneF
 | 76 => some O.clipF
 | 92 => some O.collectF
 | 93 => some O.sortF
 | 94 => some O.compactF
 | 113 => some (O.growF 16)
 | _ => none
noncomputable def W (f b : Nat) (xs : List IV) : Option (List IV) := V (tab Tryz.prog specs blks 3000) pr ⟨f, b⟩ xs
theorem e_F89_0 (x0 : IV) : W F89 0 [x0] =
calls (W F90 0 [x0]) 1 fun x1 =>
calls (W F91 0 [x1]) 1 fun x2 =>
calls (W F94 0 [x2]) 1 fun x3 =>
some [x3] := V_is rfl (by kernel_rfl)
theorem e_F90_0 (x0 : IV) : W F90 0 [x0] =
some [x0] := V_is rfl (by kernel_rfl)
theorem e_F91_0 (x0 : IV) : W F91 0 [x0] =
calls (W F92 0 [x0]) 1 fun x1 =>
calls (W F93 0 [x1]) 1 fun x2 =>
some [x2] := V_is rfl (by kernel_rfl)
theorem e_F92 (xs : List IV) : W F92 0 xs = O.collectF xs := V_eq _ _ _ _
theorem e_F93 (xs : List IV) : W F93 0 xs = O.sortF xs := V_eq _ _ _ _
theorem e_F94 (xs : List IV) : W F94 0 xs = O.compactF xs := V_eq _ _ _ _
theorem e_F95_0 (x0 x1 : IV) : W F95 0 [x0, x1] =
(O.len x0).bind fun x2 =>
(O.len x1).bind fun x3 =>
(O.ne x2 x3).bind fun x4 =>
cnd x4 (
some [(.bool false)]) (
W F95 1 [x0, x1, (.int 0)]) := V_is rfl (by kernel_rfl)
theorem e_F95_1 (x0 x1 x2 : IV) : W F95 1 [x0, x1, x2] =
(O.len x0).bind fun x3 =>
(O.lt x2 x3).bind fun x4 =>
cnd x4 (
(O.index x0 x2).bind fun x5 =>
(O.index x1 x2).bind fun x6 =>
(O.sNe x5 x6).bind fun x7 =>
cnd x7 (
some [(.bool false)]) (
(O.add .i64 x2 (.int 1)).bind fun x8 =>
W F95 1 [x0, x1, x8])) (
some [(.bool true)]) := V_is rfl (by kernel_rfl)
theorem e_F111_0 (x0 x1 : IV) : W F111 0 [x0, x1] =
(O.mklist [x0, x1]).bind fun x2 =>
calls (W F112 0 [x2]) 1 fun x3 =>
calls (W F89 0 [x3]) 1 fun x4 =>
some [x4] := V_is rfl (by kernel_rfl)
theorem e_F112_0 (x0 : IV) : W F112 0 [x0] =
(O.len x0).bind fun x1 =>
W F112 1 [x0, (.int 0), x0, x1, (.int 0)] := V_is rfl (by kernel_rfl)
theorem e_F112_1 (x0 x1 x2 x3 x4 : IV) : W F112 1 [x0, x1, x2, x3, x4] =
(O.lt x4 x3).bind fun x5 =>
cnd x5 (
(O.index x2 x4).bind fun x6 =>
(O.len x6).bind fun x7 =>
(O.add .i64 x1 x7).bind fun x8 =>
(O.lt x8 (.int 0)).bind fun x9 =>
cnd x9 (
(O.need (.bool false)).bind fun x10 =>
some []) (
W F112 2 [x0, x8, x2, x3, x4])) (
calls (W F113 0 [(.list []), x1]) 1 fun x6 =>
(O.len x0).bind fun x7 =>
W F112 3 [x0, x7, (.int 0), x6]) := V_is rfl (by kernel_rfl)
theorem e_F112_2 (x0 x1 x2 x3 x4 : IV) : W F112 2 [x0, x1, x2, x3, x4] =
(O.add .i64 x4 (.int 1)).bind fun x5 =>
W F112 1 [x0, x1, x2, x3, x5] := V_is rfl (by kernel_rfl)
theorem e_F112_3 (x0 x1 x2 x3 : IV) : W F112 3 [x0, x1, x2, x3] =
(O.lt x2 x1).bind fun x4 =>
cnd x4 (
(O.index x0 x2).bind fun x5 =>
(O.append 16 x3 x5).bind fun x6 =>
(O.add .i64 x2 (.int 1)).bind fun x7 =>
W F112 3 [x0, x1, x7, x6]) (
some [x3]) := V_is rfl (by kernel_rfl)
theorem e_F113 (xs : List IV) : W F113 0 xs = (O.growF 16) xs := V_eq _ _ _ _
theorem e_F114_0 (x0 x1 : IV) : W F114 0 [x0, x1] =
calls (W F115 0 [x0, x1, (.bool false)]) 1 fun x2 =>
some [x2] := V_is rfl (by kernel_rfl)
theorem e_F115_0 (x0 x1 x2 : IV) : W F115 0 [x0, x1, x2] =
(O.len x1).bind fun x3 =>
W F115 1 [x0, x1, x3, (.int 0), x2, (.list [])] := V_is rfl (by kernel_rfl)
theorem e_F118 (x0 x1 x2 x3 x4 x5 : IV) : W F115 1 [x0, x1, x2, x3, x4, x5] =
(O.lt x3 x2).bind fun x6 =>
cnd x6 (
(O.index x1 x3).bind fun x7 =>
(O.mset x5 x7 (.bool true)).bind fun x8 =>
(O.add .i64 x3 (.int 1)).bind fun x9 =>
W F115 1 [x0, x1, x2, x9, x4, x8]) (
calls (W F89 0 [x0]) 1 fun x7 =>
calls (W F116 0 [x7, x5, x4]) 3 fun x8 x9 x10 =>
some [x8]) := V_is rfl (by kernel_rfl)
theorem e_F116_0 (x0 x1 x2 : IV) : W F116 0 [x0, x1, x2] =
calls (W F117 0 [x0, x1, x2]) 3 fun x3 x4 x5 =>
(O.eq x3 (.int (-1))).bind fun x6 =>
cnd x6 (
some [x0, x4, x5]) (
(O.add .i64 x3 (.int 1)).bind fun x7 =>
W F116 1 [x3, x7, x5, x0, x4]) := V_is rfl (by kernel_rfl)
theorem e_F116_1 (x0 x1 x2 x3 x4 : IV) : W F116 1 [x0, x1, x2, x3, x4] =
(O.len x3).bind fun x5 =>
(O.lt x1 x5).bind fun x6 =>
cnd x6 (
(O.index x3 x1).bind fun x7 =>
calls (W F118 0 [x7, x4, x2]) 3 fun x8 x9 x10 =>
(O.not x8).bind fun x11 =>
cnd x11 (
(O.index x3 x0).bind fun x12 =>
(O.setAt 0 1 false true x3 x0 x7).bind fun x13 =>
(O.add .i64 x0 (.int 1)).bind fun x14 =>
W F116 2 [x14, x1, x10, x13, x9]) (
W F116 2 [x0, x1, x10, x3, x9])) (
(O.slice x3 x0 x5).bind fun x7 =>
(O.clear (.str ⟨#[]⟩) x3 x0 x5).bind fun x8 =>
(O.slice x8 (.int 0) x0).bind fun x9 =>
(O.slice x8 (.int 0) x0).bind fun x10 =>
some [x10, x4, x2]) := V_is rfl (by kernel_rfl)
theorem e_F116_2 (x0 x1 x2 x3 x4 : IV) : W F116 2 [x0, x1, x2, x3, x4] =
(O.add .i64 x1 (.int 1)).bind fun x5 =>
W F116 1 [x0, x5, x2, x3, x4] := V_is rfl (by kernel_rfl)
theorem e_F117_0 (x0 x1 x2 : IV) : W F117 0 [x0, x1, x2] =
(O.len x0).bind fun x3 =>
W F117 1 [x0, x3, (.int 0), x2, x1] := V_is rfl (by kernel_rfl)
theorem e_F117_1 (x0 x1 x2 x3 x4 : IV) : W F117 1 [x0, x1, x2, x3, x4] =
(O.lt x2 x1).bind fun x5 =>
cnd x5 (
(O.index x0 x2).bind fun x6 =>
calls (W F118 0 [x6, x4, x3]) 3 fun x7 x8 x9 =>
cnd x7 (
some [x2, x8, x9]) (
(O.add .i64 x2 (.int 1)).bind fun x10 =>
W F117 1 [x0, x1, x10, x9, x8])) (
some [(.int (-1)), x4, x3]) := V_is rfl (by kernel_rfl)
theorem e_F118_0 (x0 x1 x2 : IV) : W F118 0 [x0, x1, x2] =
(O.mget (.bool false) x1 x0).bind fun x3 =>
(O.mhas x1 x0).bind fun x4 =>
(O.bNe x3 x2).bind fun x5 =>
some [x5, x1, x2] := V_is rfl (by kernel_rfl)
theorem e_F119_0 (x0 x1 : IV) : W F119 0 [x0, x1] =
calls (W F115 0 [x0, x1, (.bool true)]) 1 fun x2 =>
some [x2] := V_is rfl (by kernel_rfl)
theorem e_F156_0 (x0 x1 : IV) : W F156 0 [x0, x1] =
W F156 1 [x0, x1, (.int 0), (.list [])] := V_is rfl (by kernel_rfl)
theorem e_F156_1 (x0 x1 x2 x3 : IV) : W F156 1 [x0, x1, x2, x3] =
(O.len x0).bind fun x4 =>
(O.lt x2 x4).bind fun x5 =>
cnd x5 (
(O.index x0 x2).bind fun x6 =>
calls (W F157 0 [x3, x6]) 1 fun x7 =>
(O.add .i64 x2 (.int 1)).bind fun x8 =>
W F156 1 [x0, x1, x8, x7]) (
W F156 2 [x1, (.int 0), x3]) := V_is rfl (by kernel_rfl)
theorem e_F156_2 (x0 x1 x2 : IV) : W F156 2 [x0, x1, x2] =
(O.len x0).bind fun x3 =>
(O.lt x1 x3).bind fun x4 =>
cnd x4 (
(O.index x0 x1).bind fun x5 =>
calls (W F157 0 [x2, x5]) 1 fun x6 =>
(O.add .i64 x1 (.int 1)).bind fun x7 =>
W F156 2 [x0, x7, x6]) (
some [x2]) := V_is rfl (by kernel_rfl)
theorem e_F157_0 (x0 x1 : IV) : W F157 0 [x0, x1] =
W F157 1 [x0, x1, (.bool false), (.int 0), (.list [])] := V_is rfl (by kernel_rfl)
theorem e_F157_1 (x0 x1 x2 x3 x4 : IV) : W F157 1 [x0, x1, x2, x3, x4] =
(O.len x0).bind fun x5 =>
(O.lt x3 x5).bind fun x6 =>
cnd x6 (
(O.not x2).bind fun x7 =>
(cnd x7 (
(O.index x0 x3).bind fun x8 =>
(O.sLe x1 x8).bind fun x9 =>
some x9) (some (.bool false))).bind fun x8 =>
cnd x8 (
(O.mklist [x1]).bind fun x9 =>
(O.append 16 x4 x9).bind fun x10 =>
W F157 2 [x0, x1, (.bool true), x3, x10]) (
W F157 2 [x0, x1, x2, x3, x4])) (
(O.not x2).bind fun x7 =>
cnd x7 (
(O.mklist [x1]).bind fun x8 =>
(O.append 16 x4 x8).bind fun x9 =>
some [x9]) (
some [x4])) := V_is rfl (by kernel_rfl)
theorem e_F157_2 (x0 x1 x2 x3 x4 : IV) : W F157 2 [x0, x1, x2, x3, x4] =
(O.index x0 x3).bind fun x5 =>
(O.sNe x5 x1).bind fun x6 =>
cnd x6 (
(O.mklist [x5]).bind fun x7 =>
(O.append 16 x4 x7).bind fun x8 =>
W F157 3 [x0, x1, x2, x3, x8]) (
W F157 3 [x0, x1, x2, x3, x4]) := V_is rfl (by kernel_rfl)
theorem e_F157_3 (x0 x1 x2 x3 x4 : IV) : W F157 3 [x0, x1, x2, x3, x4] =
(O.add .i64 x3 (.int 1)).bind fun x5 =>
W F157 1 [x0, x1, x2, x5, x4] := V_is rfl (by kernel_rfl)
theorem e_F158_0 (x0 x1 : IV) : W F158 0 [x0, x1] =
(O.len x0).bind fun x2 =>
(O.gt x2 (.int 60)).bind fun x3 =>
(cnd x3 (some (.bool true)) (
(O.len x1).bind fun x4 =>
(O.gt x4 (.int 60)).bind fun x5 =>
some x5)).bind fun x4 =>
cnd x4 (
calls (W F5 0 []) 1 fun x5 =>
some [x5]) (
calls (W F111 0 [x0, x1]) 1 fun x5 =>
calls (W F156 0 [x0, x1]) 1 fun x6 =>
calls (W F95 0 [x5, x6]) 1 fun x7 =>
(cnd x7 (
calls (W F119 0 [x0, x1]) 1 fun x8 =>
calls (W F159 0 [x0, x1]) 1 fun x9 =>
calls (W F95 0 [x8, x9]) 1 fun x10 =>
some x10) (some (.bool false))).bind fun x8 =>
(cnd x8 (
calls (W F114 0 [x0, x1]) 1 fun x9 =>
calls (W F161 0 [x0, x1]) 1 fun x10 =>
calls (W F95 0 [x9, x10]) 1 fun x11 =>
some x11) (some (.bool false))).bind fun x9 =>
(cnd x9 (
calls (W F114 0 [x0, x1]) 1 fun x10 =>
calls (W F111 0 [x10, x1]) 1 fun x11 =>
calls (W F95 0 [x11, x5]) 1 fun x12 =>
some x12) (some (.bool false))).bind fun x10 =>
(cnd x10 (
calls (W F5 0 []) 1 fun x11 =>
some x11) (some (.bool false))).bind fun x11 =>
some [x11]) := V_is rfl (by kernel_rfl)
theorem e_F159_0 (x0 x1 : IV) : W F159 0 [x0, x1] =
W F159 1 [x0, x1, (.int 0), (.list [])] := V_is rfl (by kernel_rfl)
theorem e_F159_1 (x0 x1 x2 x3 : IV) : W F159 1 [x0, x1, x2, x3] =
(O.len x0).bind fun x4 =>
(O.lt x2 x4).bind fun x5 =>
cnd x5 (
(O.index x0 x2).bind fun x6 =>
calls (W F160 0 [x1, x6]) 1 fun x7 =>
cnd x7 (
calls (W F157 0 [x3, x6]) 1 fun x8 =>
W F159 2 [x0, x1, x2, x8]) (
W F159 2 [x0, x1, x2, x3])) (
some [x3]) := V_is rfl (by kernel_rfl)
theorem e_F159_2 (x0 x1 x2 x3 : IV) : W F159 2 [x0, x1, x2, x3] =
(O.add .i64 x2 (.int 1)).bind fun x4 =>
W F159 1 [x0, x1, x4, x3] := V_is rfl (by kernel_rfl)
theorem e_F160_0 (x0 x1 : IV) : W F160 0 [x0, x1] =
W F160 1 [x0, x1, (.int 0)] := V_is rfl (by kernel_rfl)
theorem e_F160_1 (x0 x1 x2 : IV) : W F160 1 [x0, x1, x2] =
(O.len x0).bind fun x3 =>
(O.lt x2 x3).bind fun x4 =>
cnd x4 (
(O.index x0 x2).bind fun x5 =>
(O.sEq x5 x1).bind fun x6 =>
cnd x6 (
some [(.bool true)]) (
(O.add .i64 x2 (.int 1)).bind fun x7 =>
W F160 1 [x0, x1, x7])) (
some [(.bool false)]) := V_is rfl (by kernel_rfl)
theorem e_F161_0 (x0 x1 : IV) : W F161 0 [x0, x1] =
W F161 1 [x0, x1, (.int 0), (.list [])] := V_is rfl (by kernel_rfl)
theorem e_F161_1 (x0 x1 x2 x3 : IV) : W F161 1 [x0, x1, x2, x3] =
(O.len x0).bind fun x4 =>
(O.lt x2 x4).bind fun x5 =>
cnd x5 (
(O.index x0 x2).bind fun x6 =>
calls (W F160 0 [x1, x6]) 1 fun x7 =>
(O.not x7).bind fun x8 =>
cnd x8 (
calls (W F157 0 [x3, x6]) 1 fun x9 =>
W F161 2 [x0, x1, x2, x9]) (
W F161 2 [x0, x1, x2, x3])) (
some [x3]) := V_is rfl (by kernel_rfl)
theorem e_F161_2 (x0 x1 x2 x3 : IV) : W F161 2 [x0, x1, x2, x3] =
(O.add .i64 x2 (.int 1)).bind fun x4 =>
W F161 1 [x0, x1, x4, x3] := V_is rfl (by kernel_rfl)
theorem mixed : Tryz.prog.follows .mixedOrders = true := by kernel_rfl
theorem numbers : numbersOk specs = true := by kernel_rfl
theorem pr_ok : ∀ i s f, (i, s) ∈ specs → pr i = some f → FlatOk Tryz.prog f s := by
 intro i s f hm hp
 have hs := lookS_mem numbers hm
 unfold pr at hp
 split at hp
 ·injection hp with hp; subst hp; have he := hs.symm.trans (show lookS 35 specs = some ⟨135, [.data 31], [.cells 31 [true]], true⟩ by kernel_rfl); injection he with he; subst he; refine PrimOk.flat ?_ (by kernel_rfl)
  exact clone_ok mixed (e := 70) (fn := fnAt Tryz.prog 135) (root := rootAt Tryz.prog 135) (rest := restAt Tryz.prog 135) ⟨by kernel_rfl, by kernel_rfl, by kernel_rfl, by kernel_rfl, by kernel_rfl, of_decide_eq_true (by kernel_rfl), by kernel_rfl, by kernel_rfl, by kernel_rfl, by kernel_rfl, 96, by kernel_rfl, of_decide_eq_true (by kernel_rfl)⟩
 ·injection hp with hp; subst hp; have he := hs.symm.trans (show lookS 42 specs = some ⟨199, [.data 9, .data 9], [.whole 3], false⟩ by kernel_rfl); injection he with he; subst he; refine PrimOk.flat ?_ (by kernel_rfl)
  exact compare_ok (fn := fnAt Tryz.prog 199) (ts := 9) (ti := 3) (by kernel_rfl) (by kernel_rfl) (by kernel_rfl) (by kernel_rfl) (by kernel_rfl) (by kernel_rfl) (by kernel_rfl)
 ·injection hp with hp; subst hp; have he := hs.symm.trans (show lookS 47 specs = some ⟨190, [.data 30], [.cells 30 [true]], true⟩ by kernel_rfl); injection he with he; subst he; refine PrimOk.flat ?_ (by kernel_rfl)
  exact clone_ok mixed (e := 33) (fn := fnAt Tryz.prog 190) (root := rootAt Tryz.prog 190) (rest := restAt Tryz.prog 190) ⟨by kernel_rfl, by kernel_rfl, by kernel_rfl, by kernel_rfl, by kernel_rfl, of_decide_eq_true (by kernel_rfl), by kernel_rfl, by kernel_rfl, by kernel_rfl, by kernel_rfl, 80, by kernel_rfl, of_decide_eq_true (by kernel_rfl)⟩
 ·injection hp with hp; subst hp; have he := hs.symm.trans (show lookS 60 specs = some ⟨233, [.bld 176 true], [], false⟩ by kernel_rfl); injection he with he; subst he; refine PrimOk.flat ?_ (by kernel_rfl)
  exact copyCheck_ok chkLays chkExtra (by kernel_rfl) (by kernel_rfl)
 ·injection hp with hp; subst hp; have he := hs.symm.trans (show lookS 61 specs = some ⟨209, [.data 3], [.whole 9], false⟩ by kernel_rfl); injection he with he; subst he; refine PrimOk.flat ?_ (by kernel_rfl)
  exact itoa_ok Tryz.lays171 (by kernel_rfl) (by kernel_rfl) (by kernel_rfl)
 ·injection hp with hp; subst hp; have he := hs.symm.trans (show lookS 64 specs = some ⟨211, [.bld 176 false], [.whole 9], false⟩ by kernel_rfl); injection he with he; subst he; refine PrimOk.flat ?_ (by kernel_rfl)
  exact string_ok Tryz.lays169 Tryz.extra (by kernel_rfl) (by kernel_rfl) (by kernel_rfl) (by kernel_rfl)
 ·injection hp with hp; subst hp; have he := hs.symm.trans (show lookS 67 specs = some ⟨262, [.data 174, .data 21], [.cells 174 [true]], false⟩ by kernel_rfl); injection he with he; subst he; refine PrimOk.flat ?_ (by kernel_rfl)
  exact none_ok
 ·injection hp with hp; subst hp; have he := hs.symm.trans (show lookS 75 specs = some ⟨195, [.data 39], [.cells 39 [true]], false⟩ by kernel_rfl); injection he with he; subst he; refine PrimOk.flat ?_ (by kernel_rfl)
  exact clone_ok mixed (e := 74) (fn := fnAt Tryz.prog 195) (root := rootAt Tryz.prog 195) (rest := restAt Tryz.prog 195) ⟨by kernel_rfl, by kernel_rfl, by kernel_rfl, by kernel_rfl, by kernel_rfl, of_decide_eq_true (by kernel_rfl), by kernel_rfl, by kernel_rfl, by kernel_rfl, by kernel_rfl, 48, by kernel_rfl, of_decide_eq_true (by kernel_rfl)⟩
 ·injection hp with hp; subst hp; have he := hs.symm.trans (show lookS 76 specs = some ⟨194, [.own 39], [.clip 39], true⟩ by kernel_rfl); injection he with he; subst he; refine PrimOk.flat ?_ (by kernel_rfl)
  exact clip_ok (fn := fnAt Tryz.prog 194) (e := 74) (by kernel_rfl) (by kernel_rfl) (by kernel_rfl) (by kernel_rfl) clip_walk194
 ·injection hp with hp; subst hp; have he := hs.symm.trans (show lookS 92 specs = some ⟨212, [.fn 214 [22]], [.cells 22 [true]], false⟩ by kernel_rfl); injection he with he; subst he; refine PrimOk.flat ?_ (by kernel_rfl)
  exact Coll.collect_ok
 ·injection hp with hp; subst hp; have he := hs.symm.trans (show lookS 93 specs = some ⟨213, [.arr 22], [], false⟩ by kernel_rfl); injection he with he; subst he; refine PrimOk.flat ?_ (by kernel_rfl)
  exact Coll.sort_ok
 ·injection hp with hp; subst hp; have he := hs.symm.trans (show lookS 94 specs = some ⟨162, [.own 22], [.cells 22 [true]], false⟩ by kernel_rfl); injection he with he; subst he; refine PrimOk.flat ?_ (by kernel_rfl)
  exact Coll.compact_ok
 ·injection hp with hp; subst hp; have he := hs.symm.trans (show lookS 113 specs = some ⟨168, [.own 22, .data 3], [.cells 22 [true]], false⟩ by kernel_rfl); injection he with he; subst he; refine PrimOk.flat ?_ (by kernel_rfl)
  exact Coll.grow_ok
 ·cases hp
theorem soundW : ∀ k, Sound Tryz.prog specs (run (tab Tryz.prog specs blks 3000) pr k) := sound_tab mixed numbers (by kernel_rfl) pr_ok
end Go.CT.Sch
