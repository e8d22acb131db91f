import Derived.Test.YtfhkcifopfheaaaGreatDoorCtC
import Derived.Test.YtfhkcifopfheaaaGreatDoorLib
import Derived.Test.YtfhkcifopfheaaaGreatDoorRows
set_option linter.unusedVariables false
set_option linter.unusedSimpArgs false
namespace Go.CT.Sch
open Go.Proofs
def F0 : Nat := 0 -- law08_DefaultsChecks
def F1 : Nat := 1 -- law08_fits
def F2 : Nat := 2 -- ref08_Size
def F3 : Nat := 3 -- ref07_Valid
def F4 : Nat := 4 -- ref07_valid
def F5 : Nat := 5 -- ref07_plain
def F6 : Nat := 6 -- ref07_text
def F7 : Nat := 7 -- ref04_ValidString
def F8 : Nat := 8 -- ref07_list
def F9 : Nat := 9 -- ref07_field
def F10 : Nat := 10 -- ref07_structure
def F11 : Nat := 11 -- ref04_ValidField
def F12 : Nat := 12 -- ref04_Valid
def F13 : Nat := 13 -- ref04_valid
def F14 : Nat := 14 -- ref04_scalar
def F15 : Nat := 15 -- ref04_Size
def F16 : Nat := 16 -- ref07_errors
def F17 : Nat := 17 -- ref07_at
def F18 : Nat := 18 -- ref06_Print
def F19 : Nat := 19 -- ref06_Valid
def F20 : Nat := 20 -- ref06_validStep
def F21 : Nat := 21 -- ref06_validName
def F22 : Nat := 22 -- ref06_NameChar
def F23 : Nat := 23 -- ref06_validString
def F24 : Nat := 24 -- ref06_decimal
def F25 : Nat := 25 -- ref06_quote
def F26 : Nat := 26 -- ref07_elements
def F27 : Nat := 27 -- ref07_Element
def F28 : Nat := 28 -- ref07_KeyOf
def F29 : Nat := 29 -- ref04_Get
def F30 : Nat := 30 -- ref04_Copy
def F31 : Nat := 31 -- ref07_Then
def F32 : Nat := 32 -- ref07_members
def F33 : Nat := 33 -- ref07_Present
def F34 : Nat := 34 -- ref04_Small
def F35 : Nat := 35 -- ref04_count
def F36 : Nat := 36 -- schema_Check
def F37 : Nat := 37 -- schema_Valid
def F38 : Nat := 38 -- schema_valid
def F39 : Nat := 39 -- schema_bounded
def F40 : Nat := 40 -- schema_enumerated
def F41 : Nat := 41 -- value_String
def F42 : Nat := 42 -- value_Valid
def F43 : Nat := 43 -- value_valid
def F44 : Nat := 44 -- value_scalar
def F45 : Nat := 45 -- value_text
def F46 : Nat := 46 -- value_name
def F47 : Nat := 47 -- value_Size
def F48 : Nat := 48 -- schema_keyed
def F49 : Nat := 49 -- schema_field
def F50 : Nat := 50 -- slices_IndexFunc_SchemaField_schema_field_1
def F51 : Nat := 51 -- schema_field_1
def F52 : Nat := 52 -- schema_structure
def F53 : Nat := 53 -- slices_ContainsFunc_Schema_schema_valid_1
def F54 : Nat := 54 -- slices_IndexFunc_Schema_schema_valid_1
def F55 : Nat := 55 -- schema_valid_1
def F56 : Nat := 56 -- schema_fields
def F57 : Nat := 57 -- value_Map
def F58 : Nat := 58 -- slices_Clone_Field
def F59 : Nat := 59 -- slices_SortStableFunc_Field_value_Map_1
def F60 : Nat := 60 -- slices_stableCmpFunc_Field_value_Map_1
def F61 : Nat := 61 -- slices_insertionSortCmpFunc_Field_value_Map_1
def F62 : Nat := 62 -- value_Map_1
def F63 : Nat := 63 -- strings_Compare
def F64 : Nat := 64 -- internal_bytealg_CompareString
def F65 : Nat := 65 -- internal_bytealg_abigen_runtime_cmpstring
def F66 : Nat := 66 -- slices_symMergeCmpFunc_Field_value_Map_1
def F67 : Nat := 67 -- slices_rotateCmpFunc_Field_value_Map_1
def F68 : Nat := 68 -- slices_swapRangeCmpFunc_Field_value_Map_1
def F69 : Nat := 69 -- value_clone
def F70 : Nat := 70 -- slices_Clone_Value
def F71 : Nat := 71 -- schema_errors
def F72 : Nat := 72 -- schema_report_check
def F73 : Nat := 73 -- schema_report_add
def F74 : Nat := 74 -- path_Print
def F75 : Nat := 75 -- path_Valid
def F76 : Nat := 76 -- slices_ContainsFunc_Step_path_Valid_1
def F77 : Nat := 77 -- slices_IndexFunc_Step_path_Valid_1
def F78 : Nat := 78 -- path_Valid_1
def F79 : Nat := 79 -- path_validStep
def F80 : Nat := 80 -- path_validName
def F81 : Nat := 81 -- path_nameRune
def F82 : Nat := 82 -- strings_Builder_WriteByte
def F83 : Nat := 83 -- strings_Builder_copyCheck
def F84 : Nat := 84 -- strconv_Itoa
def F85 : Nat := 85 -- strings_Builder_WriteString
def F86 : Nat := 86 -- path_quote
def F87 : Nat := 87 -- strings_Builder_String
def F88 : Nat := 88 -- strings_Builder_WriteRune
def F89 : Nat := 89 -- unicode_utf8_AppendRune
def F90 : Nat := 90 -- unicode_utf8_appendRuneNonASCII
def F91 : Nat := 91 -- slices_Contains_string
def F92 : Nat := 92 -- slices_Index_string
def F93 : Nat := 93 -- schema_report_list
def F94 : Nat := 94 -- schema_element
def F95 : Nat := 95 -- schema_key
def F96 : Nat := 96 -- value_Get
def F97 : Nat := 97 -- schema_then
def F98 : Nat := 98 -- slices_Clone_Step
def F99 : Nat := 99 -- slices_Clip_Step
def F100 : Nat := 100 -- schema_dictionary
def F101 : Nat := 101 -- schema_report_structure
def F102 : Nat := 102 -- schema_member
def F103 : Nat := 103 -- schema_present
def F104 : Nat := 104 -- law08_lives
def F110 : Nat := 110 -- defaults_Fill
def F111 : Nat := 111 -- defaults_clone
def F112 : Nat := 112 -- value_List
def F113 : Nat := 113 -- defaults_elements_defaults_Fill
def F114 : Nat := 114 -- value_With
def F115 : Nat := 115 -- value_others
def F116 : Nat := 116 -- slices_DeleteFunc_Field_value_others_1
def F117 : Nat := 117 -- slices_IndexFunc_Field_value_others_1
def F118 : Nat := 118 -- value_others_1
def F119 : Nat := 119 -- defaults_under
def F123 : Nat := 123 -- defaults_Prune
def F124 : Nat := 124 -- defaults_elements_defaults_Prune
def specs : List (Nat × Spec) := [
 (0, ⟨7, [.data 26, .data 33], [.whole 4], false⟩),
 (1, ⟨27, [.data 26, .data 33], [.whole 4], false⟩),
 (2, ⟨71, [.data 26, .data 3], [.whole 3], false⟩),
 (3, ⟨18, [.data 26], [.whole 4], false⟩),
 (4, ⟨61, [.data 26, .data 3], [.whole 4], false⟩),
 (5, ⟨111, [.data 26], [.whole 4], false⟩),
 (6, ⟨112, [.data 26], [.whole 4], false⟩),
 (7, ⟨177, [.data 9], [.whole 4], false⟩),
 (8, ⟨113, [.data 26, .data 3], [.whole 4], false⟩),
 (9, ⟨69, [.data 26, .data 9], [.whole 64, .whole 4], true⟩),
 (10, ⟨114, [.data 26, .data 3], [.whole 4], false⟩),
 (11, ⟨139, [.data 9], [.whole 4], false⟩),
 (12, ⟨31, [.data 33], [.whole 4], false⟩),
 (13, ⟨79, [.data 33, .data 3], [.whole 4], false⟩),
 (14, ⟨138, [.data 33], [.whole 4], false⟩),
 (15, ⟨80, [.data 33], [.whole 3], false⟩),
 (16, ⟨64, [.data 26, .data 33, .data 39], [.cells 36 [true]], false⟩),
 (17, ⟨118, [.data 39, .data 50], [.cells 36 [true]], false⟩),
 (18, ⟨166, [.data 39], [.whole 9, .whole 50], false⟩),
 (19, ⟨68, [.data 39], [.whole 4], false⟩),
 (20, ⟨130, [.data 74], [.whole 4], false⟩),
 (21, ⟨188, [.data 9], [.whole 4], false⟩),
 (22, ⟨204, [.data 5], [.whole 4], false⟩),
 (23, ⟨189, [.data 9], [.whole 4], false⟩),
 (24, ⟨216, [.data 3], [.whole 9], false⟩),
 (25, ⟨217, [.data 9], [.whole 9], false⟩),
 (26, ⟨119, [.data 26, .data 33, .data 39], [.cells 36 [true]], false⟩),
 (27, ⟨154, [.data 26, .data 30, .data 3], [.whole 74], false⟩),
 (28, ⟨151, [.data 33, .data 9], [.whole 9, .whole 4], false⟩),
 (29, ⟨200, [.data 33, .data 9], [.cells 33 [false, false, false, true, true], .whole 4], true⟩),
 (30, ⟨104, [.data 33], [.cells 33 [false, false, false, true, true]], true⟩),
 (31, ⟨153, [.data 39, .data 74], [.cells 39 [true]], false⟩),
 (32, ⟨120, [.data 26, .data 33, .data 39], [.cells 36 [true]], false⟩),
 (33, ⟨155, [.data 33, .data 9], [.cells 33 [false, false, false, true, true], .whole 4], true⟩),
 (34, ⟨53, [.data 33, .data 3], [.whole 4], false⟩),
 (35, ⟨102, [.data 33, .data 3, .data 3], [.whole 3], false⟩),
 (36, ⟨21, [.data 26, .data 33], [.cells 36 [true]], false⟩),
 (37, ⟨17, [.data 26], [.whole 4], false⟩),
 (38, ⟨60, [.data 26, .data 3], [.whole 4], false⟩),
 (39, ⟨105, [.data 26, .data 3], [.whole 4], false⟩),
 (40, ⟨106, [.data 26], [.whole 4], false⟩),
 (41, ⟨175, [.data 9], [.cells 33 [false, false, false, true, true]], true⟩),
 (42, ⟨62, [.data 33], [.whole 4], false⟩),
 (43, ⟨115, [.data 33, .data 3], [.whole 4], false⟩),
 (44, ⟨178, [.data 33], [.whole 4], false⟩),
 (45, ⟨220, [.data 9], [.whole 4], false⟩),
 (46, ⟨179, [.data 9], [.whole 4], false⟩),
 (47, ⟨116, [.data 33], [.whole 3], false⟩),
 (48, ⟨107, [.data 26], [.whole 4], false⟩),
 (49, ⟨125, [.data 26, .data 9], [.whole 64, .whole 4], true⟩),
 (50, ⟨185, [.data 24, .fn 186 [9]], [.whole 3], false⟩),
 (51, ⟨186, [.data 64, .rd 9], [.whole 4], false⟩),
 (52, ⟨187, [.data 26], [.whole 4], false⟩),
 (53, ⟨108, [.data 23, .fn 109 [3]], [.whole 4], false⟩),
 (54, ⟨176, [.data 23, .fn 109 [3]], [.whole 3], false⟩),
 (55, ⟨109, [.data 26, .rd 3], [.whole 4], false⟩),
 (56, ⟨110, [.data 26, .data 3], [.whole 4], false⟩),
 (57, ⟨78, [.data 31], [.cells 33 [false, false, false, true, true]], true⟩),
 (58, ⟨135, [.data 31], [.cells 31 [true]], true⟩),
 (59, ⟨136, [.arr 31, .fn 137 []], [], false⟩),
 (60, ⟨193, [.arr 31, .data 3, .fn 137 []], [], false⟩),
 (61, ⟨224, [.arr 31, .data 3, .data 3, .fn 137 []], [], false⟩),
 (62, ⟨137, [.data 70, .data 70], [.whole 3], false⟩),
 (63, ⟨84, [.data 9, .data 9], [.whole 3], false⟩),
 (64, ⟨150, [.data 9, .data 9], [.whole 3], false⟩),
 (65, ⟨199, [.data 9, .data 9], [.whole 3], false⟩),
 (66, ⟨225, [.arr 31, .data 3, .data 3, .data 3, .fn 137 []], [], false⟩),
 (67, ⟨240, [.arr 31, .data 3, .data 3, .data 3, .fn 137 []], [], false⟩),
 (68, ⟨257, [.arr 31, .data 3, .data 3, .data 3, .fn 137 []], [], false⟩),
 (69, ⟨133, [.data 33], [.cells 33 [false, false, false, true, true]], true⟩),
 (70, ⟨190, [.data 30], [.cells 30 [true]], true⟩),
 (71, ⟨63, [.data 26, .data 33], [.cells 36 [true]], false⟩),
 (72, ⟨117, [.box 89 [true], .data 26, .data 33, .data 39], [], false⟩),
 (73, ⟨144, [.box 89 [true], .data 39, .data 50], [], false⟩),
 (74, ⟨160, [.data 39], [.whole 9, .whole 50], false⟩),
 (75, ⟨65, [.data 39], [.whole 4], false⟩),
 (76, ⟨121, [.data 39, .fn 122 []], [.whole 4], false⟩),
 (77, ⟨183, [.data 39, .fn 122 []], [.whole 3], false⟩),
 (78, ⟨122, [.data 74], [.whole 4], false⟩),
 (79, ⟨123, [.data 74], [.whole 4], false⟩),
 (80, ⟨184, [.data 9], [.whole 4], false⟩),
 (81, ⟨222, [.data 21], [.whole 4], false⟩),
 (82, ⟨207, [.bld 176 true, .data 5], [.skip], false⟩),
 (83, ⟨233, [.bld 176 true], [], false⟩),
 (84, ⟨209, [.data 3], [.whole 9], false⟩),
 (85, ⟨208, [.bld 176 true, .data 9], [.whole 3, .skip], false⟩),
 (86, ⟨210, [.data 9], [.whole 9], false⟩),
 (87, ⟨211, [.bld 176 false], [.whole 9], false⟩),
 (88, ⟨235, [.bld 176 true, .data 21], [.whole 3, .skip], false⟩),
 (89, ⟨245, [.own 174, .data 21], [.cells 174 [true]], false⟩),
 (90, ⟨262, [.data 174, .data 21], [.cells 174 [true]], false⟩),
 (91, ⟨180, [.data 22, .data 9], [.whole 4], false⟩),
 (92, ⟨221, [.data 22, .data 9], [.whole 3], false⟩),
 (93, ⟨181, [.box 89 [true], .data 26, .data 33, .data 39], [], false⟩),
 (94, ⟨148, [.data 26, .data 3, .data 33], [.whole 74], false⟩),
 (95, ⟨145, [.data 33, .data 9], [.whole 9, .whole 4], false⟩),
 (96, ⟨75, [.data 33, .data 9], [.cells 33 [false, false, false, true, true], .whole 4], true⟩),
 (97, ⟨141, [.data 39, .data 74], [.cells 39 [true]], false⟩),
 (98, ⟨195, [.data 39], [.cells 39 [true]], false⟩),
 (99, ⟨194, [.own 39], [.clip 39], true⟩),
 (100, ⟨124, [.data 26], [.whole 4], false⟩),
 (101, ⟨182, [.box 89 [true], .data 26, .data 33, .data 39], [], false⟩),
 (102, ⟨142, [.data 9], [.whole 74], false⟩),
 (103, ⟨140, [.data 33, .data 9], [.cells 33 [false, false, false, true, true], .whole 4], true⟩),
 (104, ⟨28, [], [.whole 4], false⟩),
 (105, ⟨55, [.data 31], [.cells 33 [false, false, false, true, true]], true⟩),
 (106, ⟨103, [.data 31, .data 70], [.cells 31 [true]], true⟩),
 (107, ⟨57, [.data 3], [.cells 33 [false, false, false, true, true]], true⟩),
 (108, ⟨56, [.data 9], [.cells 33 [false, false, false, true, true]], true⟩),
 (109, ⟨72, [], [.cells 26 [false, false, false, true, false, true, true]], true⟩),
 (110, ⟨29, [.data 26, .data 33], [.whole 33], true⟩),
 (111, ⟨73, [.data 33], [.whole 33], true⟩),
 (112, ⟨129, [.data 30], [.cells 33 [false, false, false, true, true]], true⟩),
 (113, ⟨74, [.data 26, .data 33, .fn 29 []], [.whole 33], true⟩),
 (114, ⟨76, [.data 33, .data 9, .data 33], [.cells 33 [false, false, false, true, true]], true⟩),
 (115, ⟨134, [.data 33, .data 9], [.cells 31 [true]], true⟩),
 (116, ⟨191, [.own 31, .fn 192 [9]], [.cells 31 [true]], true⟩),
 (117, ⟨223, [.data 31, .fn 192 [9]], [.whole 3], false⟩),
 (118, ⟨192, [.data 70, .rd 9], [.whole 4], false⟩),
 (119, ⟨77, [.data 26, .data 9], [.whole 26, .whole 4], true⟩),
 (120, ⟨35, [.data 33, .data 33], [.whole 4], false⟩),
 (121, ⟨87, [.data 33, .data 33], [.whole 3], false⟩),
 (122, ⟨158, [.data 4, .data 4], [.whole 3], false⟩),
 (123, ⟨30, [.data 26, .data 33], [.whole 33], true⟩),
 (124, ⟨74, [.data 26, .data 33, .fn 30 []], [.whole 33], true⟩)]
def b2 : List Blk := [
 ⟨[(0, 0, [false, false, true, false, true, true]), (2, 0, [false, false, true, false, true, true]), (1, 0, []), (0, 0, [true, true, true])], ⟨4, 1, [(1, ⟨[], .one (.leaf (.at (.v 0) 3))⟩), (2, ⟨[], .one (.leaf (.ptr (.p 0 0)))⟩), (5, ⟨[], .one (.leaf (.at (.v 1) 3))⟩), (6, ⟨[], .one (.leaf (.at (.v 2) 3))⟩)], [(0, .box 26 (.leaf (.at (.v 3) 26)))]⟩⟩,
 ⟨[(0, 0, [false, false, true, false, true, true, true]), (2, 0, [false, false, true, false, true, true, true]), (1, 2, []), (0, 0, [true, true, true, true])], ⟨4, 1, [(1, ⟨[], .one (.leaf (.at (.v 0) 3))⟩), (2, ⟨[], .one (.leaf (.ptr (.p 0 0)))⟩), (5, ⟨[], .one (.leaf (.at (.v 1) 3))⟩), (7, ⟨[], .one (.leaf (.at (.v 2) 3))⟩)], [(0, .box 26 (.leaf (.at (.v 3) 26)))]⟩⟩]
def b6 : List Blk := [
 ⟨[(0, 0, [false, false, true, false, true]), (2, 0, [false, false, true, false, true]), (1, 0, []), (0, 0, [true, true])], ⟨2, 1, [(1, ⟨[], .one (.leaf (.ptr (.p 0 0)))⟩), (3, ⟨[], .one (.leaf (.at (.v 0) 3))⟩)], [(0, .box 26 (.leaf (.at (.v 1) 26)))]⟩⟩]
def b7 : List Blk := [
 ⟨[(0, 0, [false, false, true, false, true]), (2, 0, [false, false, true, false, true]), (1, 0, []), (0, 0, [true, true])], ⟨2, 0, [(0, ⟨[], .one (.leaf (.at (.v 0) 9))⟩), (3, ⟨[], .one (.leaf (.at (.v 1) 3))⟩)], []⟩⟩]
def b8 : List Blk := [
 ⟨[(0, 0, [true, true, true])], ⟨2, 1, [(1, ⟨[], .one (.leaf (.at (.v 0) 3))⟩), (2, ⟨[], .one (.leaf (.ptr (.p 0 0)))⟩)], [(0, .box 26 (.leaf (.at (.v 1) 26)))]⟩⟩]
def b9 : List Blk := [
 ⟨[(0, 0, [false, false, true, false, true]), (2, 0, [false, false, true, false, true]), (1, 0, []), (0, 0, [true, true])], ⟨10, 2, [(1, ⟨[], .one (.leaf (.at (.v 0) 9))⟩), (2, ⟨[], .one (.leaf (.ptr (.p 0 0)))⟩), (4, ⟨[], .one (.leaf (.ptr (.p 1 0)))⟩), (6, ⟨[], .one (.leaf (.at (.v 1) 3))⟩)], [(0, .box 26 (.leaf (.at (.v 2) 26))), (1, .box 64 (.agg 64 [.at (.v 3) 9, .at (.v 4) 4, .at (.v 5) 4, .nil 30, .at (.v 6) 3, .at (.v 7) 3, .at (.v 8) 3, .nil 22, .at (.v 9) 9, .nil 23, .nil 24]))]⟩⟩]
def b10 : List Blk := [
 ⟨[(0, 0, [false, false, true, false, true, true, true]), (2, 0, [false, false, true, false, true, true, true]), (1, 0, []), (0, 0, [true, true, true, true])], ⟨3, 1, [(1, ⟨[], .one (.leaf (.at (.v 0) 3))⟩), (2, ⟨[], .one (.leaf (.ptr (.p 0 0)))⟩), (5, ⟨[], .one (.leaf (.at (.v 1) 3))⟩)], [(0, .box 26 (.leaf (.at (.v 2) 26)))]⟩⟩]
def b11 : List Blk := [
 ⟨[(0, 0, [false, false, true, false, true]), (2, 0, [false, false, true, false, true]), (1, 0, []), (0, 0, [true, true])], ⟨2, 0, [(0, ⟨[], .one (.leaf (.at (.v 0) 9))⟩), (3, ⟨[], .one (.leaf (.at (.v 1) 3))⟩)], []⟩⟩]
def b13 : List Blk := [
 ⟨[(0, 0, [false, false, true, false, true, true, true]), (2, 0, [false, false, true, false, true, true, true]), (1, 0, []), (0, 0, [true, true, true, true])], ⟨3, 1, [(1, ⟨[], .one (.leaf (.at (.v 0) 3))⟩), (2, ⟨[], .one (.leaf (.ptr (.p 0 0)))⟩), (5, ⟨[], .one (.leaf (.at (.v 1) 3))⟩)], [(0, .box 33 (.leaf (.at (.v 2) 33)))]⟩⟩,
 ⟨[(0, 0, [false, false, true, false, true, true, true, true]), (2, 0, [false, false, true, false, true, true, true, true]), (1, 2, []), (0, 0, [true, true, true, true, true])], ⟨3, 1, [(1, ⟨[], .one (.leaf (.at (.v 0) 3))⟩), (2, ⟨[], .one (.leaf (.ptr (.p 0 0)))⟩), (6, ⟨[], .one (.leaf (.at (.v 1) 3))⟩)], [(0, .box 33 (.leaf (.at (.v 2) 33)))]⟩⟩]
def b14 : List Blk := [
 ⟨[(0, 0, [true, true, true, true, true, true, true, false, true, false, true]), (1, 0, []), (0, 0, [true, true])], ⟨2, 1, [(1, ⟨[], .one (.leaf (.ptr (.p 0 0)))⟩), (45, ⟨[], .one (.leaf (.at (.v 0) 4))⟩)], [(0, .box 33 (.leaf (.at (.v 1) 33)))]⟩⟩]
def b15 : List Blk := [
 ⟨[(0, 0, [false, false, true, false, true, true]), (2, 0, [false, false, true, false, true, true]), (1, 0, []), (0, 0, [true, true, true])], ⟨3, 1, [(1, ⟨[], .one (.leaf (.ptr (.p 0 0)))⟩), (3, ⟨[], .one (.leaf (.at (.v 0) 3))⟩), (4, ⟨[], .one (.leaf (.at (.v 1) 3))⟩)], [(0, .box 33 (.leaf (.at (.v 2) 33)))]⟩⟩,
 ⟨[(0, 0, [false, false, true, false, true, true, true]), (2, 0, [false, false, true, false, true, true, true]), (1, 2, []), (0, 0, [true, true, true, true])], ⟨3, 1, [(1, ⟨[], .one (.leaf (.ptr (.p 0 0)))⟩), (3, ⟨[], .one (.leaf (.at (.v 0) 3))⟩), (5, ⟨[], .one (.leaf (.at (.v 1) 3))⟩)], [(0, .box 33 (.leaf (.at (.v 2) 33)))]⟩⟩]
def b16 : List Blk := [
 ⟨[(0, 0, [false, false, true, false, true, false, true, true, true, false, true, false, true, true]), (2, 0, [false, false, true, false, true, false, true, true, true, false, true, false, true, true]), (1, 1, []), (0, 0, [true, true, false, true, true, true, false, true, false, true, true]), (1, 0, []), (0, 0, [true, true, true])], ⟨4, 2, [(2, ⟨[], .one (.leaf (.at (.v 0) 39))⟩), (3, ⟨[], .one (.leaf (.ptr (.p 0 0)))⟩), (4, ⟨[], .one (.leaf (.ptr (.p 1 0)))⟩), (7, ⟨[], .one (.leaf (.at (.v 1) 3))⟩)], [(0, .box 26 (.leaf (.at (.v 2) 26))), (1, .box 33 (.leaf (.at (.v 3) 33)))]⟩⟩]
def b18 : List Blk := [
 ⟨[(0, 0, [false, false, true, false, true, true, true]), (2, 0, [false, false, true, false, true, true, true]), (1, 0, []), (0, 0, [true, true, true, true])], ⟨3, 0, [(0, ⟨[], .one (.leaf (.at (.v 0) 39))⟩), (4, ⟨[], .one (.leaf (.at (.v 1) 9))⟩), (5, ⟨[], .one (.leaf (.at (.v 2) 3))⟩)], []⟩⟩,
 ⟨[(1, 1, []), (0, 0, [true, true, false, false, true, false, true, true, true]), (2, 0, [false, false, true, false, true, true, true]), (1, 0, []), (0, 0, [true, true, true, true])], ⟨3, 0, [(0, ⟨[], .one (.leaf (.at (.v 0) 39))⟩), (4, ⟨[], .one (.leaf (.at (.v 1) 9))⟩), (5, ⟨[], .one (.leaf (.at (.v 2) 3))⟩)], []⟩⟩]
def b19 : List Blk := [
 ⟨[(0, 0, [false, false, true, false, true]), (2, 0, [false, false, true, false, true]), (1, 0, []), (0, 0, [true, true])], ⟨2, 0, [(0, ⟨[], .one (.leaf (.at (.v 0) 39))⟩), (3, ⟨[], .one (.leaf (.at (.v 1) 3))⟩)], []⟩⟩]
def b21 : List Blk := [
 ⟨[(0, 0, [false, false, true, false, true]), (2, 0, [false, false, true, false, true]), (1, 0, []), (0, 0, [true, true])], ⟨2, 0, [(0, ⟨[], .one (.leaf (.at (.v 0) 9))⟩), (3, ⟨[], .one (.leaf (.at (.v 1) 3))⟩)], []⟩⟩]
def b23 : List Blk := [
 ⟨[(0, 0, [false, false, true, false, true]), (2, 0, [false, false, true, false, true]), (1, 0, []), (0, 0, [true, true])], ⟨2, 0, [(0, ⟨[], .one (.leaf (.at (.v 0) 9))⟩), (3, ⟨[], .one (.leaf (.at (.v 1) 3))⟩)], []⟩⟩]
def b25 : List Blk := [
 ⟨[(0, 0, [false, false, true, false, true, true]), (2, 0, [false, false, true, false, true, true]), (1, 0, []), (0, 0, [true, true, true])], ⟨3, 0, [(0, ⟨[], .one (.leaf (.at (.v 0) 9))⟩), (3, ⟨[], .one (.leaf (.at (.v 1) 9))⟩), (4, ⟨[], .one (.leaf (.at (.v 2) 3))⟩)], []⟩⟩,
 ⟨[(1, 1, []), (0, 0, [true, true, false, false, true, false, true, true]), (2, 0, [false, false, true, false, true, true]), (1, 0, []), (0, 0, [true, true, true])], ⟨3, 0, [(0, ⟨[], .one (.leaf (.at (.v 0) 9))⟩), (3, ⟨[], .one (.leaf (.at (.v 1) 9))⟩), (4, ⟨[], .one (.leaf (.at (.v 2) 3))⟩)], []⟩⟩]
def b26 : List Blk := [
 ⟨[(0, 0, [true, true, true])], ⟨4, 3, [(2, ⟨[], .one (.leaf (.at (.v 0) 39))⟩), (3, ⟨[], .one (.leaf (.ptr (.p 0 0)))⟩), (4, ⟨[], .one (.leaf (.ptr (.p 1 0)))⟩), (7, ⟨[], .one (.leaf (.ref 2 36))⟩)], [(0, .box 26 (.leaf (.at (.v 1) 26))), (1, .box 33 (.leaf (.at (.v 2) 33))), (2, .arr 54 36 (.v 3))]⟩⟩,
 ⟨[(0, 0, [false, false, true, false, true, true, true]), (2, 0, [false, false, true, false, true, true, true]), (1, 0, []), (0, 0, [true, true, true, true])], ⟨5, 3, [(2, ⟨[], .one (.leaf (.at (.v 0) 39))⟩), (3, ⟨[], .one (.leaf (.ptr (.p 0 0)))⟩), (4, ⟨[], .one (.leaf (.ptr (.p 1 0)))⟩), (7, ⟨[], .one (.leaf (.ref 2 36))⟩), (8, ⟨[], .one (.leaf (.at (.v 1) 3))⟩)], [(0, .box 26 (.leaf (.at (.v 2) 26))), (1, .box 33 (.leaf (.at (.v 3) 33))), (2, .arr 54 36 (.v 4))]⟩⟩,
 ⟨[(0, 0, [false, false, true, false, true, true, true, true, false, false, true, false, false, true, false, true, true, true]), (2, 0, [false, false, true, false, true, true, true, true, false, false, true, false, false, true, false, true, true, true]), (1, 2, []), (0, 0, [true, true, true, true, true, false, false, true, false, false, true, false, true, true, true]), (1, 1, []), (0, 0, [true, true, false, false, true, false, true, true, true]), (2, 0, [false, false, true, false, true, true, true]), (1, 0, []), (0, 0, [true, true, true, true])], ⟨10, 4, [(2, ⟨[], .one (.leaf (.at (.v 0) 39))⟩), (3, ⟨[], .one (.leaf (.ptr (.p 0 0)))⟩), (4, ⟨[], .one (.leaf (.ptr (.p 1 0)))⟩), (7, ⟨[], .one (.leaf (.ref 2 36))⟩), (8, ⟨[], .one (.leaf (.at (.v 1) 3))⟩), (9, ⟨[], .one (.leaf (.ref 3 39))⟩), (10, ⟨[], .one (.leaf (.at (.v 2) 9))⟩), (11, ⟨[], .one (.leaf (.at (.v 3) 4))⟩), (12, ⟨[], .one (.leaf (.at (.v 4) 4))⟩), (13, ⟨[], .one (.leaf (.at (.v 5) 3))⟩)], [(0, .box 26 (.leaf (.at (.v 6) 26))), (1, .box 33 (.leaf (.at (.v 7) 33))), (2, .arr 54 36 (.v 8)), (3, .arr 74 39 (.v 9))]⟩⟩,
 ⟨[(1, 1, []), (0, 0, [true, true, false, false, true, false, true, true, true]), (2, 0, [false, false, true, false, true, true, true]), (1, 0, []), (0, 0, [true, true, true, true])], ⟨5, 3, [(2, ⟨[], .one (.leaf (.at (.v 0) 39))⟩), (3, ⟨[], .one (.leaf (.ptr (.p 0 0)))⟩), (4, ⟨[], .one (.leaf (.ptr (.p 1 0)))⟩), (7, ⟨[], .one (.leaf (.ref 2 36))⟩), (8, ⟨[], .one (.leaf (.at (.v 1) 3))⟩)], [(0, .box 26 (.leaf (.at (.v 2) 26))), (1, .box 33 (.leaf (.at (.v 3) 33))), (2, .arr 54 36 (.v 4))]⟩⟩]
def b29 : List Blk := [
 ⟨[(0, 0, [false, false, true, false, true, false, true]), (2, 0, [false, false, true, false, true, false, true]), (1, 0, []), (0, 0, [true, true])], ⟨6, 2, [(1, ⟨[], .one (.leaf (.at (.v 0) 9))⟩), (2, ⟨[], .one (.leaf (.ptr (.p 0 0)))⟩), (4, ⟨[], .one (.leaf (.ptr (.p 1 0)))⟩), (6, ⟨[], .one (.leaf (.at (.v 1) 3))⟩)], [(0, .box 33 (.leaf (.at (.v 2) 33))), (1, .box 33 (.agg 33 [.at (.v 3) 3, .at (.v 4) 3, .at (.v 5) 9, .nil 30, .nil 31]))]⟩⟩]
def b30 : List Blk := [
 ⟨[(0, 0, [false, false, true, false, true, true]), (2, 0, [false, false, true, false, true, true]), (1, 0, []), (0, 0, [true, true, true])], ⟨9, 4, [(1, ⟨[], .one (.leaf (.ptr (.p 0 0)))⟩), (2, ⟨[], .one (.leaf (.ptr (.p 1 0)))⟩), (3, ⟨[], .one (.leaf (.ptr (.p 2 0)))⟩), (4, ⟨[], .one (.leaf (.at (.v 0) 3))⟩)], [(0, .box 33 (.leaf (.at (.v 1) 33))), (1, .box 33 (.agg 33 [.at (.v 2) 3, .at (.v 3) 3, .at (.v 4) 9, .nil 30, .nil 31])), (2, .box 33 (.agg 33 [.at (.v 5) 3, .at (.v 6) 3, .at (.v 7) 9, .ref 3 30, .nil 31])), (3, .arr 33 30 (.v 8))]⟩⟩,
 ⟨[(0, 0, [false, false, true, false, true, true, true]), (2, 0, [false, false, true, false, true, true, true]), (1, 2, []), (0, 0, [true, true, true, true])], ⟨10, 5, [(1, ⟨[], .one (.leaf (.ptr (.p 0 0)))⟩), (2, ⟨[], .one (.leaf (.ptr (.p 1 0)))⟩), (3, ⟨[], .one (.leaf (.ptr (.p 2 0)))⟩), (5, ⟨[], .one (.leaf (.at (.v 0) 3))⟩)], [(0, .box 33 (.leaf (.at (.v 1) 33))), (1, .box 33 (.agg 33 [.at (.v 2) 3, .at (.v 3) 3, .at (.v 4) 9, .nil 30, .nil 31])), (2, .box 33 (.agg 33 [.at (.v 5) 3, .at (.v 6) 3, .at (.v 7) 9, .ref 3 30, .ref 4 31])), (3, .arr 33 30 (.v 8)), (4, .arr 70 31 (.v 9))]⟩⟩]
def b32 : List Blk := [
 ⟨[(0, 0, [false, false, true, false, true, true]), (2, 0, [false, false, true, false, true, true]), (1, 0, []), (0, 0, [true, true, true])], ⟨5, 3, [(2, ⟨[], .one (.leaf (.at (.v 0) 39))⟩), (3, ⟨[], .one (.leaf (.ptr (.p 0 0)))⟩), (4, ⟨[], .one (.leaf (.ptr (.p 1 0)))⟩), (7, ⟨[], .one (.leaf (.ref 2 36))⟩), (8, ⟨[], .one (.leaf (.at (.v 1) 3))⟩)], [(0, .box 26 (.leaf (.at (.v 2) 26))), (1, .box 33 (.leaf (.at (.v 3) 33))), (2, .arr 54 36 (.v 4))]⟩⟩,
 ⟨[(1, 1, []), (0, 0, [true, true, false, false, true, false, true, true]), (2, 0, [false, false, true, false, true, true]), (1, 0, []), (0, 0, [true, true, true])], ⟨5, 3, [(2, ⟨[], .one (.leaf (.at (.v 0) 39))⟩), (3, ⟨[], .one (.leaf (.ptr (.p 0 0)))⟩), (4, ⟨[], .one (.leaf (.ptr (.p 1 0)))⟩), (7, ⟨[], .one (.leaf (.ref 2 36))⟩), (8, ⟨[], .one (.leaf (.at (.v 1) 3))⟩)], [(0, .box 26 (.leaf (.at (.v 2) 26))), (1, .box 33 (.leaf (.at (.v 3) 33))), (2, .arr 54 36 (.v 4))]⟩⟩,
 ⟨[(0, 0, [false, false, true, false, true, true, true]), (2, 0, [false, false, true, false, true, true, true]), (1, 2, []), (0, 0, [true, true, true, true])], ⟨5, 3, [(2, ⟨[], .one (.leaf (.at (.v 0) 39))⟩), (3, ⟨[], .one (.leaf (.ptr (.p 0 0)))⟩), (4, ⟨[], .one (.leaf (.ptr (.p 1 0)))⟩), (7, ⟨[], .one (.leaf (.ref 2 36))⟩), (13, ⟨[], .one (.leaf (.at (.v 1) 3))⟩)], [(0, .box 26 (.leaf (.at (.v 2) 26))), (1, .box 33 (.leaf (.at (.v 3) 33))), (2, .arr 54 36 (.v 4))]⟩⟩,
 ⟨[(1, 3, []), (0, 0, [true, true, false, false, true, false, true, true, true]), (2, 0, [false, false, true, false, true, true, true]), (1, 2, []), (0, 0, [true, true, true, true])], ⟨5, 3, [(2, ⟨[], .one (.leaf (.at (.v 0) 39))⟩), (3, ⟨[], .one (.leaf (.ptr (.p 0 0)))⟩), (4, ⟨[], .one (.leaf (.ptr (.p 1 0)))⟩), (7, ⟨[], .one (.leaf (.ref 2 36))⟩), (13, ⟨[], .one (.leaf (.at (.v 1) 3))⟩)], [(0, .box 26 (.leaf (.at (.v 2) 26))), (1, .box 33 (.leaf (.at (.v 3) 33))), (2, .arr 54 36 (.v 4))]⟩⟩]
def b35 : List Blk := [
 ⟨[(0, 0, [false, false, true, false, true, true, true]), (2, 0, [false, false, true, false, true, true, true]), (1, 0, []), (0, 0, [true, true, true, true])], ⟨4, 1, [(1, ⟨[], .one (.leaf (.at (.v 0) 3))⟩), (2, ⟨[], .one (.leaf (.at (.v 1) 3))⟩), (3, ⟨[], .one (.leaf (.ptr (.p 0 0)))⟩), (7, ⟨[], .one (.leaf (.at (.v 2) 3))⟩)], [(0, .box 33 (.leaf (.at (.v 3) 33)))]⟩⟩,
 ⟨[(0, 0, [false, false, true, false, true, true, true, true]), (2, 0, [false, false, true, false, true, true, true, true]), (1, 2, []), (0, 0, [true, true, true, true, true])], ⟨4, 1, [(1, ⟨[], .one (.leaf (.at (.v 0) 3))⟩), (2, ⟨[], .one (.leaf (.at (.v 1) 3))⟩), (3, ⟨[], .one (.leaf (.ptr (.p 0 0)))⟩), (8, ⟨[], .one (.leaf (.at (.v 2) 3))⟩)], [(0, .box 33 (.leaf (.at (.v 3) 33)))]⟩⟩]
def b40 : List Blk := [
 ⟨[(0, 0, [false, false, true, false, true]), (2, 0, [false, false, true, false, true]), (1, 0, []), (0, 0, [true, true])], ⟨4, 1, [(1, ⟨[], .one (.leaf (.ptr (.p 0 0)))⟩), (6, ⟨[], .one (.leaf (.at (.v 0) 22))⟩), (7, ⟨[], .one (.leaf (.at (.v 1) 3))⟩), (8, ⟨[], .one (.leaf (.at (.v 2) 3))⟩)], [(0, .box 26 (.leaf (.at (.v 3) 26)))]⟩⟩]
def b43 : List Blk := [
 ⟨[(0, 0, [false, false, true, false, true, true]), (2, 0, [false, false, true, false, true, true]), (1, 0, []), (0, 0, [true, true, true])], ⟨5, 1, [(1, ⟨[], .one (.leaf (.at (.v 0) 3))⟩), (2, ⟨[], .one (.leaf (.ptr (.p 0 0)))⟩), (51, ⟨[], .one (.leaf (.at (.v 1) 30))⟩), (52, ⟨[], .one (.leaf (.at (.v 2) 3))⟩), (53, ⟨[], .one (.leaf (.at (.v 3) 3))⟩)], [(0, .box 33 (.leaf (.at (.v 4) 33)))]⟩⟩,
 ⟨[(0, 0, [false, false, true, false, true, true, true]), (2, 0, [false, false, true, false, true, true, true]), (1, 2, []), (0, 0, [true, true, true, true])], ⟨5, 1, [(1, ⟨[], .one (.leaf (.at (.v 0) 3))⟩), (2, ⟨[], .one (.leaf (.ptr (.p 0 0)))⟩), (64, ⟨[], .one (.leaf (.at (.v 1) 31))⟩), (65, ⟨[], .one (.leaf (.at (.v 2) 3))⟩), (66, ⟨[], .one (.leaf (.at (.v 3) 3))⟩)], [(0, .box 33 (.leaf (.at (.v 4) 33)))]⟩⟩]
def b44 : List Blk := [
 ⟨[(0, 0, [true, true, true, true, true, true, true, false, true, false, true]), (1, 0, []), (0, 0, [true, true])], ⟨2, 1, [(1, ⟨[], .one (.leaf (.ptr (.p 0 0)))⟩), (45, ⟨[], .one (.leaf (.at (.v 0) 4))⟩)], [(0, .box 33 (.leaf (.at (.v 1) 33)))]⟩⟩]
def b45 : List Blk := [
 ⟨[(0, 0, [false, false, true, false, true]), (2, 0, [false, false, true, false, true]), (1, 0, []), (0, 0, [true, true])], ⟨3, 0, [(0, ⟨[], .one (.leaf (.at (.v 0) 9))⟩), (5, ⟨[], .one (.leaf (.at (.v 1) 3))⟩), (6, ⟨[], .one (.leaf (.at (.v 2) 3))⟩)], []⟩⟩]
def b46 : List Blk := [
 ⟨[(0, 0, [false, false, true, false, true]), (2, 0, [false, false, true, false, true]), (1, 0, []), (0, 0, [true, true])], ⟨3, 0, [(0, ⟨[], .one (.leaf (.at (.v 0) 9))⟩), (6, ⟨[], .one (.leaf (.at (.v 1) 3))⟩), (7, ⟨[], .one (.leaf (.at (.v 2) 3))⟩)], []⟩⟩]
def b47 : List Blk := [
 ⟨[(0, 0, [false, false, true, false, true, true]), (2, 0, [false, false, true, false, true, true]), (1, 0, []), (0, 0, [true, true, true])], ⟨5, 1, [(1, ⟨[], .one (.leaf (.ptr (.p 0 0)))⟩), (3, ⟨[], .one (.leaf (.at (.v 0) 3))⟩), (9, ⟨[], .one (.leaf (.at (.v 1) 30))⟩), (10, ⟨[], .one (.leaf (.at (.v 2) 3))⟩), (11, ⟨[], .one (.leaf (.at (.v 3) 3))⟩)], [(0, .box 33 (.leaf (.at (.v 4) 33)))]⟩⟩,
 ⟨[(0, 0, [false, false, true, false, true, true, true]), (2, 0, [false, false, true, false, true, true, true]), (1, 2, []), (0, 0, [true, true, true, true])], ⟨4, 0, [(3, ⟨[], .one (.leaf (.at (.v 0) 3))⟩), (21, ⟨[], .one (.leaf (.at (.v 1) 31))⟩), (22, ⟨[], .one (.leaf (.at (.v 2) 3))⟩), (23, ⟨[], .one (.leaf (.at (.v 3) 3))⟩)], []⟩⟩]
def b50 : List Blk := [
 ⟨[(0, 0, [false, false, true, false, true]), (2, 0, [false, false, true, false, true]), (1, 0, []), (0, 0, [true, true])], ⟨4, 0, [(0, ⟨[], .one (.leaf (.at (.v 0) 24))⟩), (1, ⟨[], .one (.leaf (.fn 186 [.im (.v 1) 9 0]))⟩), (7, ⟨[], .one (.leaf (.at (.v 2) 3))⟩), (8, ⟨[], .one (.leaf (.at (.v 3) 3))⟩)], []⟩⟩]
def b54 : List Blk := [
 ⟨[(0, 0, [false, false, true, false, true]), (2, 0, [false, false, true, false, true]), (1, 0, []), (0, 0, [true, true])], ⟨4, 0, [(0, ⟨[], .one (.leaf (.at (.v 0) 23))⟩), (1, ⟨[], .one (.leaf (.fn 109 [.im (.v 1) 3 0]))⟩), (7, ⟨[], .one (.leaf (.at (.v 2) 3))⟩), (8, ⟨[], .one (.leaf (.at (.v 3) 3))⟩)], []⟩⟩]
def b56 : List Blk := [
 ⟨[(0, 0, [false, false, true, false, true]), (2, 0, [false, false, true, false, true]), (1, 0, []), (0, 0, [true, true])], ⟨5, 1, [(1, ⟨[], .one (.leaf (.at (.v 0) 3))⟩), (2, ⟨[], .one (.leaf (.ptr (.p 0 0)))⟩), (11, ⟨[], .one (.leaf (.at (.v 1) 24))⟩), (12, ⟨[], .one (.leaf (.at (.v 2) 3))⟩), (13, ⟨[], .one (.leaf (.at (.v 3) 3))⟩)], [(0, .box 26 (.leaf (.at (.v 4) 26)))]⟩⟩,
 ⟨[(0, 0, [false, false, true, true, true, true, false, false, true, true, false, false, true, false, true]), (2, 0, [false, false, true, true, true, true, false, false, true, true, false, false, true, false, true]), (1, 2, []), (1, 1, []), (0, 0, [true, true, true, false, false, true, false, true]), (2, 0, [false, false, true, false, true]), (1, 0, []), (0, 0, [true, true])], ⟨9, 2, [(1, ⟨[], .one (.leaf (.at (.v 0) 3))⟩), (2, ⟨[], .one (.leaf (.ptr (.p 0 0)))⟩), (6, ⟨[], .one (.leaf (.ptr (.p 1 0)))⟩), (11, ⟨[], .one (.leaf (.at (.v 1) 24))⟩), (12, ⟨[], .one (.leaf (.at (.v 2) 3))⟩), (13, ⟨[], .one (.leaf (.at (.v 3) 3))⟩), (56, ⟨[], .one (.leaf (.at (.v 4) 30))⟩), (57, ⟨[], .one (.leaf (.at (.v 5) 3))⟩), (58, ⟨[], .one (.leaf (.at (.v 6) 3))⟩)], [(0, .box 26 (.leaf (.at (.v 7) 26))), (1, .box 64 (.leaf (.at (.v 8) 64)))]⟩⟩]
def b57 : List Blk := [
 ⟨[(0, 0, [false, false, true, false, true, true, true, true]), (2, 0, [false, false, true, false, true, true, true, true]), (1, 0, []), (0, 0, [true, true, true, true, true])], ⟨10, 4, [(2, ⟨[], .one (.leaf (.ptr (.p 0 0)))⟩), (3, ⟨[], .one (.leaf (.ref 1 31))⟩), (4, ⟨[], .one (.leaf (.ptr (.p 2 0)))⟩), (12, ⟨[], .one (.leaf (.ref 1 31))⟩), (13, ⟨[], .one (.leaf (.at (.v 0) 3))⟩), (14, ⟨[], .one (.leaf (.at (.v 1) 3))⟩)], [(0, .box 33 (.agg 33 [.at (.v 2) 3, .at (.v 3) 3, .at (.v 4) 9, .nil 30, .nil 31])), (1, .arr 70 31 (.v 5)), (2, .box 33 (.agg 33 [.at (.v 6) 3, .at (.v 7) 3, .at (.v 8) 9, .nil 30, .ref 3 31])), (3, .arr 70 31 (.v 9))]⟩⟩,
 ⟨[(1, 1, []), (0, 0, [true, true, true, false, false, true, false, true, true, true, true]), (2, 0, [false, false, true, false, true, true, true, true]), (1, 0, []), (0, 0, [true, true, true, true, true])], ⟨10, 4, [(2, ⟨[], .one (.leaf (.ptr (.p 0 0)))⟩), (3, ⟨[], .one (.leaf (.ref 1 31))⟩), (4, ⟨[], .one (.leaf (.ptr (.p 2 0)))⟩), (12, ⟨[], .one (.leaf (.ref 1 31))⟩), (13, ⟨[], .one (.leaf (.at (.v 0) 3))⟩), (14, ⟨[], .one (.leaf (.at (.v 1) 3))⟩)], [(0, .box 33 (.agg 33 [.at (.v 2) 3, .at (.v 3) 3, .at (.v 4) 9, .nil 30, .nil 31])), (1, .arr 70 31 (.v 5)), (2, .box 33 (.agg 33 [.at (.v 6) 3, .at (.v 7) 3, .at (.v 8) 9, .nil 30, .ref 3 31])), (3, .arr 70 31 (.v 9))]⟩⟩]
def b60 : List Blk := [
 ⟨[(0, 0, [false, false, false, true, true]), (2, 0, [false, false, false, true, true]), (1, 0, []), (0, 0, [true, true, true])], ⟨5, 1, [(0, ⟨[], .one (.leaf (.ref 0 31))⟩), (1, ⟨[], .one (.leaf (.at (.v 0) 3))⟩), (2, ⟨[], .one (.leaf (.fn 137 []))⟩), (6, ⟨[], .one (.leaf (.at (.v 1) 3))⟩), (7, ⟨[], .one (.leaf (.at (.v 2) 3))⟩), (8, ⟨[], .one (.leaf (.at (.v 3) 3))⟩)], [(0, .arr 70 31 (.v 4))]⟩⟩,
 ⟨[(0, 0, [false, false, true, true, true, true]), (2, 0, [false, false, true, true, true, true]), (1, 2, [])], ⟨3, 1, [(0, ⟨[], .one (.leaf (.ref 0 31))⟩), (1, ⟨[], .one (.leaf (.at (.v 0) 3))⟩), (2, ⟨[], .one (.leaf (.fn 137 []))⟩), (6, ⟨[], .one (.leaf (.at (.v 1) 3))⟩)], [(0, .arr 70 31 (.v 2))]⟩⟩,
 ⟨[(0, 0, [false, false, false, true, false, true, false, false, true, true, true, true]), (2, 0, [false, false, false, true, false, true, false, false, true, true, true, true]), (1, 4, []), (0, 0, [true, true, false, true, false, false, true, true, true, true]), (1, 3, []), (2, 0, [false, false, true, true, true, true]), (1, 2, [])], ⟨5, 1, [(0, ⟨[], .one (.leaf (.ref 0 31))⟩), (1, ⟨[], .one (.leaf (.at (.v 0) 3))⟩), (2, ⟨[], .one (.leaf (.fn 137 []))⟩), (6, ⟨[], .one (.leaf (.at (.v 1) 3))⟩), (7, ⟨[], .one (.leaf (.at (.v 2) 3))⟩), (8, ⟨[], .one (.leaf (.at (.v 3) 3))⟩)], [(0, .arr 70 31 (.v 4))]⟩⟩,
 ⟨[(0, 0, [true, true, true, false, true, false, false, true, true, true, true]), (1, 3, []), (2, 0, [false, false, true, true, true, true]), (1, 2, [])], ⟨3, 1, [(0, ⟨[], .one (.leaf (.ref 0 31))⟩), (1, ⟨[], .one (.leaf (.at (.v 0) 3))⟩), (2, ⟨[], .one (.leaf (.fn 137 []))⟩), (6, ⟨[], .one (.leaf (.at (.v 1) 3))⟩)], [(0, .arr 70 31 (.v 2))]⟩⟩]
def b61 : List Blk := [
 ⟨[(0, 0, [false, false, true]), (2, 0, [false, false, true]), (1, 0, [])], ⟨4, 1, [(0, ⟨[], .one (.leaf (.ref 0 31))⟩), (1, ⟨[], .one (.leaf (.at (.v 0) 3))⟩), (2, ⟨[], .one (.leaf (.at (.v 1) 3))⟩), (3, ⟨[], .one (.leaf (.fn 137 []))⟩), (8, ⟨[], .one (.leaf (.at (.v 2) 3))⟩)], [(0, .arr 70 31 (.v 3))]⟩⟩,
 ⟨[(0, 0, [false, false, true, false, false, true, false, false, true]), (2, 0, [false, false, true, false, false, true, false, false, true]), (1, 2, []), (1, 1, []), (0, 0, [true, true, false, false, true]), (2, 0, [false, false, true]), (1, 0, [])], ⟨5, 1, [(0, ⟨[], .one (.leaf (.ref 0 31))⟩), (1, ⟨[], .one (.leaf (.at (.v 0) 3))⟩), (2, ⟨[], .one (.leaf (.at (.v 1) 3))⟩), (3, ⟨[], .one (.leaf (.fn 137 []))⟩), (8, ⟨[], .one (.leaf (.at (.v 2) 3))⟩), (9, ⟨[], .one (.leaf (.at (.v 3) 3))⟩)], [(0, .arr 70 31 (.v 4))]⟩⟩]
def b66 : List Blk := [
 ⟨[(0, 0, [false, false, false, true, true, false, true, false]), (2, 0, [false, false, false, true, true, false, true, false]), (1, 0, []), (0, 0, [true, true, true, false, true, false]), (0, 0, [true])], ⟨4, 1, [(0, ⟨[], .one (.leaf (.ref 0 31))⟩), (1, ⟨[], .one (.leaf (.at (.v 0) 3))⟩), (4, ⟨[], .one (.leaf (.fn 137 []))⟩), (10, ⟨[], .one (.leaf (.at (.v 1) 3))⟩), (11, ⟨[], .one (.leaf (.at (.v 2) 3))⟩)], [(0, .arr 70 31 (.v 3))]⟩⟩,
 ⟨[(0, 0, [false, false, false, true, true, false, true, false, true]), (2, 0, [false, false, false, true, true, false, true, false, true]), (1, 4, []), (0, 0, [true, true, true, false, true, false, true]), (0, 0, [true, true])], ⟨4, 1, [(0, ⟨[], .one (.leaf (.ref 0 31))⟩), (2, ⟨[], .one (.leaf (.at (.v 0) 3))⟩), (4, ⟨[], .one (.leaf (.fn 137 []))⟩), (14, ⟨[], .one (.leaf (.at (.v 1) 3))⟩), (15, ⟨[], .one (.leaf (.at (.v 2) 3))⟩)], [(0, .arr 70 31 (.v 3))]⟩⟩,
 ⟨[(0, 0, [true, true, true, true, true, true])], ⟨8, 1, [(0, ⟨[], .one (.leaf (.ref 0 31))⟩), (1, ⟨[], .one (.leaf (.at (.v 0) 3))⟩), (2, ⟨[], .one (.leaf (.at (.v 1) 3))⟩), (3, ⟨[], .one (.leaf (.at (.v 2) 3))⟩), (4, ⟨[], .one (.leaf (.fn 137 []))⟩), (18, ⟨[], .one (.leaf (.at (.v 3) 3))⟩), (19, ⟨[], .one (.leaf (.at (.v 4) 3))⟩), (20, ⟨[], .one (.leaf (.at (.v 5) 3))⟩), (21, ⟨[], .one (.leaf (.at (.v 6) 3))⟩)], [(0, .arr 70 31 (.v 7))]⟩⟩,
 ⟨[(1, 1, []), (2, 0, [false, false, false, true, true, false, true, false]), (1, 0, []), (0, 0, [true, true, true, false, true, false]), (0, 0, [true])], ⟨4, 1, [(0, ⟨[], .one (.leaf (.ref 0 31))⟩), (1, ⟨[], .one (.leaf (.at (.v 0) 3))⟩), (4, ⟨[], .one (.leaf (.fn 137 []))⟩), (10, ⟨[], .one (.leaf (.at (.v 1) 3))⟩), (11, ⟨[], .one (.leaf (.at (.v 2) 3))⟩)], [(0, .arr 70 31 (.v 3))]⟩⟩,
 ⟨[(0, 0, [false, false, true, false, true, true, true, false, true, false]), (2, 0, [false, false, true, false, true, true, true, false, true, false]), (1, 2, []), (0, 0, [true, true, true, true, false, true, false]), (0, 0, [true])], ⟨3, 1, [(0, ⟨[], .one (.leaf (.ref 0 31))⟩), (10, ⟨[], .one (.leaf (.at (.v 0) 3))⟩), (13, ⟨[], .one (.leaf (.at (.v 1) 3))⟩)], [(0, .arr 70 31 (.v 2))]⟩⟩,
 ⟨[(1, 5, []), (2, 0, [false, false, false, true, true, false, true, false, true]), (1, 4, []), (0, 0, [true, true, true, false, true, false, true]), (0, 0, [true, true])], ⟨4, 1, [(0, ⟨[], .one (.leaf (.ref 0 31))⟩), (2, ⟨[], .one (.leaf (.at (.v 0) 3))⟩), (4, ⟨[], .one (.leaf (.fn 137 []))⟩), (14, ⟨[], .one (.leaf (.at (.v 1) 3))⟩), (15, ⟨[], .one (.leaf (.at (.v 2) 3))⟩)], [(0, .arr 70 31 (.v 3))]⟩⟩,
 ⟨[(0, 0, [false, false, true, false, true, true, true, false, true, false, true]), (2, 0, [false, false, true, false, true, true, true, false, true, false, true]), (1, 6, []), (0, 0, [true, true, true, true, false, true, false, true]), (0, 0, [true, true])], ⟨3, 1, [(0, ⟨[], .one (.leaf (.ref 0 31))⟩), (14, ⟨[], .one (.leaf (.at (.v 0) 3))⟩), (17, ⟨[], .one (.leaf (.at (.v 1) 3))⟩)], [(0, .arr 70 31 (.v 2))]⟩⟩,
 ⟨[(0, 0, [false, false, false, true, true, true, true, true, true, true]), (2, 0, [false, false, false, true, true, true, true, true, true, true]), (1, 8, []), (0, 0, [true, true, true, true, true, true, true, true])], ⟨9, 1, [(0, ⟨[], .one (.leaf (.ref 0 31))⟩), (1, ⟨[], .one (.leaf (.at (.v 0) 3))⟩), (2, ⟨[], .one (.leaf (.at (.v 1) 3))⟩), (3, ⟨[], .one (.leaf (.at (.v 2) 3))⟩), (4, ⟨[], .one (.leaf (.fn 137 []))⟩), (18, ⟨[], .one (.leaf (.at (.v 3) 3))⟩), (19, ⟨[], .one (.leaf (.at (.v 4) 3))⟩), (20, ⟨[], .one (.leaf (.at (.v 5) 3))⟩), (21, ⟨[], .one (.leaf (.at (.v 6) 3))⟩), (22, ⟨[], .one (.leaf (.at (.v 7) 3))⟩)], [(0, .arr 70 31 (.v 8))]⟩⟩,
 ⟨[(1, 9, []), (2, 0, [false, false, false, true, true, true, true, true, true, true]), (1, 8, []), (0, 0, [true, true, true, true, true, true, true, true])], ⟨9, 1, [(0, ⟨[], .one (.leaf (.ref 0 31))⟩), (1, ⟨[], .one (.leaf (.at (.v 0) 3))⟩), (2, ⟨[], .one (.leaf (.at (.v 1) 3))⟩), (3, ⟨[], .one (.leaf (.at (.v 2) 3))⟩), (4, ⟨[], .one (.leaf (.fn 137 []))⟩), (18, ⟨[], .one (.leaf (.at (.v 3) 3))⟩), (19, ⟨[], .one (.leaf (.at (.v 4) 3))⟩), (20, ⟨[], .one (.leaf (.at (.v 5) 3))⟩), (21, ⟨[], .one (.leaf (.at (.v 6) 3))⟩), (22, ⟨[], .one (.leaf (.at (.v 7) 3))⟩)], [(0, .arr 70 31 (.v 8))]⟩⟩,
 ⟨[(0, 0, [true, true, true, true, true, true, true, true, true, true])], ⟨6, 1, [(0, ⟨[], .one (.leaf (.ref 0 31))⟩), (1, ⟨[], .one (.leaf (.at (.v 0) 3))⟩), (3, ⟨[], .one (.leaf (.at (.v 1) 3))⟩), (4, ⟨[], .one (.leaf (.fn 137 []))⟩), (18, ⟨[], .one (.leaf (.at (.v 2) 3))⟩), (20, ⟨[], .one (.leaf (.at (.v 3) 3))⟩), (24, ⟨[], .one (.leaf (.at (.v 4) 3))⟩)], [(0, .arr 70 31 (.v 5))]⟩⟩,
 ⟨[(0, 0, [true, true, true, true, true, true, true, true, true, true, true])], ⟨4, 1, [(0, ⟨[], .one (.leaf (.ref 0 31))⟩), (3, ⟨[], .one (.leaf (.at (.v 0) 3))⟩), (4, ⟨[], .one (.leaf (.fn 137 []))⟩), (18, ⟨[], .one (.leaf (.at (.v 1) 3))⟩), (24, ⟨[], .one (.leaf (.at (.v 2) 3))⟩)], [(0, .arr 70 31 (.v 3))]⟩⟩]
def b67 : List Blk := [
 ⟨[(0, 0, [false, false, false, true, true]), (2, 0, [false, false, false, true, true]), (1, 0, []), (0, 0, [true, true, true])], ⟨4, 1, [(0, ⟨[], .one (.leaf (.ref 0 31))⟩), (2, ⟨[], .one (.leaf (.at (.v 0) 3))⟩), (4, ⟨[], .one (.leaf (.fn 137 []))⟩), (10, ⟨[], .one (.leaf (.at (.v 1) 3))⟩), (11, ⟨[], .one (.leaf (.at (.v 2) 3))⟩)], [(0, .arr 70 31 (.v 3))]⟩⟩,
 ⟨[(1, 1, []), (2, 0, [false, false, false, true, true]), (1, 0, []), (0, 0, [true, true, true])], ⟨4, 1, [(0, ⟨[], .one (.leaf (.ref 0 31))⟩), (2, ⟨[], .one (.leaf (.at (.v 0) 3))⟩), (4, ⟨[], .one (.leaf (.fn 137 []))⟩), (10, ⟨[], .one (.leaf (.at (.v 1) 3))⟩), (11, ⟨[], .one (.leaf (.at (.v 2) 3))⟩)], [(0, .arr 70 31 (.v 3))]⟩⟩]
def b68 : List Blk := [
 ⟨[(0, 0, [false, false, true]), (2, 0, [false, false, true]), (1, 0, [])], ⟨5, 1, [(0, ⟨[], .one (.leaf (.ref 0 31))⟩), (1, ⟨[], .one (.leaf (.at (.v 0) 3))⟩), (2, ⟨[], .one (.leaf (.at (.v 1) 3))⟩), (3, ⟨[], .one (.leaf (.at (.v 2) 3))⟩), (10, ⟨[], .one (.leaf (.at (.v 3) 3))⟩)], [(0, .arr 70 31 (.v 4))]⟩⟩]
def b69 : List Blk := [
 ⟨[(0, 0, [false, false, true, false, true, true]), (2, 0, [false, false, true, false, true, true]), (1, 0, []), (0, 0, [true, true, true])], ⟨10, 3, [(1, ⟨[], .one (.leaf (.ptr (.p 0 0)))⟩), (2, ⟨[], .one (.leaf (.ptr (.p 1 0)))⟩), (12, ⟨[], .one (.leaf (.ref 2 30))⟩), (13, ⟨[], .one (.leaf (.at (.v 0) 3))⟩), (14, ⟨[], .one (.leaf (.at (.v 1) 3))⟩)], [(0, .box 33 (.agg 33 [.at (.v 2) 3, .at (.v 3) 3, .at (.v 4) 9, .ref 2 30, .at (.v 5) 31])), (1, .box 33 (.agg 33 [.at (.v 6) 3, .at (.v 7) 3, .at (.v 8) 9, .nil 30, .nil 31])), (2, .arr 33 30 (.v 9))]⟩⟩,
 ⟨[(0, 0, [false, false, true, false, true, true, true, true]), (2, 0, [false, false, true, false, true, true, true, true]), (1, 2, []), (0, 0, [true, true, true, true, true])], ⟨10, 4, [(1, ⟨[], .one (.leaf (.ptr (.p 0 0)))⟩), (2, ⟨[], .one (.leaf (.ptr (.p 1 0)))⟩), (31, ⟨[], .one (.leaf (.ref 2 31))⟩), (32, ⟨[], .one (.leaf (.at (.v 0) 3))⟩), (33, ⟨[], .one (.leaf (.at (.v 1) 3))⟩)], [(0, .box 33 (.agg 33 [.at (.v 2) 3, .at (.v 3) 3, .at (.v 4) 9, .ref 3 30, .ref 2 31])), (1, .box 33 (.agg 33 [.at (.v 5) 3, .at (.v 6) 3, .at (.v 7) 9, .nil 30, .nil 31])), (2, .arr 70 31 (.v 8)), (3, .arr 33 30 (.v 9))]⟩⟩]
def b72 : List Blk := [
 ⟨[(0, 0, [false, false, true, false, true, true, true, true, true, true, true, true, true, false, true]), (2, 0, [false, false, true, false, true, true, true, true, true, true, true, true, true, false, true]), (1, 1, []), (1, 0, [])], ⟨6, 4, [(0, ⟨[], .one (.leaf (.ptr (.p 1 0)))⟩), (3, ⟨[], .one (.leaf (.at (.v 0) 39))⟩), (5, ⟨[], .one (.leaf (.ptr (.p 2 0)))⟩), (87, ⟨[], .one (.leaf (.at (.v 1) 31))⟩), (88, ⟨[], .one (.leaf (.at (.v 2) 3))⟩), (89, ⟨[], .one (.leaf (.at (.v 3) 3))⟩)], [(1, .box 89 (.agg 89 [.ref 3 36])), (2, .box 26 (.leaf (.at (.v 4) 26))), (3, .arr 54 36 (.v 5))]⟩⟩,
 ⟨[(1, 2, []), (0, 0, [true, true, true, false, false, true, false, true, true, true, true, true, true, true, true, true, false, true]), (2, 0, [false, false, true, false, true, true, true, true, true, true, true, true, true, false, true]), (1, 1, []), (1, 0, [])], ⟨6, 4, [(0, ⟨[], .one (.leaf (.ptr (.p 1 0)))⟩), (3, ⟨[], .one (.leaf (.at (.v 0) 39))⟩), (5, ⟨[], .one (.leaf (.ptr (.p 2 0)))⟩), (87, ⟨[], .one (.leaf (.at (.v 1) 31))⟩), (88, ⟨[], .one (.leaf (.at (.v 2) 3))⟩), (89, ⟨[], .one (.leaf (.at (.v 3) 3))⟩)], [(1, .box 89 (.agg 89 [.ref 3 36])), (2, .box 26 (.leaf (.at (.v 4) 26))), (3, .arr 54 36 (.v 5))]⟩⟩]
def b74 : List Blk := [
 ⟨[(0, 0, [false, false, true, false, true, true, true]), (2, 0, [false, false, true, false, true, true, true]), (1, 0, []), (0, 0, [true, true, true, true])], ⟨4, 2, [(4, ⟨[], .one (.leaf (.ptr (.p 0 0)))⟩), (10, ⟨[], .one (.leaf (.at (.v 0) 39))⟩), (11, ⟨[], .one (.leaf (.at (.v 1) 3))⟩), (12, ⟨[], .one (.leaf (.at (.v 2) 3))⟩)], [(0, .box 176 (.agg 176 [.hid 0, .ref 1 174])), (1, .arr 5 174 (.v 3))]⟩⟩,
 ⟨[(0, 0, [true, false, true, false, true, true, false, false, true, true, false, false, true, false, true, true, true]), (1, 2, []), (1, 1, []), (0, 0, [true, true, true, false, false, true, false, true, true, true]), (2, 0, [false, false, true, false, true, true, true]), (1, 0, []), (0, 0, [true, true, true, true])], ⟨5, 3, [(4, ⟨[], .one (.leaf (.ptr (.p 0 0)))⟩), (6, ⟨[], .one (.leaf (.ptr (.p 1 0)))⟩), (10, ⟨[], .one (.leaf (.at (.v 0) 39))⟩), (11, ⟨[], .one (.leaf (.at (.v 1) 3))⟩), (12, ⟨[], .one (.leaf (.at (.v 2) 3))⟩)], [(0, .box 176 (.agg 176 [.hid 0, .ref 2 174])), (1, .box 74 (.leaf (.at (.v 3) 74))), (2, .arr 5 174 (.v 4))]⟩⟩,
 ⟨[(1, 2, []), (1, 1, []), (0, 0, [true, true, true, false, false, true, false, true, true, true]), (2, 0, [false, false, true, false, true, true, true]), (1, 0, []), (0, 0, [true, true, true, true])], ⟨4, 2, [(4, ⟨[], .one (.leaf (.ptr (.p 0 0)))⟩), (10, ⟨[], .one (.leaf (.at (.v 0) 39))⟩), (11, ⟨[], .one (.leaf (.at (.v 1) 3))⟩), (12, ⟨[], .one (.leaf (.at (.v 2) 3))⟩)], [(0, .box 176 (.agg 176 [.hid 0, .ref 1 174])), (1, .arr 5 174 (.v 3))]⟩⟩]
def b77 : List Blk := [
 ⟨[(0, 0, [false, false, true, false, true]), (2, 0, [false, false, true, false, true]), (1, 0, []), (0, 0, [true, true])], ⟨3, 0, [(0, ⟨[], .one (.leaf (.at (.v 0) 39))⟩), (1, ⟨[], .one (.leaf (.fn 122 []))⟩), (7, ⟨[], .one (.leaf (.at (.v 1) 3))⟩), (8, ⟨[], .one (.leaf (.at (.v 2) 3))⟩)], []⟩⟩]
def b80 : List Blk := [
 ⟨[(0, 0, [false, false, true, false, true]), (2, 0, [false, false, true, false, true]), (1, 0, []), (0, 0, [true, true])], ⟨3, 1, [(0, ⟨[], .one (.leaf (.at (.v 0) 9))⟩), (6, ⟨[], .one (.leaf (.ptr (.p 0 0)))⟩)], [(0, .iter (.v 1) (.v 2))]⟩⟩]
def b86 : List Blk := [
 ⟨[(0, 0, [false, false, true, false, true, true, true]), (2, 0, [false, false, true, false, true, true, true]), (1, 0, []), (0, 0, [true, true, true, true])], ⟨3, 3, [(3, ⟨[], .one (.leaf (.ptr (.p 0 0)))⟩), (8, ⟨[], .one (.leaf (.ptr (.p 1 0)))⟩)], [(0, .box 176 (.agg 176 [.hid 0, .ref 2 174])), (1, .iter (.v 0) (.v 1)), (2, .arr 5 174 (.v 2))]⟩⟩,
 ⟨[(0, 0, [true, false, true, true, false, true, true, false, false, true, false, true, true, true]), (1, 2, []), (1, 1, []), (2, 0, [false, false, true, false, true, true, true]), (1, 0, []), (0, 0, [true, true, true, true])], ⟨6, 3, [(3, ⟨[], .one (.leaf (.ptr (.p 0 0)))⟩), (5, ⟨[], .one (.leaf (.at (.v 0) 21))⟩), (8, ⟨[], .one (.leaf (.ptr (.p 1 0)))⟩), (12, ⟨[], .one (.leaf (.at (.v 1) 21))⟩), (15, ⟨[], .one (.leaf (.at (.v 2) 4))⟩)], [(0, .box 176 (.agg 176 [.hid 0, .ref 2 174])), (1, .iter (.v 3) (.v 4)), (2, .arr 5 174 (.v 5))]⟩⟩,
 ⟨[(1, 2, []), (1, 1, []), (2, 0, [false, false, true, false, true, true, true]), (1, 0, []), (0, 0, [true, true, true, true])], ⟨3, 3, [(3, ⟨[], .one (.leaf (.ptr (.p 0 0)))⟩), (8, ⟨[], .one (.leaf (.ptr (.p 1 0)))⟩)], [(0, .box 176 (.agg 176 [.hid 0, .ref 2 174])), (1, .iter (.v 0) (.v 1)), (2, .arr 5 174 (.v 2))]⟩⟩]
def b92 : List Blk := [
 ⟨[(0, 0, [false, false, true, false, true]), (2, 0, [false, false, true, false, true]), (1, 0, []), (0, 0, [true, true])], ⟨4, 0, [(0, ⟨[], .one (.leaf (.at (.v 0) 22))⟩), (1, ⟨[], .one (.leaf (.at (.v 1) 9))⟩), (7, ⟨[], .one (.leaf (.at (.v 2) 3))⟩), (8, ⟨[], .one (.leaf (.at (.v 3) 3))⟩)], []⟩⟩]
def b93 : List Blk := [
 ⟨[(0, 0, [true, true])], ⟨4, 5, [(0, ⟨[], .one (.leaf (.ptr (.p 1 0)))⟩), (3, ⟨[], .one (.leaf (.at (.v 0) 39))⟩), (5, ⟨[], .one (.leaf (.ptr (.p 2 0)))⟩), (6, ⟨[], .one (.leaf (.ptr (.p 3 0)))⟩)], [(1, .box 89 (.agg 89 [.ref 4 36])), (2, .box 26 (.leaf (.at (.v 1) 26))), (3, .box 33 (.leaf (.at (.v 2) 33))), (4, .arr 54 36 (.v 3))]⟩⟩,
 ⟨[(0, 0, [false, false, true, true, true, true]), (2, 0, [false, false, true, true, true, true]), (1, 0, [])], ⟨7, 5, [(0, ⟨[], .one (.leaf (.ptr (.p 1 0)))⟩), (3, ⟨[], .one (.leaf (.at (.v 0) 39))⟩), (5, ⟨[], .one (.leaf (.ptr (.p 2 0)))⟩), (8, ⟨[], .one (.leaf (.mref 3 132))⟩), (33, ⟨[], .one (.leaf (.at (.v 1) 30))⟩), (34, ⟨[], .one (.leaf (.at (.v 2) 3))⟩), (35, ⟨[], .one (.leaf (.at (.v 3) 3))⟩)], [(1, .box 89 (.agg 89 [.ref 4 36])), (2, .box 26 (.leaf (.at (.v 4) 26))), (3, .mp 132 9 4 (.v 5)), (4, .arr 54 36 (.v 6))]⟩⟩,
 ⟨[(0, 0, [true, false, true, true, true, true, true, false, false, true, true, false, false, true, true, true, true]), (1, 1, []), (0, 0, [true, true, true, false, false, true, true, true, true]), (2, 0, [false, false, true, true, true, true]), (1, 0, [])], ⟨8, 5, [(0, ⟨[], .one (.leaf (.ptr (.p 1 0)))⟩), (3, ⟨[], .one (.leaf (.at (.v 0) 39))⟩), (5, ⟨[], .one (.leaf (.ptr (.p 2 0)))⟩), (8, ⟨[], .one (.leaf (.mref 3 132))⟩), (12, ⟨[], .one (.leaf (.at (.v 1) 9))⟩), (33, ⟨[], .one (.leaf (.at (.v 2) 30))⟩), (34, ⟨[], .one (.leaf (.at (.v 3) 3))⟩), (35, ⟨[], .one (.leaf (.at (.v 4) 3))⟩)], [(1, .box 89 (.agg 89 [.ref 4 36])), (2, .box 26 (.leaf (.at (.v 5) 26))), (3, .mp 132 9 4 (.v 6)), (4, .arr 54 36 (.v 7))]⟩⟩,
 ⟨[(1, 1, []), (0, 0, [true, true, true, false, false, true, true, true, true]), (2, 0, [false, false, true, true, true, true]), (1, 0, [])], ⟨7, 5, [(0, ⟨[], .one (.leaf (.ptr (.p 1 0)))⟩), (3, ⟨[], .one (.leaf (.at (.v 0) 39))⟩), (5, ⟨[], .one (.leaf (.ptr (.p 2 0)))⟩), (8, ⟨[], .one (.leaf (.mref 3 132))⟩), (33, ⟨[], .one (.leaf (.at (.v 1) 30))⟩), (34, ⟨[], .one (.leaf (.at (.v 2) 3))⟩), (35, ⟨[], .one (.leaf (.at (.v 3) 3))⟩)], [(1, .box 89 (.agg 89 [.ref 4 36])), (2, .box 26 (.leaf (.at (.v 4) 26))), (3, .mp 132 9 4 (.v 5)), (4, .arr 54 36 (.v 6))]⟩⟩]
def b96 : List Blk := [
 ⟨[(0, 0, [false, false, true, false, true, false, true]), (2, 0, [false, false, true, false, true, false, true]), (1, 0, []), (0, 0, [true, true])], ⟨7, 1, [(1, ⟨[], .one (.leaf (.at (.v 0) 9))⟩), (4, ⟨[], .one (.leaf (.ptr (.p 0 0)))⟩), (12, ⟨[], .one (.leaf (.at (.v 1) 31))⟩), (13, ⟨[], .one (.leaf (.at (.v 2) 3))⟩), (14, ⟨[], .one (.leaf (.at (.v 3) 3))⟩)], [(0, .box 33 (.agg 33 [.at (.v 4) 3, .at (.v 5) 3, .at (.v 6) 9, .nil 30, .nil 31]))]⟩⟩]
def b101 : List Blk := [
 ⟨[(0, 0, [false, false, true, false, true]), (2, 0, [false, false, true, false, true]), (1, 0, []), (0, 0, [true, true])], ⟨7, 5, [(0, ⟨[], .one (.leaf (.ptr (.p 1 0)))⟩), (3, ⟨[], .one (.leaf (.at (.v 0) 39))⟩), (5, ⟨[], .one (.leaf (.ptr (.p 2 0)))⟩), (6, ⟨[], .one (.leaf (.ptr (.p 3 0)))⟩), (18, ⟨[], .one (.leaf (.at (.v 1) 31))⟩), (19, ⟨[], .one (.leaf (.at (.v 2) 3))⟩), (20, ⟨[], .one (.leaf (.at (.v 3) 3))⟩)], [(1, .box 89 (.agg 89 [.ref 4 36])), (2, .box 26 (.leaf (.at (.v 4) 26))), (3, .box 33 (.leaf (.at (.v 5) 33))), (4, .arr 54 36 (.v 6))]⟩⟩,
 ⟨[(1, 1, []), (0, 0, [true, true, true, false, false, true, false, true]), (2, 0, [false, false, true, false, true]), (1, 0, []), (0, 0, [true, true])], ⟨7, 5, [(0, ⟨[], .one (.leaf (.ptr (.p 1 0)))⟩), (3, ⟨[], .one (.leaf (.at (.v 0) 39))⟩), (5, ⟨[], .one (.leaf (.ptr (.p 2 0)))⟩), (6, ⟨[], .one (.leaf (.ptr (.p 3 0)))⟩), (18, ⟨[], .one (.leaf (.at (.v 1) 31))⟩), (19, ⟨[], .one (.leaf (.at (.v 2) 3))⟩), (20, ⟨[], .one (.leaf (.at (.v 3) 3))⟩)], [(1, .box 89 (.agg 89 [.ref 4 36])), (2, .box 26 (.leaf (.at (.v 4) 26))), (3, .box 33 (.leaf (.at (.v 5) 33))), (4, .arr 54 36 (.v 6))]⟩⟩,
 ⟨[(0, 0, [false, false, true, true, true]), (2, 0, [false, false, true, true, true]), (1, 2, [])], ⟨6, 4, [(0, ⟨[], .one (.leaf (.ptr (.p 1 0)))⟩), (3, ⟨[], .one (.leaf (.at (.v 0) 39))⟩), (6, ⟨[], .one (.leaf (.ptr (.p 2 0)))⟩), (54, ⟨[], .one (.leaf (.at (.v 1) 24))⟩), (55, ⟨[], .one (.leaf (.at (.v 2) 3))⟩), (56, ⟨[], .one (.leaf (.at (.v 3) 3))⟩)], [(1, .box 89 (.agg 89 [.ref 3 36])), (2, .box 33 (.leaf (.at (.v 4) 33))), (3, .arr 54 36 (.v 5))]⟩⟩,
 ⟨[(1, 3, []), (0, 0, [true, true, true, false, false, true, true, true]), (2, 0, [false, false, true, true, true]), (1, 2, [])], ⟨6, 4, [(0, ⟨[], .one (.leaf (.ptr (.p 1 0)))⟩), (3, ⟨[], .one (.leaf (.at (.v 0) 39))⟩), (6, ⟨[], .one (.leaf (.ptr (.p 2 0)))⟩), (54, ⟨[], .one (.leaf (.at (.v 1) 24))⟩), (55, ⟨[], .one (.leaf (.at (.v 2) 3))⟩), (56, ⟨[], .one (.leaf (.at (.v 3) 3))⟩)], [(1, .box 89 (.agg 89 [.ref 3 36])), (2, .box 33 (.leaf (.at (.v 4) 33))), (3, .arr 54 36 (.v 5))]⟩⟩]
def b105 : List Blk := [
 ⟨[(0, 0, [false, false, true, false, true, true]), (2, 0, [false, false, true, false, true, true]), (1, 0, []), (0, 0, [true, true, true])], ⟨9, 3, [(0, ⟨[], .one (.leaf (.at (.v 0) 31))⟩), (2, ⟨[], .one (.leaf (.ptr (.p 0 0)))⟩), (3, ⟨[], .one (.leaf (.ptr (.p 1 0)))⟩), (4, ⟨[], .one (.leaf (.at (.v 1) 3))⟩)], [(0, .box 33 (.agg 33 [.at (.v 2) 3, .at (.v 3) 3, .at (.v 4) 9, .nil 30, .nil 31])), (1, .box 33 (.agg 33 [.at (.v 5) 3, .at (.v 6) 3, .at (.v 7) 9, .nil 30, .ref 2 31])), (2, .arr 70 31 (.v 8))]⟩⟩]
def b106 : List Blk := [
 ⟨[(0, 0, [false, false, true, false, true, true, true]), (2, 0, [false, false, true, false, true, true, true]), (1, 0, []), (0, 0, [true, true, true, true])], ⟨5, 2, [(0, ⟨[], .one (.leaf (.at (.v 0) 31))⟩), (3, ⟨[], .one (.leaf (.ptr (.p 0 0)))⟩), (5, ⟨[], .one (.leaf (.ref 1 31))⟩), (6, ⟨[], .one (.leaf (.at (.v 1) 4))⟩), (7, ⟨[], .one (.leaf (.at (.v 2) 3))⟩)], [(0, .box 70 (.leaf (.at (.v 3) 70))), (1, .arr 70 31 (.v 4))]⟩⟩,
 ⟨[(0, 0, [true, false, false, true, false, false, true, false, true, true, true]), (1, 1, []), (0, 0, [true, true, false, false, true, false, true, true, true]), (2, 0, [false, false, true, false, true, true, true]), (1, 0, []), (0, 0, [true, true, true, true])], ⟨5, 2, [(0, ⟨[], .one (.leaf (.at (.v 0) 31))⟩), (3, ⟨[], .one (.leaf (.ptr (.p 0 0)))⟩), (5, ⟨[], .one (.leaf (.ref 1 31))⟩), (6, ⟨[], .one (.leaf (.at (.v 1) 4))⟩), (7, ⟨[], .one (.leaf (.at (.v 2) 3))⟩)], [(0, .box 70 (.leaf (.at (.v 3) 70))), (1, .arr 70 31 (.v 4))]⟩⟩,
 ⟨[(1, 1, []), (0, 0, [true, true, false, false, true, false, true, true, true]), (2, 0, [false, false, true, false, true, true, true]), (1, 0, []), (0, 0, [true, true, true, true])], ⟨5, 2, [(0, ⟨[], .one (.leaf (.at (.v 0) 31))⟩), (3, ⟨[], .one (.leaf (.ptr (.p 0 0)))⟩), (5, ⟨[], .one (.leaf (.ref 1 31))⟩), (6, ⟨[], .one (.leaf (.at (.v 1) 4))⟩), (7, ⟨[], .one (.leaf (.at (.v 2) 3))⟩)], [(0, .box 70 (.leaf (.at (.v 3) 70))), (1, .arr 70 31 (.v 4))]⟩⟩]
def b110 : List Blk := [
 ⟨[(0, 0, [false, false, true, false, true, false, true, true]), (2, 0, [false, false, true, false, true, false, true, true]), (1, 1, []), (0, 0, [true, true, true])], ⟨8, 3, [(2, ⟨[], .one (.leaf (.ptr (.p 0 0)))⟩), (3, ⟨[], .one (.leaf (.ptr (.p 1 0)))⟩), (4, ⟨[], .one (.leaf (.ptr (.p 2 0)))⟩), (44, ⟨[], .one (.leaf (.at (.v 0) 24))⟩), (45, ⟨[], .one (.leaf (.at (.v 1) 3))⟩), (46, ⟨[], .one (.leaf (.at (.v 2) 3))⟩)], [(0, .box 26 (.leaf (.at (.v 3) 26))), (1, .box 33 (.leaf (.at (.v 4) 33))), (2, .box 33 (.agg 33 [.at (.v 5) 3, .at (.v 6) 3, .at (.v 7) 9, .nil 30, .nil 31]))]⟩⟩,
 ⟨[(0, 0, [true, true, true])], ⟨5, 3, [(2, ⟨[], .one (.leaf (.ptr (.p 0 0)))⟩), (3, ⟨[], .one (.leaf (.ptr (.p 1 0)))⟩), (4, ⟨[], .one (.leaf (.ptr (.p 2 0)))⟩)], [(0, .box 26 (.leaf (.at (.v 0) 26))), (1, .box 33 (.leaf (.at (.v 1) 33))), (2, .box 33 (.agg 33 [.at (.v 2) 3, .at (.v 3) 3, .at (.v 4) 9, .nil 30, .nil 31]))]⟩⟩,
 ⟨[(1, 2, []), (0, 0, [true, true, true, false, false, true, false, true, false, true, true]), (2, 0, [false, false, true, false, true, false, true, true]), (1, 1, []), (0, 0, [true, true, true])], ⟨8, 3, [(2, ⟨[], .one (.leaf (.ptr (.p 0 0)))⟩), (3, ⟨[], .one (.leaf (.ptr (.p 1 0)))⟩), (4, ⟨[], .one (.leaf (.ptr (.p 2 0)))⟩), (44, ⟨[], .one (.leaf (.at (.v 0) 24))⟩), (45, ⟨[], .one (.leaf (.at (.v 1) 3))⟩), (46, ⟨[], .one (.leaf (.at (.v 2) 3))⟩)], [(0, .box 26 (.leaf (.at (.v 3) 26))), (1, .box 33 (.leaf (.at (.v 4) 33))), (2, .box 33 (.agg 33 [.at (.v 5) 3, .at (.v 6) 3, .at (.v 7) 9, .nil 30, .nil 31]))]⟩⟩,
 ⟨[(0, 0, [false, false, true, false, true, true, true, true]), (2, 0, [false, false, true, false, true, true, true, true]), (1, 3, []), (0, 0, [true, true, true, true, true])], ⟨8, 3, [(2, ⟨[], .one (.leaf (.ptr (.p 0 0)))⟩), (4, ⟨[], .one (.leaf (.ptr (.p 1 0)))⟩), (9, ⟨[], .one (.leaf (.ref 2 31))⟩), (76, ⟨[], .one (.leaf (.at (.v 0) 31))⟩), (77, ⟨[], .one (.leaf (.at (.v 1) 3))⟩), (78, ⟨[], .one (.leaf (.at (.v 2) 3))⟩)], [(0, .box 26 (.leaf (.at (.v 3) 26))), (1, .box 33 (.agg 33 [.at (.v 4) 3, .at (.v 5) 3, .at (.v 6) 9, .nil 30, .nil 31])), (2, .arr 70 31 (.v 7))]⟩⟩,
 ⟨[(0, 0, [true, true, false, false, true, true, false, false, true, false, true, true, true, true]), (1, 4, []), (0, 0, [true, true, true, false, false, true, false, true, true, true, true]), (2, 0, [false, false, true, false, true, true, true, true]), (1, 3, []), (0, 0, [true, true, true, true, true])], ⟨14, 4, [(2, ⟨[], .one (.leaf (.ptr (.p 0 0)))⟩), (4, ⟨[], .one (.leaf (.ptr (.p 1 0)))⟩), (9, ⟨[], .one (.leaf (.ref 2 31))⟩), (11, ⟨[], .one (.leaf (.ptr (.p 3 0)))⟩), (76, ⟨[], .one (.leaf (.at (.v 0) 31))⟩), (77, ⟨[], .one (.leaf (.at (.v 1) 3))⟩), (78, ⟨[], .one (.leaf (.at (.v 2) 3))⟩)], [(0, .box 26 (.leaf (.at (.v 3) 26))), (1, .box 33 (.agg 33 [.at (.v 4) 3, .at (.v 5) 3, .at (.v 6) 9, .nil 30, .nil 31])), (2, .arr 70 31 (.v 7)), (3, .box 70 (.agg 70 [.at (.v 8) 9, .at (.v 9) 3, .at (.v 10) 3, .at (.v 11) 9, .at (.v 12) 30, .at (.v 13) 31]))]⟩⟩]
def b113 : List Blk := [
 ⟨[(0, 0, [false, false, true, false, true, true, true]), (2, 0, [false, false, true, false, true, true, true]), (1, 0, []), (0, 0, [true, true, true, true])], ⟨8, 3, [(2, ⟨[], .one (.leaf (.fn 29 []))⟩), (3, ⟨[], .one (.leaf (.ptr (.p 0 0)))⟩), (6, ⟨[], .one (.leaf (.ptr (.p 1 0)))⟩), (7, ⟨[], .one (.leaf (.ref 2 30))⟩), (17, ⟨[], .one (.leaf (.at (.v 0) 30))⟩), (18, ⟨[], .one (.leaf (.at (.v 1) 3))⟩), (19, ⟨[], .one (.leaf (.at (.v 2) 3))⟩)], [(0, .box 26 (.leaf (.at (.v 3) 26))), (1, .box 33 (.agg 33 [.at (.v 4) 3, .at (.v 5) 3, .at (.v 6) 9, .nil 30, .nil 31])), (2, .arr 33 30 (.v 7))]⟩⟩]
def b116 : List Blk := [
 ⟨[(0, 0, [false, false, true, false, true, true, true]), (2, 0, [false, false, true, false, true, true, true]), (1, 0, []), (0, 0, [true, true, true, true])], ⟨4, 2, [(0, ⟨[], .one (.leaf (.ref 1 31))⟩), (1, ⟨[], .one (.leaf (.fn 192 [.im (.v 0) 9 0]))⟩), (5, ⟨[], .one (.leaf (.at (.v 1) 3))⟩), (6, ⟨[], .one (.leaf (.at (.v 2) 3))⟩)], [(1, .arr 70 31 (.v 3))]⟩⟩,
 ⟨[(1, 1, []), (0, 0, [true, true, false, false, true, false, true, true, true]), (2, 0, [false, false, true, false, true, true, true]), (1, 0, []), (0, 0, [true, true, true, true])], ⟨4, 2, [(0, ⟨[], .one (.leaf (.ref 1 31))⟩), (1, ⟨[], .one (.leaf (.fn 192 [.im (.v 0) 9 0]))⟩), (5, ⟨[], .one (.leaf (.at (.v 1) 3))⟩), (6, ⟨[], .one (.leaf (.at (.v 2) 3))⟩)], [(1, .arr 70 31 (.v 3))]⟩⟩]
def b117 : List Blk := [
 ⟨[(0, 0, [false, false, true, false, true]), (2, 0, [false, false, true, false, true]), (1, 0, []), (0, 0, [true, true])], ⟨4, 0, [(0, ⟨[], .one (.leaf (.at (.v 0) 31))⟩), (1, ⟨[], .one (.leaf (.fn 192 [.im (.v 1) 9 0]))⟩), (7, ⟨[], .one (.leaf (.at (.v 2) 3))⟩), (8, ⟨[], .one (.leaf (.at (.v 3) 3))⟩)], []⟩⟩]
def b119 : List Blk := [
 ⟨[(0, 0, [false, false, true, false, true, true]), (2, 0, [false, false, true, false, true, true]), (1, 0, []), (0, 0, [true, true, true])], ⟨8, 1, [(1, ⟨[], .one (.leaf (.at (.v 0) 9))⟩), (4, ⟨[], .one (.leaf (.ptr (.p 0 0)))⟩), (17, ⟨[], .one (.leaf (.at (.v 1) 24))⟩), (18, ⟨[], .one (.leaf (.at (.v 2) 3))⟩), (19, ⟨[], .one (.leaf (.at (.v 3) 3))⟩)], [(0, .box 26 (.agg 26 [.at (.v 4) 3, .at (.v 5) 3, .at (.v 6) 3, .nil 22, .at (.v 7) 9, .nil 23, .nil 24]))]⟩⟩]
def b121 : List Blk := [
 ⟨[(0, 0, [true, true, true])], ⟨3, 2, [(2, ⟨[], .one (.leaf (.ptr (.p 0 0)))⟩), (3, ⟨[], .one (.leaf (.ptr (.p 1 0)))⟩), (5, ⟨[], .one (.leaf (.at (.v 0) 3))⟩)], [(0, .box 33 (.leaf (.at (.v 1) 33))), (1, .box 33 (.leaf (.at (.v 2) 33)))]⟩⟩,
 ⟨[(0, 0, [true, true, true, true])], ⟨3, 2, [(2, ⟨[], .one (.leaf (.ptr (.p 0 0)))⟩), (3, ⟨[], .one (.leaf (.ptr (.p 1 0)))⟩), (5, ⟨[], .one (.leaf (.at (.v 0) 3))⟩)], [(0, .box 33 (.leaf (.at (.v 1) 33))), (1, .box 33 (.leaf (.at (.v 2) 33)))]⟩⟩,
 ⟨[(0, 0, [false, false, true, false, true, true, true, true]), (2, 0, [false, false, true, false, true, true, true, true]), (1, 0, []), (0, 0, [true, true, true, true, true])], ⟨4, 2, [(2, ⟨[], .one (.leaf (.ptr (.p 0 0)))⟩), (3, ⟨[], .one (.leaf (.ptr (.p 1 0)))⟩), (5, ⟨[], .one (.leaf (.at (.v 0) 3))⟩), (6, ⟨[], .one (.leaf (.at (.v 1) 3))⟩)], [(0, .box 33 (.leaf (.at (.v 2) 33))), (1, .box 33 (.leaf (.at (.v 3) 33)))]⟩⟩,
 ⟨[(0, 0, [true, true, true, true, true, true])], ⟨3, 2, [(2, ⟨[], .one (.leaf (.ptr (.p 0 0)))⟩), (3, ⟨[], .one (.leaf (.ptr (.p 1 0)))⟩), (5, ⟨[], .one (.leaf (.at (.v 0) 3))⟩)], [(0, .box 33 (.leaf (.at (.v 1) 33))), (1, .box 33 (.leaf (.at (.v 2) 33)))]⟩⟩,
 ⟨[(0, 0, [false, false, true, false, true, true, true, true, true, true]), (2, 0, [false, false, true, false, true, true, true, true, true, true]), (1, 2, []), (0, 0, [true, true, true, true, true, true, true])], ⟨4, 2, [(2, ⟨[], .one (.leaf (.ptr (.p 0 0)))⟩), (3, ⟨[], .one (.leaf (.ptr (.p 1 0)))⟩), (5, ⟨[], .one (.leaf (.at (.v 0) 3))⟩), (7, ⟨[], .one (.leaf (.at (.v 1) 3))⟩)], [(0, .box 33 (.leaf (.at (.v 2) 33))), (1, .box 33 (.leaf (.at (.v 3) 33)))]⟩⟩,
 ⟨[(1, 3, []), (0, 0, [true, true, false, false, true, false, true, true, true, true, true, true]), (2, 0, [false, false, true, false, true, true, true, true, true, true]), (1, 2, []), (0, 0, [true, true, true, true, true, true, true])], ⟨4, 2, [(2, ⟨[], .one (.leaf (.ptr (.p 0 0)))⟩), (3, ⟨[], .one (.leaf (.ptr (.p 1 0)))⟩), (5, ⟨[], .one (.leaf (.at (.v 0) 3))⟩), (7, ⟨[], .one (.leaf (.at (.v 1) 3))⟩)], [(0, .box 33 (.leaf (.at (.v 2) 33))), (1, .box 33 (.leaf (.at (.v 3) 33)))]⟩⟩]
def b123 : List Blk := [
 ⟨[(0, 0, [false, false, true, false, true, true, true]), (2, 0, [false, false, true, false, true, true, true]), (1, 1, []), (0, 0, [true, true, true, true])], ⟨8, 3, [(2, ⟨[], .one (.leaf (.ptr (.p 0 0)))⟩), (4, ⟨[], .one (.leaf (.ptr (.p 1 0)))⟩), (5, ⟨[], .one (.leaf (.ref 2 31))⟩), (36, ⟨[], .one (.leaf (.at (.v 0) 31))⟩), (37, ⟨[], .one (.leaf (.at (.v 1) 3))⟩), (38, ⟨[], .one (.leaf (.at (.v 2) 3))⟩)], [(0, .box 26 (.leaf (.at (.v 3) 26))), (1, .box 33 (.agg 33 [.at (.v 4) 3, .at (.v 5) 3, .at (.v 6) 9, .nil 30, .nil 31])), (2, .arr 70 31 (.v 7))]⟩⟩,
 ⟨[(1, 2, []), (0, 0, [true, true, true, false, false, true, false, true, true, true]), (2, 0, [false, false, true, false, true, true, true]), (1, 1, []), (0, 0, [true, true, true, true])], ⟨8, 3, [(2, ⟨[], .one (.leaf (.ptr (.p 0 0)))⟩), (4, ⟨[], .one (.leaf (.ptr (.p 1 0)))⟩), (5, ⟨[], .one (.leaf (.ref 2 31))⟩), (36, ⟨[], .one (.leaf (.at (.v 0) 31))⟩), (37, ⟨[], .one (.leaf (.at (.v 1) 3))⟩), (38, ⟨[], .one (.leaf (.at (.v 2) 3))⟩)], [(0, .box 26 (.leaf (.at (.v 3) 26))), (1, .box 33 (.agg 33 [.at (.v 4) 3, .at (.v 5) 3, .at (.v 6) 9, .nil 30, .nil 31])), (2, .arr 70 31 (.v 7))]⟩⟩]
def b124 : List Blk := [
 ⟨[(0, 0, [false, false, true, false, true, true, true]), (2, 0, [false, false, true, false, true, true, true]), (1, 0, []), (0, 0, [true, true, true, true])], ⟨8, 3, [(2, ⟨[], .one (.leaf (.fn 30 []))⟩), (3, ⟨[], .one (.leaf (.ptr (.p 0 0)))⟩), (6, ⟨[], .one (.leaf (.ptr (.p 1 0)))⟩), (7, ⟨[], .one (.leaf (.ref 2 30))⟩), (17, ⟨[], .one (.leaf (.at (.v 0) 30))⟩), (18, ⟨[], .one (.leaf (.at (.v 1) 3))⟩), (19, ⟨[], .one (.leaf (.at (.v 2) 3))⟩)], [(0, .box 26 (.leaf (.at (.v 3) 26))), (1, .box 33 (.agg 33 [.at (.v 4) 3, .at (.v 5) 3, .at (.v 6) 9, .nil 30, .nil 31])), (2, .arr 33 30 (.v 7))]⟩⟩]
def blks (i : Nat) : List Blk :=
 match i with
 | 2 => b2
 | 6 => b6
 | 7 => b7
 | 8 => b8
 | 9 => b9
 | 10 => b10
 | 11 => b11
 | 13 => b13
 | 14 => b14
 | 15 => b15
 | 16 => b16
 | 18 => b18
 | 19 => b19
 | 21 => b21
 | 23 => b23
 | 25 => b25
 | 26 => b26
 | 29 => b29
 | 30 => b30
 | 32 => b32
 | 35 => b35
 | 40 => b40
 | 43 => b43
 | 44 => b44
 | 45 => b45
 | 46 => b46
 | 47 => b47
 | 50 => b50
 | 54 => b54
 | 56 => b56
 | 57 => b57
 | 60 => b60
 | 61 => b61
 | 66 => b66
 | 67 => b67
 | 68 => b68
 | 69 => b69
 | 72 => b72
 | 74 => b74
 | 77 => b77
 | 80 => b80
 | 86 => b86
 | 92 => b92
 | 93 => b93
 | 96 => b96
 | 101 => b101
 | 105 => b105
 | 106 => b106
 | 110 => b110
 | 113 => b113
 | 116 => b116
 | 117 => b117
 | 119 => b119
 | 121 => b121
 | 123 => b123
 | 124 => b124
 | _ => []
def pr (i : Nat) : Option (List IV → Option (List IV)) :=
 match i with
 | 58 => some O.cloneF
 | 65 => some O.compareF
 | 70 => some O.cloneF
 | 83 => some O.copyCheckF
 | 84 => some O.itoaF
 | 87 => some O.stringF
 | 90 => some O.noneF
 | 98 => some O.cloneF
 | 99 => some O.clipF
 | _ => none
noncomputable def W (f b : Nat) (xs : List IV) : Option (List IV) := V (tab Tryz.prog specs blks 3000) pr ⟨f, b⟩ xs
theorem e_F0_0 (x0 x1 : IV) : W F0 0 [x0, x1] =
calls (W F1 0 [x0, x1]) 1 fun x2 =>
(O.not x2).bind fun x3 =>
(cnd x3 (some (.bool true)) (
calls (W F36 0 [x0, x1]) 1 fun x4 =>
(O.len x4).bind fun x5 =>
(O.gt x5 (.int 0)).bind fun x6 =>
some x6)).bind fun x4 =>
cnd x4 (
calls (W F104 0 []) 1 fun x5 =>
some [x5]) (
calls (W F110 0 [x0, x1]) 1 fun x5 =>
calls (W F123 0 [x0, x1]) 1 fun x6 =>
calls (W F104 0 []) 1 fun x7 =>
(cnd x7 (
calls (W F36 0 [x0, x6]) 1 fun x8 =>
(O.len x8).bind fun x9 =>
(O.eq x9 (.int 0)).bind fun x10 =>
some x10) (some (.bool false))).bind fun x8 =>
(cnd x8 (
calls (W F12 0 [x5]) 1 fun x9 =>
(O.not x9).bind fun x10 =>
(cnd x10 (some (.bool true)) (
calls (W F36 0 [x0, x5]) 1 fun x11 =>
(O.len x11).bind fun x12 =>
(O.eq x12 (.int 0)).bind fun x13 =>
some x13)).bind fun x11 =>
some x11) (some (.bool false))).bind fun x9 =>
some [x9]) := V_is rfl (by kernel_rfl)
theorem e_F1_0 (x0 x1 : IV) : W F1 0 [x0, x1] =
calls (W F2 0 [x0, (.int 300)]) 1 fun x2 =>
(O.lt x2 (.int 300)).bind fun x3 =>
(cnd x3 (
calls (W F3 0 [x0]) 1 fun x4 =>
some x4) (some (.bool false))).bind fun x4 =>
(cnd x4 (
calls (W F34 0 [x1, (.int 700)]) 1 fun x5 =>
some x5) (some (.bool false))).bind fun x5 =>
(cnd x5 (
calls (W F12 0 [x1]) 1 fun x6 =>
some x6) (some (.bool false))).bind fun x6 =>
some [x6] := V_is rfl (by kernel_rfl)
theorem e_F2_0 (x0 x1 : IV) : W F2 0 [x0, x1] =
W F2 1 [x1, (.int 1), (.int 0), x0] := V_is rfl (by kernel_rfl)
theorem e_F2_1 (x0 x1 x2 x3 : IV) : W F2 1 [x0, x1, x2, x3] =
(O.proj 5 x3).bind fun x4 =>
(O.len x4).bind fun x5 =>
(O.lt x2 x5).bind fun x6 =>
(cnd x6 (
(O.lt x1 x0).bind fun x7 =>
some x7) (some (.bool false))).bind fun x7 =>
cnd x7 (
(O.index x4 x2).bind fun x8 =>
(O.sub .i64 x0 x1).bind fun x9 =>
calls (W F2 0 [x8, x9]) 1 fun x10 =>
(O.add .i64 x1 x10).bind fun x11 =>
(O.add .i64 x2 (.int 1)).bind fun x12 =>
W F2 1 [x0, x11, x12, x3]) (
W F2 2 [x0, x1, (.int 0), x3]) := V_is rfl (by kernel_rfl)
theorem e_F2_2 (x0 x1 x2 x3 : IV) : W F2 2 [x0, x1, x2, x3] =
(O.proj 6 x3).bind fun x4 =>
(O.len x4).bind fun x5 =>
(O.lt x2 x5).bind fun x6 =>
(cnd x6 (
(O.lt x1 x0).bind fun x7 =>
some x7) (some (.bool false))).bind fun x7 =>
cnd x7 (
(O.index x4 x2).bind fun x8 =>
(O.projs 4 7 x8).bind fun x9 =>
(O.sub .i64 x0 x1).bind fun x10 =>
calls (W F2 0 [x9, x10]) 1 fun x11 =>
(O.add .i64 x1 x11).bind fun x12 =>
(O.add .i64 x2 (.int 1)).bind fun x13 =>
W F2 2 [x0, x12, x13, x3]) (
some [x1]) := V_is rfl (by kernel_rfl)
theorem e_F3_0 (x0 : IV) : W F3 0 [x0] =
calls (W F4 0 [x0, (.int 12)]) 1 fun x1 =>
some [x1] := V_is rfl (by kernel_rfl)
theorem e_F4_0 (x0 x1 : IV) : W F4 0 [x0, x1] =
(O.eq x1 (.int 0)).bind fun x2 =>
cnd x2 (
some [(.bool false)]) (
(O.proj 0 x0).bind fun x3 =>
(O.eq x3 (.int 1)).bind fun x4 =>
cnd x4 (
calls (W F5 0 [x0]) 1 fun x5 =>
(cnd x5 (
(O.proj 1 x0).bind fun x6 =>
(O.eq x6 (.int 0)).bind fun x7 =>
some x7) (some (.bool false))).bind fun x6 =>
(cnd x6 (
(O.proj 2 x0).bind fun x7 =>
(O.eq x7 (.int 0)).bind fun x8 =>
some x8) (some (.bool false))).bind fun x7 =>
(cnd x7 (
(O.proj 3 x0).bind fun x8 =>
(O.len x8).bind fun x9 =>
(O.eq x9 (.int 0)).bind fun x10 =>
some x10) (some (.bool false))).bind fun x8 =>
some [x8]) (
(O.eq x3 (.int 2)).bind fun x5 =>
cnd x5 (
calls (W F5 0 [x0]) 1 fun x6 =>
(cnd x6 (
(O.proj 1 x0).bind fun x7 =>
(O.le (.int (-1000000000000000)) x7).bind fun x8 =>
some x8) (some (.bool false))).bind fun x7 =>
(cnd x7 (
(O.proj 1 x0).bind fun x8 =>
(O.proj 2 x0).bind fun x9 =>
(O.le x8 x9).bind fun x10 =>
some x10) (some (.bool false))).bind fun x8 =>
(cnd x8 (
(O.proj 2 x0).bind fun x9 =>
(O.le x9 (.int 1000000000000000)).bind fun x10 =>
some x10) (some (.bool false))).bind fun x9 =>
(cnd x9 (
(O.proj 3 x0).bind fun x10 =>
(O.len x10).bind fun x11 =>
(O.eq x11 (.int 0)).bind fun x12 =>
some x12) (some (.bool false))).bind fun x10 =>
some [x10]) (
(O.eq x3 (.int 3)).bind fun x6 =>
cnd x6 (
calls (W F6 0 [x0]) 1 fun x7 =>
some [x7]) (
(O.eq x3 (.int 4)).bind fun x7 =>
cnd x7 (
calls (W F8 0 [x0, x1]) 1 fun x8 =>
some [x8]) (
(O.eq x3 (.int 5)).bind fun x8 =>
cnd x8 (
calls (W F10 0 [x0, x1]) 1 fun x9 =>
some [x9]) (
some [(.bool false)])))))) := V_is rfl (by kernel_rfl)
theorem e_F5_0 (x0 : IV) : W F5 0 [x0] =
(O.proj 4 x0).bind fun x1 =>
(O.sEq x1 (.str ⟨#[]⟩)).bind fun x2 =>
(cnd x2 (
(O.proj 5 x0).bind fun x3 =>
(O.len x3).bind fun x4 =>
(O.eq x4 (.int 0)).bind fun x5 =>
some x5) (some (.bool false))).bind fun x3 =>
(cnd x3 (
(O.proj 6 x0).bind fun x4 =>
(O.len x4).bind fun x5 =>
(O.eq x5 (.int 0)).bind fun x6 =>
some x6) (some (.bool false))).bind fun x4 =>
some [x4] := V_is rfl (by kernel_rfl)
theorem e_F6_0 (x0 : IV) : W F6 0 [x0] =
W F6 1 [(.int 0), x0] := V_is rfl (by kernel_rfl)
theorem e_F6_1 (x0 x1 : IV) : W F6 1 [x0, x1] =
(O.proj 3 x1).bind fun x2 =>
(O.len x2).bind fun x3 =>
(O.lt x0 x3).bind fun x4 =>
cnd x4 (
(O.index x2 x0).bind fun x5 =>
(O.slen x5).bind fun x6 =>
calls (W F7 0 [x5]) 1 fun x7 =>
(O.not x7).bind fun x8 =>
(cnd x8 (some (.bool true)) (
(O.proj 1 x1).bind fun x9 =>
(O.lt x6 x9).bind fun x10 =>
some x10)).bind fun x9 =>
(cnd x9 (some (.bool true)) (
(O.proj 2 x1).bind fun x10 =>
(O.gt x6 x10).bind fun x11 =>
some x11)).bind fun x10 =>
(cnd x10 (some (.bool true)) (
(O.gt x0 (.int 0)).bind fun x11 =>
(cnd x11 (
(O.sub .i64 x0 (.int 1)).bind fun x12 =>
(O.index x2 x12).bind fun x13 =>
(O.sLe x5 x13).bind fun x14 =>
some x14) (some (.bool false))).bind fun x12 =>
some x12)).bind fun x11 =>
cnd x11 (
some [(.bool false)]) (
(O.add .i64 x0 (.int 1)).bind fun x12 =>
W F6 1 [x12, x1])) (
calls (W F5 0 [x1]) 1 fun x5 =>
(cnd x5 (
(O.proj 1 x1).bind fun x6 =>
(O.ge x6 (.int 0)).bind fun x7 =>
some x7) (some (.bool false))).bind fun x6 =>
(cnd x6 (
(O.proj 1 x1).bind fun x7 =>
(O.proj 2 x1).bind fun x8 =>
(O.le x7 x8).bind fun x9 =>
some x9) (some (.bool false))).bind fun x7 =>
(cnd x7 (
(O.proj 2 x1).bind fun x8 =>
(O.le x8 (.int 200)).bind fun x9 =>
some x9) (some (.bool false))).bind fun x8 =>
(cnd x8 (
(O.le x3 (.int 64)).bind fun x9 =>
some x9) (some (.bool false))).bind fun x9 =>
some [x9]) := V_is rfl (by kernel_rfl)
theorem e_F7_0 (x0 : IV) : W F7 0 [x0] =
W F7 1 [x0, (.int 0)] := V_is rfl (by kernel_rfl)
theorem e_F7_1 (x0 x1 : IV) : W F7 1 [x0, x1] =
(O.slen x0).bind fun x2 =>
(O.lt x1 x2).bind fun x3 =>
cnd x3 (
(O.sindex x0 x1).bind fun x4 =>
(O.ne x4 (.int 10)).bind fun x5 =>
(cnd x5 (
(O.lt x4 (.int 32)).bind fun x6 =>
(cnd x6 (some (.bool true)) (
(O.gt x4 (.int 126)).bind fun x7 =>
some x7)).bind fun x7 =>
some x7) (some (.bool false))).bind fun x6 =>
cnd x6 (
some [(.bool false)]) (
(O.add .i64 x1 (.int 1)).bind fun x7 =>
W F7 1 [x0, x7])) (
(O.le x2 (.int 200)).bind fun x4 =>
some [x4]) := V_is rfl (by kernel_rfl)
theorem e_F8_0 (x0 x1 : IV) : W F8 0 [x0, x1] =
(O.proj 1 x0).bind fun x2 =>
(O.lt x2 (.int 0)).bind fun x3 =>
(cnd x3 (some (.bool true)) (
(O.proj 2 x0).bind fun x4 =>
(O.gt x2 x4).bind fun x5 =>
some x5)).bind fun x4 =>
(cnd x4 (some (.bool true)) (
(O.proj 2 x0).bind fun x5 =>
(O.gt x5 (.int 64)).bind fun x6 =>
some x6)).bind fun x5 =>
(cnd x5 (some (.bool true)) (
(O.proj 3 x0).bind fun x6 =>
(O.len x6).bind fun x7 =>
(O.gt x7 (.int 0)).bind fun x8 =>
some x8)).bind fun x6 =>
(cnd x6 (some (.bool true)) (
(O.proj 6 x0).bind fun x7 =>
(O.len x7).bind fun x8 =>
(O.gt x8 (.int 0)).bind fun x9 =>
some x9)).bind fun x7 =>
(cnd x7 (some (.bool true)) (
(O.proj 5 x0).bind fun x8 =>
(O.len x8).bind fun x9 =>
(O.ne x9 (.int 1)).bind fun x10 =>
some x10)).bind fun x8 =>
cnd x8 (
some [(.bool false)]) (
(O.proj 4 x0).bind fun x9 =>
(O.sNe x9 (.str ⟨#[]⟩)).bind fun x10 =>
cnd x10 (
(O.proj 5 x0).bind fun x11 =>
(O.index x11 (.int 0)).bind fun x12 =>
calls (W F9 0 [x12, x9]) 2 fun x13 x14 =>
(O.proj 0 x12).bind fun x15 =>
(O.ne x15 (.int 5)).bind fun x16 =>
(cnd x16 (some (.bool true)) (
(O.not x14).bind fun x17 =>
some x17)).bind fun x17 =>
(cnd x17 (some (.bool true)) (
(O.proj 1 x13).bind fun x18 =>
(O.not x18).bind fun x19 =>
some x19)).bind fun x18 =>
(cnd x18 (some (.bool true)) (
(O.proj 4 x13).bind fun x19 =>
(O.ne x19 (.int 3)).bind fun x20 =>
some x20)).bind fun x19 =>
cnd x19 (
some [(.bool false)]) (
W F8 1 [x1, x0])) (
W F8 1 [x1, x0])) := V_is rfl (by kernel_rfl)
theorem e_F8_1 (x0 x1 : IV) : W F8 1 [x0, x1] =
(O.proj 5 x1).bind fun x2 =>
(O.index x2 (.int 0)).bind fun x3 =>
(O.sub .i64 x0 (.int 1)).bind fun x4 =>
calls (W F4 0 [x3, x4]) 1 fun x5 =>
some [x5] := V_is rfl (by kernel_rfl)
theorem e_F9_0 (x0 x1 : IV) : W F9 0 [x0, x1] =
W F9 1 [x1, (.int 0), x0, (.str ⟨#[]⟩), (.bool false), (.bool false), (.int 0), (.int 0), (.int 0), (.str ⟨#[]⟩)] := V_is rfl (by kernel_rfl)
theorem e_F9_1 (x0 x1 x2 x3 x4 x5 x6 x7 x8 x9 : IV) : W F9 1 [x0, x1, x2, x3, x4, x5, x6, x7, x8, x9] =
(O.proj 6 x2).bind fun x10 =>
(O.len x10).bind fun x11 =>
(O.lt x1 x11).bind fun x12 =>
cnd x12 (
(O.index x10 x1).bind fun x13 =>
(O.proj 0 x13).bind fun x14 =>
(O.sEq x14 x0).bind fun x15 =>
cnd x15 (
some [x13, (.bool true)]) (
(O.add .i64 x1 (.int 1)).bind fun x16 =>
W F9 1 [x0, x16, x2, x3, x4, x5, x6, x7, x8, x9])) (
(O.mkagg [(.str ⟨#[]⟩), (.bool false), (.bool false), (.list []), (.int 0), (.int 0), (.int 0), (.list []), (.str ⟨#[]⟩), (.list []), (.list [])]).bind fun x13 =>
some [x13, (.bool false)]) := V_is rfl (by kernel_rfl)
theorem e_F10_0 (x0 x1 : IV) : W F10 0 [x0, x1] =
(O.proj 1 x0).bind fun x2 =>
(O.ne x2 (.int 0)).bind fun x3 =>
(cnd x3 (some (.bool true)) (
(O.proj 2 x0).bind fun x4 =>
(O.ne x4 (.int 0)).bind fun x5 =>
some x5)).bind fun x4 =>
(cnd x4 (some (.bool true)) (
(O.proj 3 x0).bind fun x5 =>
(O.len x5).bind fun x6 =>
(O.gt x6 (.int 0)).bind fun x7 =>
some x7)).bind fun x5 =>
(cnd x5 (some (.bool true)) (
(O.proj 4 x0).bind fun x6 =>
(O.sNe x6 (.str ⟨#[]⟩)).bind fun x7 =>
some x7)).bind fun x6 =>
(cnd x6 (some (.bool true)) (
(O.proj 5 x0).bind fun x7 =>
(O.len x7).bind fun x8 =>
(O.gt x8 (.int 1)).bind fun x9 =>
some x9)).bind fun x7 =>
(cnd x7 (some (.bool true)) (
(O.proj 5 x0).bind fun x8 =>
(O.len x8).bind fun x9 =>
(O.eq x9 (.int 1)).bind fun x10 =>
(cnd x10 (
(O.proj 6 x0).bind fun x11 =>
(O.len x11).bind fun x12 =>
(O.gt x12 (.int 0)).bind fun x13 =>
some x13) (some (.bool false))).bind fun x11 =>
some x11)).bind fun x8 =>
(cnd x8 (some (.bool true)) (
(O.proj 6 x0).bind fun x9 =>
(O.len x9).bind fun x10 =>
(O.gt x10 (.int 64)).bind fun x11 =>
some x11)).bind fun x9 =>
cnd x9 (
some [(.bool false)]) (
(O.proj 5 x0).bind fun x10 =>
(O.len x10).bind fun x11 =>
(O.eq x11 (.int 1)).bind fun x12 =>
cnd x12 (
(O.index x10 (.int 0)).bind fun x13 =>
(O.sub .i64 x1 (.int 1)).bind fun x14 =>
calls (W F4 0 [x13, x14]) 1 fun x15 =>
some [x15]) (
W F10 1 [x1, (.int 0), x0])) := V_is rfl (by kernel_rfl)
theorem e_F10_1 (x0 x1 x2 : IV) : W F10 1 [x0, x1, x2] =
(O.proj 6 x2).bind fun x3 =>
(O.len x3).bind fun x4 =>
(O.lt x1 x4).bind fun x5 =>
cnd x5 (
(O.index x3 x1).bind fun x6 =>
(O.proj 0 x6).bind fun x7 =>
calls (W F11 0 [x7]) 1 fun x8 =>
(O.not x8).bind fun x9 =>
(cnd x9 (some (.bool true)) (
(O.gt x1 (.int 0)).bind fun x10 =>
(cnd x10 (
(O.sub .i64 x1 (.int 1)).bind fun x11 =>
(O.index x3 x11).bind fun x12 =>
(O.proj 0 x12).bind fun x13 =>
(O.sLe x7 x13).bind fun x14 =>
some x14) (some (.bool false))).bind fun x11 =>
some x11)).bind fun x10 =>
(cnd x10 (some (.bool true)) (
(O.projs 4 7 x6).bind fun x11 =>
(O.sub .i64 x0 (.int 1)).bind fun x12 =>
calls (W F4 0 [x11, x12]) 1 fun x13 =>
(O.not x13).bind fun x14 =>
some x14)).bind fun x11 =>
(cnd x11 (some (.bool true)) (
(O.proj 3 x6).bind fun x12 =>
(O.len x12).bind fun x13 =>
(O.gt x13 (.int 1)).bind fun x14 =>
some x14)).bind fun x12 =>
cnd x12 (
some [(.bool false)]) (
(O.proj 3 x6).bind fun x13 =>
(O.len x13).bind fun x14 =>
(O.eq x14 (.int 1)).bind fun x15 =>
(cnd x15 (
(O.index x13 (.int 0)).bind fun x16 =>
(O.proj 0 x16).bind fun x17 =>
(O.eq x17 (.int 0)).bind fun x18 =>
(cnd x18 (some (.bool true)) (
calls (W F12 0 [x16]) 1 fun x19 =>
(O.not x19).bind fun x20 =>
some x20)).bind fun x19 =>
(cnd x19 (some (.bool true)) (
(O.projs 4 7 x6).bind fun x20 =>
calls (W F16 0 [x20, x16, (.list [])]) 1 fun x21 =>
(O.len x21).bind fun x22 =>
(O.gt x22 (.int 0)).bind fun x23 =>
some x23)).bind fun x20 =>
some x20) (some (.bool false))).bind fun x16 =>
cnd x16 (
some [(.bool false)]) (
(O.add .i64 x1 (.int 1)).bind fun x17 =>
W F10 1 [x0, x17, x2]))) (
some [(.bool true)]) := V_is rfl (by kernel_rfl)
theorem e_F11_0 (x0 : IV) : W F11 0 [x0] =
W F11 1 [x0, (.int 0)] := V_is rfl (by kernel_rfl)
theorem e_F11_1 (x0 x1 : IV) : W F11 1 [x0, x1] =
(O.slen x0).bind fun x2 =>
(O.lt x1 x2).bind fun x3 =>
cnd x3 (
(O.sindex x0 x1).bind fun x4 =>
(O.ge x4 (.int 97)).bind fun x5 =>
(cnd x5 (
(O.le x4 (.int 122)).bind fun x6 =>
some x6) (some (.bool false))).bind fun x6 =>
(cnd x6 (some (.bool true)) (
(O.ge x4 (.int 65)).bind fun x7 =>
(cnd x7 (
(O.le x4 (.int 90)).bind fun x8 =>
some x8) (some (.bool false))).bind fun x8 =>
some x8)).bind fun x7 =>
(O.not x7).bind fun x8 =>
(cnd x8 (
(O.ge x4 (.int 48)).bind fun x9 =>
(cnd x9 (
(O.le x4 (.int 57)).bind fun x10 =>
some x10) (some (.bool false))).bind fun x10 =>
(O.not x10).bind fun x11 =>
some x11) (some (.bool false))).bind fun x9 =>
(cnd x9 (
(O.ne x4 (.int 45)).bind fun x10 =>
some x10) (some (.bool false))).bind fun x10 =>
(cnd x10 (
(O.ne x4 (.int 95)).bind fun x11 =>
some x11) (some (.bool false))).bind fun x11 =>
(cnd x11 (
(O.ne x4 (.int 47)).bind fun x12 =>
some x12) (some (.bool false))).bind fun x12 =>
cnd x12 (
some [(.bool false)]) (
(O.add .i64 x1 (.int 1)).bind fun x13 =>
W F11 1 [x0, x13])) (
(O.ge x2 (.int 1)).bind fun x4 =>
(cnd x4 (
(O.le x2 (.int 40)).bind fun x5 =>
some x5) (some (.bool false))).bind fun x5 =>
some [x5]) := V_is rfl (by kernel_rfl)
theorem e_F12_0 (x0 : IV) : W F12 0 [x0] =
calls (W F13 0 [x0, (.int 12)]) 1 fun x1 =>
(cnd x1 (
calls (W F15 0 [x0]) 1 fun x2 =>
(O.le x2 (.int 600)).bind fun x3 =>
some x3) (some (.bool false))).bind fun x2 =>
some [x2] := V_is rfl (by kernel_rfl)
theorem e_F13_0 (x0 x1 : IV) : W F13 0 [x0, x1] =
(O.eq x1 (.int 0)).bind fun x2 =>
(cnd x2 (some (.bool true)) (
calls (W F14 0 [x0]) 1 fun x3 =>
(O.not x3).bind fun x4 =>
some x4)).bind fun x3 =>
(cnd x3 (some (.bool true)) (
(O.proj 3 x0).bind fun x4 =>
(O.len x4).bind fun x5 =>
(O.gt x5 (.int 64)).bind fun x6 =>
some x6)).bind fun x4 =>
(cnd x4 (some (.bool true)) (
(O.proj 4 x0).bind fun x5 =>
(O.len x5).bind fun x6 =>
(O.gt x6 (.int 64)).bind fun x7 =>
some x7)).bind fun x5 =>
cnd x5 (
some [(.bool false)]) (
(O.proj 0 x0).bind fun x6 =>
(O.ne x6 (.int 4)).bind fun x7 =>
(cnd x7 (
(O.proj 3 x0).bind fun x8 =>
(O.len x8).bind fun x9 =>
(O.gt x9 (.int 0)).bind fun x10 =>
some x10) (some (.bool false))).bind fun x8 =>
(cnd x8 (some (.bool true)) (
(O.ne x6 (.int 5)).bind fun x9 =>
(cnd x9 (
(O.proj 4 x0).bind fun x10 =>
(O.len x10).bind fun x11 =>
(O.gt x11 (.int 0)).bind fun x12 =>
some x12) (some (.bool false))).bind fun x10 =>
some x10)).bind fun x9 =>
cnd x9 (
some [(.bool false)]) (
W F13 1 [x1, (.int 0), x0])) := V_is rfl (by kernel_rfl)
theorem e_F13_1 (x0 x1 x2 : IV) : W F13 1 [x0, x1, x2] =
(O.proj 3 x2).bind fun x3 =>
(O.len x3).bind fun x4 =>
(O.lt x1 x4).bind fun x5 =>
cnd x5 (
(O.index x3 x1).bind fun x6 =>
(O.sub .i64 x0 (.int 1)).bind fun x7 =>
calls (W F13 0 [x6, x7]) 1 fun x8 =>
(O.not x8).bind fun x9 =>
cnd x9 (
some [(.bool false)]) (
(O.add .i64 x1 (.int 1)).bind fun x10 =>
W F13 1 [x0, x10, x2])) (
W F13 2 [x0, (.int 0), x2]) := V_is rfl (by kernel_rfl)
theorem e_F13_2 (x0 x1 x2 : IV) : W F13 2 [x0, x1, x2] =
(O.proj 4 x2).bind fun x3 =>
(O.len x3).bind fun x4 =>
(O.lt x1 x4).bind fun x5 =>
cnd x5 (
(O.index x3 x1).bind fun x6 =>
(O.proj 0 x6).bind fun x7 =>
calls (W F11 0 [x7]) 1 fun x8 =>
(O.not x8).bind fun x9 =>
(cnd x9 (some (.bool true)) (
(O.gt x1 (.int 0)).bind fun x10 =>
(cnd x10 (
(O.sub .i64 x1 (.int 1)).bind fun x11 =>
(O.index x3 x11).bind fun x12 =>
(O.proj 0 x12).bind fun x13 =>
(O.sLe x7 x13).bind fun x14 =>
some x14) (some (.bool false))).bind fun x11 =>
some x11)).bind fun x10 =>
(cnd x10 (some (.bool true)) (
(O.projs 1 5 x6).bind fun x11 =>
(O.sub .i64 x0 (.int 1)).bind fun x12 =>
calls (W F13 0 [x11, x12]) 1 fun x13 =>
(O.not x13).bind fun x14 =>
some x14)).bind fun x11 =>
cnd x11 (
some [(.bool false)]) (
(O.add .i64 x1 (.int 1)).bind fun x12 =>
W F13 2 [x0, x12, x2])) (
some [(.bool true)]) := V_is rfl (by kernel_rfl)
theorem e_F14_0 (x0 : IV) : W F14 0 [x0] =
(O.proj 0 x0).bind fun x1 =>
(O.eq x1 (.int 1)).bind fun x2 =>
cnd x2 (
(O.proj 1 x0).bind fun x3 =>
(O.eq x3 (.int 0)).bind fun x4 =>
(cnd x4 (some (.bool true)) (
(O.eq x3 (.int 1)).bind fun x5 =>
some x5)).bind fun x5 =>
(cnd x5 (
(O.proj 2 x0).bind fun x6 =>
(O.sEq x6 (.str ⟨#[]⟩)).bind fun x7 =>
some x7) (some (.bool false))).bind fun x6 =>
some [x6]) (
(O.eq x1 (.int 2)).bind fun x3 =>
cnd x3 (
(O.proj 1 x0).bind fun x4 =>
(O.ge x4 (.int (-1000000000000000))).bind fun x5 =>
(cnd x5 (
(O.le x4 (.int 1000000000000000)).bind fun x6 =>
some x6) (some (.bool false))).bind fun x6 =>
(cnd x6 (
(O.proj 2 x0).bind fun x7 =>
(O.sEq x7 (.str ⟨#[]⟩)).bind fun x8 =>
some x8) (some (.bool false))).bind fun x7 =>
some [x7]) (
(O.eq x1 (.int 3)).bind fun x4 =>
cnd x4 (
(O.proj 1 x0).bind fun x5 =>
(O.eq x5 (.int 0)).bind fun x6 =>
(cnd x6 (
(O.proj 2 x0).bind fun x7 =>
calls (W F7 0 [x7]) 1 fun x8 =>
some x8) (some (.bool false))).bind fun x7 =>
some [x7]) (
(O.eq x1 (.int 0)).bind fun x5 =>
cnd x5 (
W F14 1 [x5, x0]) (
(O.eq x1 (.int 4)).bind fun x6 =>
cnd x6 (
W F14 1 [x6, x0]) (
(O.eq x1 (.int 5)).bind fun x7 =>
W F14 1 [x7, x0]))))) := V_is rfl (by kernel_rfl)
theorem e_F14_1 (x0 x1 : IV) : W F14 1 [x0, x1] =
cnd x0 (
(O.proj 1 x1).bind fun x2 =>
(O.eq x2 (.int 0)).bind fun x3 =>
(cnd x3 (
(O.proj 2 x1).bind fun x4 =>
(O.sEq x4 (.str ⟨#[]⟩)).bind fun x5 =>
some x5) (some (.bool false))).bind fun x4 =>
some [x4]) (
some [(.bool false)]) := V_is rfl (by kernel_rfl)
theorem e_F15_0 (x0 : IV) : W F15 0 [x0] =
W F15 1 [(.int 1), (.int 0), x0] := V_is rfl (by kernel_rfl)
theorem e_F15_1 (x0 x1 x2 : IV) : W F15 1 [x0, x1, x2] =
(O.proj 3 x2).bind fun x3 =>
(O.len x3).bind fun x4 =>
(O.lt x1 x4).bind fun x5 =>
cnd x5 (
(O.index x3 x1).bind fun x6 =>
calls (W F15 0 [x6]) 1 fun x7 =>
(O.add .i64 x0 x7).bind fun x8 =>
(O.add .i64 x1 (.int 1)).bind fun x9 =>
W F15 1 [x8, x9, x2]) (
W F15 2 [x0, (.int 0), x2]) := V_is rfl (by kernel_rfl)
theorem e_F15_2 (x0 x1 x2 : IV) : W F15 2 [x0, x1, x2] =
(O.proj 4 x2).bind fun x3 =>
(O.len x3).bind fun x4 =>
(O.lt x1 x4).bind fun x5 =>
cnd x5 (
(O.index x3 x1).bind fun x6 =>
(O.projs 1 5 x6).bind fun x7 =>
calls (W F15 0 [x7]) 1 fun x8 =>
(O.add .i64 x0 x8).bind fun x9 =>
(O.add .i64 x1 (.int 1)).bind fun x10 =>
W F15 2 [x9, x10, x2]) (
some [x0]) := V_is rfl (by kernel_rfl)
theorem e_F16_0 (x0 x1 x2 : IV) : W F16 0 [x0, x1, x2] =
(O.proj 0 x1).bind fun x3 =>
(O.proj 0 x0).bind fun x4 =>
(O.ne x3 x4).bind fun x5 =>
cnd x5 (
calls (W F17 0 [x2, (.int 6)]) 1 fun x6 =>
some [x6]) (
(O.eq x4 (.int 2)).bind fun x6 =>
cnd x6 (
(O.proj 1 x1).bind fun x7 =>
(O.proj 1 x0).bind fun x8 =>
(O.lt x7 x8).bind fun x9 =>
(cnd x9 (some (.bool true)) (
(O.proj 2 x0).bind fun x10 =>
(O.gt x7 x10).bind fun x11 =>
some x11)).bind fun x10 =>
cnd x10 (
calls (W F17 0 [x2, (.int 5)]) 1 fun x11 =>
some [x11]) (
some [(.list [])])) (
(O.eq x4 (.int 3)).bind fun x7 =>
cnd x7 (
(O.proj 2 x1).bind fun x8 =>
(O.slen x8).bind fun x9 =>
(O.proj 1 x0).bind fun x10 =>
(O.lt x9 x10).bind fun x11 =>
(cnd x11 (some (.bool true)) (
(O.proj 2 x0).bind fun x12 =>
(O.gt x9 x12).bind fun x13 =>
some x13)).bind fun x12 =>
cnd x12 (
calls (W F17 0 [x2, (.int 5)]) 1 fun x13 =>
some [x13]) (
W F16 1 [x2, (.int 0), x0, x1])) (
(O.eq x4 (.int 4)).bind fun x8 =>
cnd x8 (
calls (W F26 0 [x0, x1, x2]) 1 fun x9 =>
some [x9]) (
(O.eq x4 (.int 5)).bind fun x9 =>
cnd x9 (
calls (W F32 0 [x0, x1, x2]) 1 fun x10 =>
some [x10]) (
some [(.list [])]))))) := V_is rfl (by kernel_rfl)
theorem e_F16_1 (x0 x1 x2 x3 : IV) : W F16 1 [x0, x1, x2, x3] =
(O.proj 3 x2).bind fun x4 =>
(O.len x4).bind fun x5 =>
(O.lt x1 x5).bind fun x6 =>
cnd x6 (
(O.index x4 x1).bind fun x7 =>
(O.proj 2 x3).bind fun x8 =>
(O.sEq x7 x8).bind fun x9 =>
cnd x9 (
some [(.list [])]) (
(O.add .i64 x1 (.int 1)).bind fun x10 =>
W F16 1 [x0, x10, x2, x3])) (
(O.gt x5 (.int 0)).bind fun x7 =>
cnd x7 (
calls (W F17 0 [x0, (.int 1)]) 1 fun x8 =>
some [x8]) (
some [(.list [])])) := V_is rfl (by kernel_rfl)
theorem e_F17_0 (x0 x1 : IV) : W F17 0 [x0, x1] =
calls (W F18 0 [x0]) 2 fun x2 x3 =>
(O.mkagg [x2, x1]).bind fun x4 =>
(O.mklist [x4]).bind fun x5 =>
some [x5] := V_is rfl (by kernel_rfl)
theorem e_F18_0 (x0 : IV) : W F18 0 [x0] =
calls (W F19 0 [x0]) 1 fun x1 =>
(O.not x1).bind fun x2 =>
cnd x2 (
some [(.str ⟨#[]⟩), (.int 1)]) (
W F18 1 [x0, (.str ⟨#[]⟩), (.int 0)]) := V_is rfl (by kernel_rfl)
theorem e_F18_1 (x0 x1 x2 : IV) : W F18 1 [x0, x1, x2] =
(O.len x0).bind fun x3 =>
(O.lt x2 x3).bind fun x4 =>
cnd x4 (
(O.index x0 x2).bind fun x5 =>
(O.proj 0 x5).bind fun x6 =>
(O.eq x6 (.int 2)).bind fun x7 =>
cnd x7 (
(O.cat x1 (.str ⟨#[91]⟩)).bind fun x8 =>
(O.proj 2 x5).bind fun x9 =>
calls (W F24 0 [x9]) 1 fun x10 =>
(O.cat x8 x10).bind fun x11 =>
(O.cat x11 (.str ⟨#[93]⟩)).bind fun x12 =>
W F18 2 [x0, x12, x2]) (
(O.eq x6 (.int 3)).bind fun x8 =>
cnd x8 (
(O.cat x1 (.str ⟨#[91]⟩)).bind fun x9 =>
(O.proj 1 x5).bind fun x10 =>
(O.cat x9 x10).bind fun x11 =>
(O.cat x11 (.str ⟨#[61]⟩)).bind fun x12 =>
(O.proj 3 x5).bind fun x13 =>
calls (W F25 0 [x13]) 1 fun x14 =>
(O.cat x12 x14).bind fun x15 =>
(O.cat x15 (.str ⟨#[93]⟩)).bind fun x16 =>
W F18 2 [x0, x16, x2]) (
(O.gt x2 (.int 0)).bind fun x9 =>
cnd x9 (
(O.cat x1 (.str ⟨#[46]⟩)).bind fun x10 =>
(O.proj 1 x5).bind fun x11 =>
(O.cat x10 x11).bind fun x12 =>
W F18 2 [x0, x12, x2]) (
(O.proj 1 x5).bind fun x10 =>
W F18 2 [x0, x10, x2])))) (
some [x1, (.int 0)]) := V_is rfl (by kernel_rfl)
theorem e_F18_2 (x0 x1 x2 : IV) : W F18 2 [x0, x1, x2] =
(O.add .i64 x2 (.int 1)).bind fun x3 =>
W F18 1 [x0, x1, x3] := V_is rfl (by kernel_rfl)
theorem e_F19_0 (x0 : IV) : W F19 0 [x0] =
W F19 1 [x0, (.int 0)] := V_is rfl (by kernel_rfl)
theorem e_F19_1 (x0 x1 : IV) : W F19 1 [x0, x1] =
(O.len x0).bind fun x2 =>
(O.lt x1 x2).bind fun x3 =>
cnd x3 (
(O.index x0 x1).bind fun x4 =>
calls (W F20 0 [x4]) 1 fun x5 =>
(O.not x5).bind fun x6 =>
cnd x6 (
some [(.bool false)]) (
(O.add .i64 x1 (.int 1)).bind fun x7 =>
W F19 1 [x0, x7])) (
(O.le x2 (.int 16)).bind fun x4 =>
some [x4]) := V_is rfl (by kernel_rfl)
theorem e_F20_0 (x0 : IV) : W F20 0 [x0] =
(O.proj 0 x0).bind fun x1 =>
(O.eq x1 (.int 1)).bind fun x2 =>
cnd x2 (
(O.proj 1 x0).bind fun x3 =>
calls (W F21 0 [x3]) 1 fun x4 =>
(cnd x4 (
(O.proj 2 x0).bind fun x5 =>
(O.eq x5 (.int 0)).bind fun x6 =>
some x6) (some (.bool false))).bind fun x5 =>
(cnd x5 (
(O.proj 3 x0).bind fun x6 =>
(O.sEq x6 (.str ⟨#[]⟩)).bind fun x7 =>
some x7) (some (.bool false))).bind fun x6 =>
some [x6]) (
(O.eq x1 (.int 2)).bind fun x3 =>
cnd x3 (
(O.proj 2 x0).bind fun x4 =>
(O.ge x4 (.int 0)).bind fun x5 =>
(cnd x5 (
(O.le x4 (.int 64)).bind fun x6 =>
some x6) (some (.bool false))).bind fun x6 =>
(cnd x6 (
(O.proj 1 x0).bind fun x7 =>
(O.sEq x7 (.str ⟨#[]⟩)).bind fun x8 =>
some x8) (some (.bool false))).bind fun x7 =>
(cnd x7 (
(O.proj 3 x0).bind fun x8 =>
(O.sEq x8 (.str ⟨#[]⟩)).bind fun x9 =>
some x9) (some (.bool false))).bind fun x8 =>
some [x8]) (
(O.eq x1 (.int 3)).bind fun x4 =>
(cnd x4 (
(O.proj 1 x0).bind fun x5 =>
calls (W F21 0 [x5]) 1 fun x6 =>
some x6) (some (.bool false))).bind fun x5 =>
(cnd x5 (
(O.proj 3 x0).bind fun x6 =>
calls (W F23 0 [x6]) 1 fun x7 =>
some x7) (some (.bool false))).bind fun x6 =>
(cnd x6 (
(O.proj 2 x0).bind fun x7 =>
(O.eq x7 (.int 0)).bind fun x8 =>
some x8) (some (.bool false))).bind fun x7 =>
some [x7])) := V_is rfl (by kernel_rfl)
theorem e_F21_0 (x0 : IV) : W F21 0 [x0] =
W F21 1 [x0, (.int 0)] := V_is rfl (by kernel_rfl)
theorem e_F21_1 (x0 x1 : IV) : W F21 1 [x0, x1] =
(O.slen x0).bind fun x2 =>
(O.lt x1 x2).bind fun x3 =>
cnd x3 (
(O.sindex x0 x1).bind fun x4 =>
calls (W F22 0 [x4]) 1 fun x5 =>
(O.not x5).bind fun x6 =>
cnd x6 (
some [(.bool false)]) (
(O.add .i64 x1 (.int 1)).bind fun x7 =>
W F21 1 [x0, x7])) (
(O.gt x2 (.int 0)).bind fun x4 =>
(cnd x4 (
(O.le x2 (.int 40)).bind fun x5 =>
some x5) (some (.bool false))).bind fun x5 =>
some [x5]) := V_is rfl (by kernel_rfl)
theorem e_F22_0 (x0 : IV) : W F22 0 [x0] =
(O.ge x0 (.int 97)).bind fun x1 =>
(cnd x1 (
(O.le x0 (.int 122)).bind fun x2 =>
some x2) (some (.bool false))).bind fun x2 =>
(cnd x2 (some (.bool true)) (
(O.ge x0 (.int 65)).bind fun x3 =>
(cnd x3 (
(O.le x0 (.int 90)).bind fun x4 =>
some x4) (some (.bool false))).bind fun x4 =>
some x4)).bind fun x3 =>
(cnd x3 (some (.bool true)) (
(O.ge x0 (.int 48)).bind fun x4 =>
(cnd x4 (
(O.le x0 (.int 57)).bind fun x5 =>
some x5) (some (.bool false))).bind fun x5 =>
some x5)).bind fun x4 =>
(cnd x4 (some (.bool true)) (
(O.eq x0 (.int 45)).bind fun x5 =>
some x5)).bind fun x5 =>
(cnd x5 (some (.bool true)) (
(O.eq x0 (.int 95)).bind fun x6 =>
some x6)).bind fun x6 =>
(cnd x6 (some (.bool true)) (
(O.eq x0 (.int 47)).bind fun x7 =>
some x7)).bind fun x7 =>
some [x7] := V_is rfl (by kernel_rfl)
theorem e_F23_0 (x0 : IV) : W F23 0 [x0] =
W F23 1 [x0, (.int 0)] := V_is rfl (by kernel_rfl)
theorem e_F23_1 (x0 x1 : IV) : W F23 1 [x0, x1] =
(O.slen x0).bind fun x2 =>
(O.lt x1 x2).bind fun x3 =>
cnd x3 (
(O.sindex x0 x1).bind fun x4 =>
(O.ne x4 (.int 10)).bind fun x5 =>
(cnd x5 (
(O.lt x4 (.int 32)).bind fun x6 =>
(cnd x6 (some (.bool true)) (
(O.gt x4 (.int 126)).bind fun x7 =>
some x7)).bind fun x7 =>
some x7) (some (.bool false))).bind fun x6 =>
cnd x6 (
some [(.bool false)]) (
(O.add .i64 x1 (.int 1)).bind fun x7 =>
W F23 1 [x0, x7])) (
(O.le x2 (.int 200)).bind fun x4 =>
some [x4]) := V_is rfl (by kernel_rfl)
theorem e_F24_0 (x0 : IV) : W F24 0 [x0] =
(O.lt x0 (.int 10)).bind fun x1 =>
cnd x1 (
(O.add .i64 x0 (.int 1)).bind fun x2 =>
(O.sslice (.str ⟨#[48, 49, 50, 51, 52, 53, 54, 55, 56, 57]⟩) x0 x2).bind fun x3 =>
some [x3]) (
(O.quo .i64 x0 (.int 10)).bind fun x2 =>
(O.quo .i64 x0 (.int 10)).bind fun x3 =>
(O.add .i64 x3 (.int 1)).bind fun x4 =>
(O.sslice (.str ⟨#[48, 49, 50, 51, 52, 53, 54, 55, 56, 57]⟩) x2 x4).bind fun x5 =>
(O.rem .i64 x0 (.int 10)).bind fun x6 =>
(O.rem .i64 x0 (.int 10)).bind fun x7 =>
(O.add .i64 x7 (.int 1)).bind fun x8 =>
(O.sslice (.str ⟨#[48, 49, 50, 51, 52, 53, 54, 55, 56, 57]⟩) x6 x8).bind fun x9 =>
(O.cat x5 x9).bind fun x10 =>
some [x10]) := V_is rfl (by kernel_rfl)
theorem e_F25_0 (x0 : IV) : W F25 0 [x0] =
W F25 1 [x0, (.str ⟨#[34]⟩), (.int 0)] := V_is rfl (by kernel_rfl)
theorem e_F25_1 (x0 x1 x2 : IV) : W F25 1 [x0, x1, x2] =
(O.slen x0).bind fun x3 =>
(O.lt x2 x3).bind fun x4 =>
cnd x4 (
(O.sindex x0 x2).bind fun x5 =>
(O.eq x5 (.int 10)).bind fun x6 =>
cnd x6 (
(O.cat x1 (.str ⟨#[92, 110]⟩)).bind fun x7 =>
W F25 2 [x0, x7, x2]) (
(O.eq x5 (.int 34)).bind fun x7 =>
(cnd x7 (some (.bool true)) (
(O.eq x5 (.int 92)).bind fun x8 =>
some x8)).bind fun x8 =>
cnd x8 (
(O.cat x1 (.str ⟨#[92]⟩)).bind fun x9 =>
(O.add .i64 x2 (.int 1)).bind fun x10 =>
(O.sslice x0 x2 x10).bind fun x11 =>
(O.cat x9 x11).bind fun x12 =>
W F25 2 [x0, x12, x2]) (
(O.add .i64 x2 (.int 1)).bind fun x9 =>
(O.sslice x0 x2 x9).bind fun x10 =>
(O.cat x1 x10).bind fun x11 =>
W F25 2 [x0, x11, x2]))) (
(O.cat x1 (.str ⟨#[34]⟩)).bind fun x5 =>
some [x5]) := V_is rfl (by kernel_rfl)
theorem e_F25_2 (x0 x1 x2 : IV) : W F25 2 [x0, x1, x2] =
(O.add .i64 x2 (.int 1)).bind fun x3 =>
W F25 1 [x0, x1, x3] := V_is rfl (by kernel_rfl)
theorem e_F26_0 (x0 x1 x2 : IV) : W F26 0 [x0, x1, x2] =
(O.proj 3 x1).bind fun x3 =>
(O.len x3).bind fun x4 =>
(O.proj 1 x0).bind fun x5 =>
(O.lt x4 x5).bind fun x6 =>
(cnd x6 (some (.bool true)) (
(O.proj 2 x0).bind fun x7 =>
(O.gt x4 x7).bind fun x8 =>
some x8)).bind fun x7 =>
cnd x7 (
calls (W F17 0 [x2, (.int 5)]) 1 fun x8 =>
(O.append 24 (.list []) x8).bind fun x9 =>
W F26 1 [x2, x0, x1, x9]) (
W F26 1 [x2, x0, x1, (.list [])]) := V_is rfl (by kernel_rfl)
theorem e_F26_1 (x0 x1 x2 x3 : IV) : W F26 1 [x0, x1, x2, x3] =
W F26 2 [x0, (.int 0), x1, x2, x3] := V_is rfl (by kernel_rfl)
theorem e_F26_2 (x0 x1 x2 x3 x4 : IV) : W F26 2 [x0, x1, x2, x3, x4] =
(O.proj 3 x3).bind fun x5 =>
(O.len x5).bind fun x6 =>
(O.lt x1 x6).bind fun x7 =>
cnd x7 (
calls (W F27 0 [x2, x5, x1]) 1 fun x8 =>
calls (W F31 0 [x0, x8]) 1 fun x9 =>
(O.proj 5 x2).bind fun x10 =>
(O.index x10 (.int 0)).bind fun x11 =>
(O.index x5 x1).bind fun x12 =>
calls (W F16 0 [x11, x12, x9]) 1 fun x13 =>
(O.append 24 x4 x13).bind fun x14 =>
(O.proj 4 x2).bind fun x15 =>
calls (W F28 0 [x12, x15]) 2 fun x16 x17 =>
W F26 3 [x0, x1, x16, x17, (.bool false), (.int 0), x2, x3, x14, x9]) (
some [x4]) := V_is rfl (by kernel_rfl)
theorem e_F26_3 (x0 x1 x2 x3 x4 x5 x6 x7 x8 x9 : IV) : W F26 3 [x0, x1, x2, x3, x4, x5, x6, x7, x8, x9] =
(O.lt x5 x1).bind fun x10 =>
(O.pick x10 x3 (.bool false)).bind fun x11 =>
cnd x11 (
(O.proj 3 x7).bind fun x12 =>
(O.index x12 x5).bind fun x13 =>
(O.proj 4 x6).bind fun x14 =>
calls (W F28 0 [x13, x14]) 2 fun x15 x16 =>
(cnd x4 (some (.bool true)) (
(cnd x16 (
(O.sEq x15 x2).bind fun x17 =>
some x17) (some (.bool false))).bind fun x17 =>
some x17)).bind fun x17 =>
(O.add .i64 x5 (.int 1)).bind fun x18 =>
W F26 3 [x0, x1, x2, x3, x17, x18, x6, x7, x8, x9]) (
cnd x4 (
calls (W F17 0 [x9, (.int 8)]) 1 fun x12 =>
(O.append 24 x8 x12).bind fun x13 =>
W F26 4 [x0, x1, x6, x7, x13]) (
W F26 4 [x0, x1, x6, x7, x8])) := V_is rfl (by kernel_rfl)
theorem e_F26_4 (x0 x1 x2 x3 x4 : IV) : W F26 4 [x0, x1, x2, x3, x4] =
(O.add .i64 x1 (.int 1)).bind fun x5 =>
W F26 2 [x0, x5, x2, x3, x4] := V_is rfl (by kernel_rfl)
theorem e_F27_0 (x0 x1 x2 : IV) : W F27 0 [x0, x1, x2] =
(O.index x1 x2).bind fun x3 =>
(O.proj 4 x0).bind fun x4 =>
calls (W F28 0 [x3, x4]) 2 fun x5 x6 =>
cnd x6 (
(O.mkagg [(.int 3), x4, (.int 0), x5]).bind fun x7 =>
some [x7]) (
(O.mkagg [(.int 2), (.str ⟨#[]⟩), x2, (.str ⟨#[]⟩)]).bind fun x7 =>
some [x7]) := V_is rfl (by kernel_rfl)
theorem e_F28_0 (x0 x1 : IV) : W F28 0 [x0, x1] =
calls (W F29 0 [x0, x1]) 6 fun x2 x3 x4 x5 x6 x7 =>
(cnd x7 (
(O.sNe x1 (.str ⟨#[]⟩)).bind fun x8 =>
some x8) (some (.bool false))).bind fun x8 =>
(cnd x8 (
(O.eq x2 (.int 3)).bind fun x9 =>
some x9) (some (.bool false))).bind fun x9 =>
some [x4, x9] := V_is rfl (by kernel_rfl)
theorem e_F29_0 (x0 x1 : IV) : W F29 0 [x0, x1] =
(O.proj 0 x0).bind fun x2 =>
(O.eq x2 (.int 5)).bind fun x3 =>
cnd x3 (
W F29 1 [x1, (.int 0), x0, (.int 0), (.int 0), (.str ⟨#[]⟩)]) (
some [(.int 0), (.int 0), (.str ⟨#[]⟩), (.list []), (.list []), (.bool false)]) := V_is rfl (by kernel_rfl)
theorem e_F29_1 (x0 x1 x2 x3 x4 x5 : IV) : W F29 1 [x0, x1, x2, x3, x4, x5] =
(O.proj 4 x2).bind fun x6 =>
(O.len x6).bind fun x7 =>
(O.lt x1 x7).bind fun x8 =>
cnd x8 (
(O.index x6 x1).bind fun x9 =>
(O.proj 0 x9).bind fun x10 =>
(O.sEq x10 x0).bind fun x11 =>
cnd x11 (
(O.projs 1 5 x9).bind fun x12 =>
calls (W F30 0 [x12]) 5 fun x13 x14 x15 x16 x17 =>
some [x13, x14, x15, x16, x17, (.bool true)]) (
(O.add .i64 x1 (.int 1)).bind fun x12 =>
W F29 1 [x0, x12, x2, x3, x4, x5])) (
some [(.int 0), (.int 0), (.str ⟨#[]⟩), (.list []), (.list []), (.bool false)]) := V_is rfl (by kernel_rfl)
theorem e_F30_0 (x0 : IV) : W F30 0 [x0] =
(O.proj 0 x0).bind fun x1 =>
(O.proj 1 x0).bind fun x2 =>
(O.proj 2 x0).bind fun x3 =>
W F30 1 [(.int 0), x0, (.int 0), (.int 0), (.str ⟨#[]⟩), x1, x2, x3, (.list [])] := V_is rfl (by kernel_rfl)
theorem e_F30_1 (x0 x1 x2 x3 x4 x5 x6 x7 x8 : IV) : W F30 1 [x0, x1, x2, x3, x4, x5, x6, x7, x8] =
(O.proj 3 x1).bind fun x9 =>
(O.len x9).bind fun x10 =>
(O.lt x0 x10).bind fun x11 =>
cnd x11 (
(O.index x9 x0).bind fun x12 =>
calls (W F30 0 [x12]) 5 fun x13 x14 x15 x16 x17 =>
(O.mkagg [x13, x14, x15, x16, x17]).bind fun x18 =>
(O.mklist [x18]).bind fun x19 =>
(O.append 80 x8 x19).bind fun x20 =>
(O.add .i64 x0 (.int 1)).bind fun x21 =>
W F30 1 [x21, x1, x2, x3, x4, x5, x6, x7, x20]) (
W F30 2 [(.int 0), x1, x2, x3, x4, x5, x6, x7, x8, (.list [])]) := V_is rfl (by kernel_rfl)
theorem e_F30_2 (x0 x1 x2 x3 x4 x5 x6 x7 x8 x9 : IV) : W F30 2 [x0, x1, x2, x3, x4, x5, x6, x7, x8, x9] =
(O.proj 4 x1).bind fun x10 =>
(O.len x10).bind fun x11 =>
(O.lt x0 x11).bind fun x12 =>
cnd x12 (
(O.index x10 x0).bind fun x13 =>
(O.proj 0 x13).bind fun x14 =>
(O.projs 1 5 x13).bind fun x15 =>
calls (W F30 0 [x15]) 5 fun x16 x17 x18 x19 x20 =>
(O.mkagg [x14, x16, x17, x18, x19, x20]).bind fun x21 =>
(O.mklist [x21]).bind fun x22 =>
(O.append 96 x9 x22).bind fun x23 =>
(O.add .i64 x0 (.int 1)).bind fun x24 =>
W F30 2 [x24, x1, x2, x3, x4, x5, x6, x7, x8, x23]) (
some [x5, x6, x7, x8, x9]) := V_is rfl (by kernel_rfl)
theorem e_F31_0 (x0 x1 : IV) : W F31 0 [x0, x1] =
(O.mklist []).bind fun x2 =>
(O.append 48 x2 x0).bind fun x3 =>
(O.mklist [x1]).bind fun x4 =>
(O.append 48 x3 x4).bind fun x5 =>
some [x5] := V_is rfl (by kernel_rfl)
theorem e_F32_0 (x0 x1 x2 : IV) : W F32 0 [x0, x1, x2] =
W F32 1 [x2, (.int 0), x0, x1, (.list [])] := V_is rfl (by kernel_rfl)
theorem e_F32_1 (x0 x1 x2 x3 x4 : IV) : W F32 1 [x0, x1, x2, x3, x4] =
(O.proj 4 x3).bind fun x5 =>
(O.len x5).bind fun x6 =>
(O.lt x1 x6).bind fun x7 =>
cnd x7 (
(O.index x5 x1).bind fun x8 =>
(O.proj 0 x8).bind fun x9 =>
(O.mkagg [(.int 1), x9, (.int 0), (.str ⟨#[]⟩)]).bind fun x10 =>
calls (W F31 0 [x0, x10]) 1 fun x11 =>
calls (W F9 0 [x2, x9]) 2 fun x12 x13 =>
(O.proj 5 x2).bind fun x14 =>
(O.len x14).bind fun x15 =>
(O.eq x15 (.int 0)).bind fun x16 =>
(cnd x16 (
(O.not x13).bind fun x17 =>
some x17) (some (.bool false))).bind fun x17 =>
cnd x17 (
calls (W F17 0 [x11, (.int 1)]) 1 fun x18 =>
(O.append 24 x4 x18).bind fun x19 =>
W F32 2 [x0, x1, x2, x3, x19]) (
(O.proj 1 x8).bind fun x18 =>
(O.ne x18 (.int 0)).bind fun x19 =>
(cnd x19 (
(O.eq x15 (.int 1)).bind fun x20 =>
some x20) (some (.bool false))).bind fun x20 =>
cnd x20 (
(O.index x14 (.int 0)).bind fun x21 =>
(O.projs 1 5 x8).bind fun x22 =>
calls (W F16 0 [x21, x22, x11]) 1 fun x23 =>
(O.append 24 x4 x23).bind fun x24 =>
W F32 2 [x0, x1, x2, x3, x24]) (
(O.ne x18 (.int 0)).bind fun x21 =>
cnd x21 (
(O.projs 4 7 x12).bind fun x22 =>
(O.projs 1 5 x8).bind fun x23 =>
calls (W F16 0 [x22, x23, x11]) 1 fun x24 =>
(O.append 24 x4 x24).bind fun x25 =>
W F32 2 [x0, x1, x2, x3, x25]) (
W F32 2 [x0, x1, x2, x3, x4])))) (
W F32 3 [x0, (.int 0), x2, x3, x4]) := V_is rfl (by kernel_rfl)
theorem e_F32_2 (x0 x1 x2 x3 x4 : IV) : W F32 2 [x0, x1, x2, x3, x4] =
(O.add .i64 x1 (.int 1)).bind fun x5 =>
W F32 1 [x0, x5, x2, x3, x4] := V_is rfl (by kernel_rfl)
theorem e_F32_3 (x0 x1 x2 x3 x4 : IV) : W F32 3 [x0, x1, x2, x3, x4] =
(O.proj 6 x2).bind fun x5 =>
(O.len x5).bind fun x6 =>
(O.lt x1 x6).bind fun x7 =>
cnd x7 (
(O.index x5 x1).bind fun x8 =>
(O.proj 0 x8).bind fun x9 =>
calls (W F33 0 [x3, x9]) 6 fun x10 x11 x12 x13 x14 x15 =>
(O.proj 1 x8).bind fun x16 =>
(cnd x16 (
(O.not x15).bind fun x17 =>
some x17) (some (.bool false))).bind fun x17 =>
cnd x17 (
(O.mkagg [(.int 1), x9, (.int 0), (.str ⟨#[]⟩)]).bind fun x18 =>
calls (W F31 0 [x0, x18]) 1 fun x19 =>
calls (W F17 0 [x19, (.int 7)]) 1 fun x20 =>
(O.append 24 x4 x20).bind fun x21 =>
W F32 4 [x0, x1, x2, x3, x21]) (
W F32 4 [x0, x1, x2, x3, x4])) (
some [x4]) := V_is rfl (by kernel_rfl)
theorem e_F32_4 (x0 x1 x2 x3 x4 : IV) : W F32 4 [x0, x1, x2, x3, x4] =
(O.add .i64 x1 (.int 1)).bind fun x5 =>
W F32 3 [x0, x5, x2, x3, x4] := V_is rfl (by kernel_rfl)
theorem e_F33_0 (x0 x1 : IV) : W F33 0 [x0, x1] =
calls (W F29 0 [x0, x1]) 6 fun x2 x3 x4 x5 x6 x7 =>
(O.not x7).bind fun x8 =>
(cnd x8 (some (.bool true)) (
(O.eq x2 (.int 0)).bind fun x9 =>
some x9)).bind fun x9 =>
cnd x9 (
some [(.int 0), (.int 0), (.str ⟨#[]⟩), (.list []), (.list []), (.bool false)]) (
some [x2, x3, x4, x5, x6, (.bool true)]) := V_is rfl (by kernel_rfl)
theorem e_F34_0 (x0 x1 : IV) : W F34 0 [x0, x1] =
calls (W F35 0 [x0, x1, x1]) 1 fun x2 =>
(O.ge x2 (.int 0)).bind fun x3 =>
some [x3] := V_is rfl (by kernel_rfl)
theorem e_F35_0 (x0 x1 x2 : IV) : W F35 0 [x0, x1, x2] =
(O.le x1 (.int 0)).bind fun x3 =>
(cnd x3 (some (.bool true)) (
(O.le x2 (.int 0)).bind fun x4 =>
some x4)).bind fun x4 =>
(cnd x4 (some (.bool true)) (
(O.proj 2 x0).bind fun x5 =>
(O.slen x5).bind fun x6 =>
(O.gt x6 (.int 1000)).bind fun x7 =>
some x7)).bind fun x5 =>
cnd x5 (
some [(.int (-1))]) (
(O.sub .i64 x1 (.int 1)).bind fun x6 =>
W F35 1 [x6, x2, (.int 0), x0]) := V_is rfl (by kernel_rfl)
theorem e_F35_1 (x0 x1 x2 x3 : IV) : W F35 1 [x0, x1, x2, x3] =
(O.proj 3 x3).bind fun x4 =>
(O.len x4).bind fun x5 =>
(O.lt x2 x5).bind fun x6 =>
(cnd x6 (
(O.ge x0 (.int 0)).bind fun x7 =>
some x7) (some (.bool false))).bind fun x7 =>
cnd x7 (
(O.index x4 x2).bind fun x8 =>
(O.sub .i64 x1 (.int 1)).bind fun x9 =>
calls (W F35 0 [x8, x0, x9]) 1 fun x10 =>
(O.add .i64 x2 (.int 1)).bind fun x11 =>
W F35 1 [x10, x1, x11, x3]) (
W F35 2 [x0, x1, (.int 0), x3]) := V_is rfl (by kernel_rfl)
theorem e_F35_2 (x0 x1 x2 x3 : IV) : W F35 2 [x0, x1, x2, x3] =
(O.proj 4 x3).bind fun x4 =>
(O.len x4).bind fun x5 =>
(O.lt x2 x5).bind fun x6 =>
(cnd x6 (
(O.ge x0 (.int 0)).bind fun x7 =>
some x7) (some (.bool false))).bind fun x7 =>
cnd x7 (
(O.index x4 x2).bind fun x8 =>
(O.proj 0 x8).bind fun x9 =>
(O.slen x9).bind fun x10 =>
(O.gt x10 (.int 1000)).bind fun x11 =>
cnd x11 (
some [(.int (-1))]) (
(O.projs 1 5 x8).bind fun x12 =>
(O.sub .i64 x1 (.int 1)).bind fun x13 =>
calls (W F35 0 [x12, x0, x13]) 1 fun x14 =>
(O.add .i64 x2 (.int 1)).bind fun x15 =>
W F35 2 [x14, x1, x15, x3])) (
some [x0]) := V_is rfl (by kernel_rfl)
theorem e_F36_0 (x0 x1 : IV) : W F36 0 [x0, x1] =
calls (W F37 0 [x0]) 1 fun x2 =>
(O.not x2).bind fun x3 =>
(cnd x3 (some (.bool true)) (
calls (W F42 0 [x1]) 1 fun x4 =>
(O.not x4).bind fun x5 =>
some x5)).bind fun x4 =>
cnd x4 (
(O.mkagg [(.str ⟨#[]⟩), (.int 1)]).bind fun x5 =>
(O.mklist [x5]).bind fun x6 =>
some [x6]) (
calls (W F71 0 [x0, x1]) 1 fun x5 =>
some [x5]) := V_is rfl (by kernel_rfl)
theorem e_F37_0 (x0 : IV) : W F37 0 [x0] =
calls (W F38 0 [x0, (.int 12)]) 1 fun x1 =>
some [x1] := V_is rfl (by kernel_rfl)
theorem e_F38_0 (x0 x1 : IV) : W F38 0 [x0, x1] =
(O.eq x1 (.int 0)).bind fun x2 =>
(cnd x2 (some (.bool true)) (
(O.proj 0 x0).bind fun x3 =>
(O.ne x3 (.int 3)).bind fun x4 =>
(cnd x4 (
(O.proj 3 x0).bind fun x5 =>
(O.len x5).bind fun x6 =>
(O.gt x6 (.int 0)).bind fun x7 =>
some x7) (some (.bool false))).bind fun x5 =>
some x5)).bind fun x3 =>
(cnd x3 (some (.bool true)) (
(O.proj 0 x0).bind fun x4 =>
(O.ne x4 (.int 4)).bind fun x5 =>
(cnd x5 (
(O.proj 4 x0).bind fun x6 =>
(O.sNe x6 (.str ⟨#[]⟩)).bind fun x7 =>
some x7) (some (.bool false))).bind fun x6 =>
some x6)).bind fun x4 =>
(cnd x4 (some (.bool true)) (
(O.proj 0 x0).bind fun x5 =>
(O.ne x5 (.int 5)).bind fun x6 =>
(cnd x6 (
(O.proj 6 x0).bind fun x7 =>
(O.len x7).bind fun x8 =>
(O.gt x8 (.int 0)).bind fun x9 =>
some x9) (some (.bool false))).bind fun x7 =>
some x7)).bind fun x5 =>
(cnd x5 (some (.bool true)) (
(O.proj 0 x0).bind fun x6 =>
(O.ne x6 (.int 5)).bind fun x7 =>
(cnd x7 (
(O.ne x6 (.int 4)).bind fun x8 =>
some x8) (some (.bool false))).bind fun x8 =>
(cnd x8 (
(O.proj 5 x0).bind fun x9 =>
(O.len x9).bind fun x10 =>
(O.gt x10 (.int 0)).bind fun x11 =>
some x11) (some (.bool false))).bind fun x9 =>
some x9)).bind fun x6 =>
cnd x6 (
some [(.bool false)]) (
(O.proj 0 x0).bind fun x7 =>
(O.eq x7 (.int 1)).bind fun x8 =>
cnd x8 (
(O.proj 1 x0).bind fun x9 =>
(O.eq x9 (.int 0)).bind fun x10 =>
(cnd x10 (
(O.proj 2 x0).bind fun x11 =>
(O.eq x11 (.int 0)).bind fun x12 =>
some x12) (some (.bool false))).bind fun x11 =>
some [x11]) (
(O.eq x7 (.int 2)).bind fun x9 =>
cnd x9 (
(O.proj 1 x0).bind fun x10 =>
(O.le (.int (-1000000000000000)) x10).bind fun x11 =>
(cnd x11 (
(O.proj 2 x0).bind fun x12 =>
(O.le x10 x12).bind fun x13 =>
some x13) (some (.bool false))).bind fun x12 =>
(cnd x12 (
(O.proj 2 x0).bind fun x13 =>
(O.le x13 (.int 1000000000000000)).bind fun x14 =>
some x14) (some (.bool false))).bind fun x13 =>
some [x13]) (
(O.eq x7 (.int 3)).bind fun x10 =>
cnd x10 (
calls (W F39 0 [x0, (.int 200)]) 1 fun x11 =>
(cnd x11 (
calls (W F40 0 [x0]) 1 fun x12 =>
some x12) (some (.bool false))).bind fun x12 =>
some [x12]) (
(O.eq x7 (.int 4)).bind fun x11 =>
cnd x11 (
calls (W F39 0 [x0, (.int 64)]) 1 fun x12 =>
(cnd x12 (
(O.proj 5 x0).bind fun x13 =>
(O.len x13).bind fun x14 =>
(O.eq x14 (.int 1)).bind fun x15 =>
some x15) (some (.bool false))).bind fun x13 =>
(cnd x13 (
(O.proj 5 x0).bind fun x14 =>
(O.index x14 (.int 0)).bind fun x15 =>
(O.sub .i64 x1 (.int 1)).bind fun x16 =>
calls (W F38 0 [x15, x16]) 1 fun x17 =>
some x17) (some (.bool false))).bind fun x14 =>
(cnd x14 (
calls (W F48 0 [x0]) 1 fun x15 =>
some x15) (some (.bool false))).bind fun x15 =>
some [x15]) (
(O.eq x7 (.int 5)).bind fun x12 =>
cnd x12 (
(O.proj 1 x0).bind fun x13 =>
(O.ne x13 (.int 0)).bind fun x14 =>
(cnd x14 (some (.bool true)) (
(O.proj 2 x0).bind fun x15 =>
(O.ne x15 (.int 0)).bind fun x16 =>
some x16)).bind fun x15 =>
(cnd x15 (some (.bool true)) (
(O.proj 5 x0).bind fun x16 =>
(O.len x16).bind fun x17 =>
(O.gt x17 (.int 1)).bind fun x18 =>
some x18)).bind fun x16 =>
(cnd x16 (some (.bool true)) (
(O.proj 5 x0).bind fun x17 =>
(O.len x17).bind fun x18 =>
(O.eq x18 (.int 1)).bind fun x19 =>
(cnd x19 (
(O.proj 6 x0).bind fun x20 =>
(O.len x20).bind fun x21 =>
(O.gt x21 (.int 0)).bind fun x22 =>
some x22) (some (.bool false))).bind fun x20 =>
some x20)).bind fun x17 =>
(cnd x17 (some (.bool true)) (
(O.proj 6 x0).bind fun x18 =>
(O.len x18).bind fun x19 =>
(O.gt x19 (.int 64)).bind fun x20 =>
some x20)).bind fun x18 =>
cnd x18 (
some [(.bool false)]) (
(O.proj 5 x0).bind fun x19 =>
calls (W F53 0 [x19, x1]) 1 fun x20 =>
(O.not x20).bind fun x21 =>
(cnd x21 (
(O.sub .i64 x1 (.int 1)).bind fun x22 =>
calls (W F56 0 [x0, x22]) 1 fun x23 =>
some x23) (some (.bool false))).bind fun x22 =>
some [x22])) (
some [(.bool false)])))))) := V_is rfl (by kernel_rfl)
theorem e_F39_0 (x0 x1 : IV) : W F39 0 [x0, x1] =
(O.proj 1 x0).bind fun x2 =>
(O.le (.int 0) x2).bind fun x3 =>
(cnd x3 (
(O.proj 2 x0).bind fun x4 =>
(O.le x2 x4).bind fun x5 =>
some x5) (some (.bool false))).bind fun x4 =>
(cnd x4 (
(O.proj 2 x0).bind fun x5 =>
(O.le x5 x1).bind fun x6 =>
some x6) (some (.bool false))).bind fun x5 =>
some [x5] := V_is rfl (by kernel_rfl)
theorem e_F40_0 (x0 : IV) : W F40 0 [x0] =
(O.proj 3 x0).bind fun x1 =>
(O.len x1).bind fun x2 =>
W F40 1 [x1, x2, (.int 0), x0] := V_is rfl (by kernel_rfl)
theorem e_F40_1 (x0 x1 x2 x3 : IV) : W F40 1 [x0, x1, x2, x3] =
(O.lt x2 x1).bind fun x4 =>
cnd x4 (
(O.index x0 x2).bind fun x5 =>
(O.slen x5).bind fun x6 =>
(O.proj 1 x3).bind fun x7 =>
(O.lt x6 x7).bind fun x8 =>
(cnd x8 (some (.bool true)) (
(O.proj 2 x3).bind fun x9 =>
(O.gt x6 x9).bind fun x10 =>
some x10)).bind fun x9 =>
(cnd x9 (some (.bool true)) (
(O.gt x2 (.int 0)).bind fun x10 =>
(cnd x10 (
(O.proj 3 x3).bind fun x11 =>
(O.sub .i64 x2 (.int 1)).bind fun x12 =>
(O.index x11 x12).bind fun x13 =>
(O.sGe x13 x5).bind fun x14 =>
some x14) (some (.bool false))).bind fun x11 =>
some x11)).bind fun x10 =>
(cnd x10 (some (.bool true)) (
calls (W F41 0 [x5]) 5 fun x11 x12 x13 x14 x15 =>
(O.mkagg [x11, x12, x13, x14, x15]).bind fun x16 =>
calls (W F42 0 [x16]) 1 fun x17 =>
(O.not x17).bind fun x18 =>
some x18)).bind fun x11 =>
cnd x11 (
some [(.bool false)]) (
(O.add .i64 x2 (.int 1)).bind fun x12 =>
W F40 1 [x0, x1, x12, x3])) (
(O.proj 3 x3).bind fun x5 =>
(O.len x5).bind fun x6 =>
(O.le x6 (.int 64)).bind fun x7 =>
some [x7]) := V_is rfl (by kernel_rfl)
theorem e_F41_0 (x0 : IV) : W F41 0 [x0] =
some [(.int 3), (.int 0), x0, (.list []), (.list [])] := V_is rfl (by kernel_rfl)
theorem e_F42_0 (x0 : IV) : W F42 0 [x0] =
calls (W F43 0 [x0, (.int 12)]) 1 fun x1 =>
(cnd x1 (
calls (W F47 0 [x0]) 1 fun x2 =>
(O.le x2 (.int 600)).bind fun x3 =>
some x3) (some (.bool false))).bind fun x2 =>
some [x2] := V_is rfl (by kernel_rfl)
theorem e_F43_0 (x0 x1 : IV) : W F43 0 [x0, x1] =
(O.eq x1 (.int 0)).bind fun x2 =>
(cnd x2 (some (.bool true)) (
calls (W F44 0 [x0]) 1 fun x3 =>
(O.not x3).bind fun x4 =>
some x4)).bind fun x3 =>
(cnd x3 (some (.bool true)) (
(O.proj 0 x0).bind fun x4 =>
(O.ne x4 (.int 4)).bind fun x5 =>
(cnd x5 (
(O.proj 3 x0).bind fun x6 =>
(O.len x6).bind fun x7 =>
(O.gt x7 (.int 0)).bind fun x8 =>
some x8) (some (.bool false))).bind fun x6 =>
some x6)).bind fun x4 =>
(cnd x4 (some (.bool true)) (
(O.proj 0 x0).bind fun x5 =>
(O.ne x5 (.int 5)).bind fun x6 =>
(cnd x6 (
(O.proj 4 x0).bind fun x7 =>
(O.len x7).bind fun x8 =>
(O.gt x8 (.int 0)).bind fun x9 =>
some x9) (some (.bool false))).bind fun x7 =>
some x7)).bind fun x5 =>
(cnd x5 (some (.bool true)) (
(O.proj 3 x0).bind fun x6 =>
(O.len x6).bind fun x7 =>
(O.gt x7 (.int 64)).bind fun x8 =>
some x8)).bind fun x6 =>
(cnd x6 (some (.bool true)) (
(O.proj 4 x0).bind fun x7 =>
(O.len x7).bind fun x8 =>
(O.gt x8 (.int 64)).bind fun x9 =>
some x9)).bind fun x7 =>
cnd x7 (
some [(.bool false)]) (
(O.proj 3 x0).bind fun x8 =>
(O.len x8).bind fun x9 =>
W F43 1 [x1, x8, x9, (.int 0), x0]) := V_is rfl (by kernel_rfl)
theorem e_F43_1 (x0 x1 x2 x3 x4 : IV) : W F43 1 [x0, x1, x2, x3, x4] =
(O.lt x3 x2).bind fun x5 =>
cnd x5 (
(O.index x1 x3).bind fun x6 =>
(O.sub .i64 x0 (.int 1)).bind fun x7 =>
calls (W F43 0 [x6, x7]) 1 fun x8 =>
(O.not x8).bind fun x9 =>
cnd x9 (
some [(.bool false)]) (
(O.add .i64 x3 (.int 1)).bind fun x10 =>
W F43 1 [x0, x1, x2, x10, x4])) (
(O.proj 4 x4).bind fun x6 =>
(O.len x6).bind fun x7 =>
W F43 2 [x0, x6, x7, (.int 0), x4]) := V_is rfl (by kernel_rfl)
theorem e_F43_2 (x0 x1 x2 x3 x4 : IV) : W F43 2 [x0, x1, x2, x3, x4] =
(O.lt x3 x2).bind fun x5 =>
cnd x5 (
(O.index x1 x3).bind fun x6 =>
(O.proj 0 x6).bind fun x7 =>
calls (W F46 0 [x7]) 1 fun x8 =>
(O.not x8).bind fun x9 =>
(cnd x9 (some (.bool true)) (
(O.gt x3 (.int 0)).bind fun x10 =>
(cnd x10 (
(O.proj 4 x4).bind fun x11 =>
(O.sub .i64 x3 (.int 1)).bind fun x12 =>
(O.index x11 x12).bind fun x13 =>
(O.proj 0 x13).bind fun x14 =>
(O.sGe x14 x7).bind fun x15 =>
some x15) (some (.bool false))).bind fun x11 =>
some x11)).bind fun x10 =>
(cnd x10 (some (.bool true)) (
(O.projs 1 5 x6).bind fun x11 =>
(O.sub .i64 x0 (.int 1)).bind fun x12 =>
calls (W F43 0 [x11, x12]) 1 fun x13 =>
(O.not x13).bind fun x14 =>
some x14)).bind fun x11 =>
cnd x11 (
some [(.bool false)]) (
(O.add .i64 x3 (.int 1)).bind fun x12 =>
W F43 2 [x0, x1, x2, x12, x4])) (
some [(.bool true)]) := V_is rfl (by kernel_rfl)
theorem e_F44_0 (x0 : IV) : W F44 0 [x0] =
(O.proj 0 x0).bind fun x1 =>
(O.eq x1 (.int 1)).bind fun x2 =>
cnd x2 (
(O.proj 2 x0).bind fun x3 =>
(O.sEq x3 (.str ⟨#[]⟩)).bind fun x4 =>
(cnd x4 (
(O.proj 1 x0).bind fun x5 =>
(O.eq x5 (.int 0)).bind fun x6 =>
(cnd x6 (some (.bool true)) (
(O.eq x5 (.int 1)).bind fun x7 =>
some x7)).bind fun x7 =>
some x7) (some (.bool false))).bind fun x5 =>
some [x5]) (
(O.eq x1 (.int 2)).bind fun x3 =>
cnd x3 (
(O.proj 2 x0).bind fun x4 =>
(O.sEq x4 (.str ⟨#[]⟩)).bind fun x5 =>
(cnd x5 (
(O.proj 1 x0).bind fun x6 =>
(O.ge x6 (.int (-1000000000000000))).bind fun x7 =>
some x7) (some (.bool false))).bind fun x6 =>
(cnd x6 (
(O.proj 1 x0).bind fun x7 =>
(O.le x7 (.int 1000000000000000)).bind fun x8 =>
some x8) (some (.bool false))).bind fun x7 =>
some [x7]) (
(O.eq x1 (.int 3)).bind fun x4 =>
cnd x4 (
(O.proj 1 x0).bind fun x5 =>
(O.eq x5 (.int 0)).bind fun x6 =>
(cnd x6 (
(O.proj 2 x0).bind fun x7 =>
calls (W F45 0 [x7]) 1 fun x8 =>
some x8) (some (.bool false))).bind fun x7 =>
some [x7]) (
(O.eq x1 (.int 0)).bind fun x5 =>
cnd x5 (
W F44 1 [x5, x0]) (
(O.eq x1 (.int 4)).bind fun x6 =>
cnd x6 (
W F44 1 [x6, x0]) (
(O.eq x1 (.int 5)).bind fun x7 =>
W F44 1 [x7, x0]))))) := V_is rfl (by kernel_rfl)
theorem e_F44_1 (x0 x1 : IV) : W F44 1 [x0, x1] =
cnd x0 (
(O.proj 1 x1).bind fun x2 =>
(O.eq x2 (.int 0)).bind fun x3 =>
(cnd x3 (
(O.proj 2 x1).bind fun x4 =>
(O.sEq x4 (.str ⟨#[]⟩)).bind fun x5 =>
some x5) (some (.bool false))).bind fun x4 =>
some [x4]) (
some [(.bool false)]) := V_is rfl (by kernel_rfl)
theorem e_F45_0 (x0 : IV) : W F45 0 [x0] =
(O.slen x0).bind fun x1 =>
W F45 1 [x0, x1, (.int 0)] := V_is rfl (by kernel_rfl)
theorem e_F45_1 (x0 x1 x2 : IV) : W F45 1 [x0, x1, x2] =
(O.lt x2 x1).bind fun x3 =>
cnd x3 (
(O.sindex x0 x2).bind fun x4 =>
(O.ne x4 (.int 10)).bind fun x5 =>
(cnd x5 (
(O.lt x4 (.int 32)).bind fun x6 =>
(cnd x6 (some (.bool true)) (
(O.gt x4 (.int 126)).bind fun x7 =>
some x7)).bind fun x7 =>
some x7) (some (.bool false))).bind fun x6 =>
cnd x6 (
some [(.bool false)]) (
(O.add .i64 x2 (.int 1)).bind fun x7 =>
W F45 1 [x0, x1, x7])) (
(O.slen x0).bind fun x4 =>
(O.le x4 (.int 200)).bind fun x5 =>
some [x5]) := V_is rfl (by kernel_rfl)
theorem e_F46_0 (x0 : IV) : W F46 0 [x0] =
(O.slen x0).bind fun x1 =>
W F46 1 [x0, x1, (.int 0)] := V_is rfl (by kernel_rfl)
theorem e_F46_1 (x0 x1 x2 : IV) : W F46 1 [x0, x1, x2] =
(O.lt x2 x1).bind fun x3 =>
cnd x3 (
(O.sindex x0 x2).bind fun x4 =>
(O.ge x4 (.int 97)).bind fun x5 =>
(cnd x5 (
(O.le x4 (.int 122)).bind fun x6 =>
some x6) (some (.bool false))).bind fun x6 =>
(cnd x6 (some (.bool true)) (
(O.ge x4 (.int 65)).bind fun x7 =>
(cnd x7 (
(O.le x4 (.int 90)).bind fun x8 =>
some x8) (some (.bool false))).bind fun x8 =>
some x8)).bind fun x7 =>
(cnd x7 (some (.bool true)) (
(O.ge x4 (.int 48)).bind fun x8 =>
(cnd x8 (
(O.le x4 (.int 57)).bind fun x9 =>
some x9) (some (.bool false))).bind fun x9 =>
some x9)).bind fun x8 =>
(cnd x8 (some (.bool true)) (
(O.eq x4 (.int 45)).bind fun x9 =>
some x9)).bind fun x9 =>
(cnd x9 (some (.bool true)) (
(O.eq x4 (.int 95)).bind fun x10 =>
some x10)).bind fun x10 =>
(cnd x10 (some (.bool true)) (
(O.eq x4 (.int 47)).bind fun x11 =>
some x11)).bind fun x11 =>
(O.not x11).bind fun x12 =>
cnd x12 (
some [(.bool false)]) (
(O.add .i64 x2 (.int 1)).bind fun x13 =>
W F46 1 [x0, x1, x13])) (
(O.slen x0).bind fun x4 =>
(O.ge x4 (.int 1)).bind fun x5 =>
(cnd x5 (
(O.le x4 (.int 40)).bind fun x6 =>
some x6) (some (.bool false))).bind fun x6 =>
some [x6]) := V_is rfl (by kernel_rfl)
theorem e_F47_0 (x0 : IV) : W F47 0 [x0] =
(O.proj 3 x0).bind fun x1 =>
(O.len x1).bind fun x2 =>
W F47 1 [(.int 1), x1, x2, (.int 0), x0] := V_is rfl (by kernel_rfl)
theorem e_F47_1 (x0 x1 x2 x3 x4 : IV) : W F47 1 [x0, x1, x2, x3, x4] =
(O.lt x3 x2).bind fun x5 =>
cnd x5 (
(O.index x1 x3).bind fun x6 =>
calls (W F47 0 [x6]) 1 fun x7 =>
(O.add .i64 x0 x7).bind fun x8 =>
(O.add .i64 x3 (.int 1)).bind fun x9 =>
W F47 1 [x8, x1, x2, x9, x4]) (
(O.proj 4 x4).bind fun x6 =>
(O.len x6).bind fun x7 =>
W F47 2 [x0, x6, x7, (.int 0)]) := V_is rfl (by kernel_rfl)
theorem e_F47_2 (x0 x1 x2 x3 : IV) : W F47 2 [x0, x1, x2, x3] =
(O.lt x3 x2).bind fun x4 =>
cnd x4 (
(O.index x1 x3).bind fun x5 =>
(O.projs 1 5 x5).bind fun x6 =>
calls (W F47 0 [x6]) 1 fun x7 =>
(O.add .i64 x0 x7).bind fun x8 =>
(O.add .i64 x3 (.int 1)).bind fun x9 =>
W F47 2 [x8, x1, x2, x9]) (
some [x0]) := V_is rfl (by kernel_rfl)
theorem e_F48_0 (x0 : IV) : W F48 0 [x0] =
(O.proj 5 x0).bind fun x1 =>
(O.index x1 (.int 0)).bind fun x2 =>
(O.proj 4 x0).bind fun x3 =>
calls (W F49 0 [x2, x3]) 2 fun x4 x5 =>
(O.sEq x3 (.str ⟨#[]⟩)).bind fun x6 =>
(cnd x6 (some (.bool true)) (
(cnd x5 (
(O.proj 1 x4).bind fun x7 =>
some x7) (some (.bool false))).bind fun x7 =>
(cnd x7 (
(O.proj 4 x4).bind fun x8 =>
(O.eq x8 (.int 3)).bind fun x9 =>
some x9) (some (.bool false))).bind fun x8 =>
some x8)).bind fun x7 =>
some [x7] := V_is rfl (by kernel_rfl)
theorem e_F49_0 (x0 x1 : IV) : W F49 0 [x0, x1] =
(O.proj 6 x0).bind fun x2 =>
calls (W F50 0 [x2, x1]) 1 fun x3 =>
(O.lt x3 (.int 0)).bind fun x4 =>
(cnd x4 (some (.bool true)) (
calls (W F52 0 [x0]) 1 fun x5 =>
(O.not x5).bind fun x6 =>
some x6)).bind fun x5 =>
cnd x5 (
(O.mkagg [(.str ⟨#[]⟩), (.bool false), (.bool false), (.list []), (.int 0), (.int 0), (.int 0), (.list []), (.str ⟨#[]⟩), (.list []), (.list [])]).bind fun x6 =>
some [x6, (.bool false)]) (
(O.index x2 x3).bind fun x6 =>
some [x6, (.bool true)]) := V_is rfl (by kernel_rfl)
theorem e_F50_0 (x0 x1 : IV) : W F50 0 [x0, x1] =
(O.len x0).bind fun x2 =>
W F50 1 [x0, x1, x2, (.int 0)] := V_is rfl (by kernel_rfl)
theorem e_F50_1 (x0 x1 x2 x3 : IV) : W F50 1 [x0, x1, x2, x3] =
(O.lt x3 x2).bind fun x4 =>
cnd x4 (
(O.index x0 x3).bind fun x5 =>
calls (W F51 0 [x5, x1]) 1 fun x6 =>
cnd x6 (
some [x3]) (
(O.add .i64 x3 (.int 1)).bind fun x7 =>
W F50 1 [x0, x1, x2, x7])) (
some [(.int (-1))]) := V_is rfl (by kernel_rfl)
theorem e_F51_0 (x0 x1 : IV) : W F51 0 [x0, x1] =
(O.proj 0 x0).bind fun x2 =>
(O.sEq x2 x1).bind fun x3 =>
some [x3] := V_is rfl (by kernel_rfl)
theorem e_F52_0 (x0 : IV) : W F52 0 [x0] =
(O.proj 0 x0).bind fun x1 =>
(O.eq x1 (.int 5)).bind fun x2 =>
(cnd x2 (
(O.proj 5 x0).bind fun x3 =>
(O.len x3).bind fun x4 =>
(O.eq x4 (.int 0)).bind fun x5 =>
some x5) (some (.bool false))).bind fun x3 =>
some [x3] := V_is rfl (by kernel_rfl)
theorem e_F53_0 (x0 x1 : IV) : W F53 0 [x0, x1] =
calls (W F54 0 [x0, x1]) 1 fun x2 =>
(O.ge x2 (.int 0)).bind fun x3 =>
some [x3] := V_is rfl (by kernel_rfl)
theorem e_F54_0 (x0 x1 : IV) : W F54 0 [x0, x1] =
(O.len x0).bind fun x2 =>
W F54 1 [x0, x1, x2, (.int 0)] := V_is rfl (by kernel_rfl)
theorem e_F54_1 (x0 x1 x2 x3 : IV) : W F54 1 [x0, x1, x2, x3] =
(O.lt x3 x2).bind fun x4 =>
cnd x4 (
(O.index x0 x3).bind fun x5 =>
calls (W F55 0 [x5, x1]) 1 fun x6 =>
cnd x6 (
some [x3]) (
(O.add .i64 x3 (.int 1)).bind fun x7 =>
W F54 1 [x0, x1, x2, x7])) (
some [(.int (-1))]) := V_is rfl (by kernel_rfl)
theorem e_F55_0 (x0 x1 : IV) : W F55 0 [x0, x1] =
(O.sub .i64 x1 (.int 1)).bind fun x2 =>
calls (W F38 0 [x0, x2]) 1 fun x3 =>
(O.not x3).bind fun x4 =>
some [x4] := V_is rfl (by kernel_rfl)
theorem e_F56_0 (x0 x1 : IV) : W F56 0 [x0, x1] =
(O.proj 6 x0).bind fun x2 =>
(O.len x2).bind fun x3 =>
W F56 1 [x1, x2, x3, (.int 0), x0] := V_is rfl (by kernel_rfl)
theorem e_F56_1 (x0 x1 x2 x3 x4 : IV) : W F56 1 [x0, x1, x2, x3, x4] =
(O.lt x3 x2).bind fun x5 =>
cnd x5 (
(O.index x1 x3).bind fun x6 =>
(O.proj 0 x6).bind fun x7 =>
(O.mkagg [x7, (.int 0), (.int 0), (.str ⟨#[]⟩), (.list []), (.list [])]).bind fun x8 =>
(O.mklist [x8]).bind fun x9 =>
calls (W F57 0 [x9]) 5 fun x10 x11 x12 x13 x14 =>
(O.mkagg [x10, x11, x12, x13, x14]).bind fun x15 =>
calls (W F42 0 [x15]) 1 fun x16 =>
(O.not x16).bind fun x17 =>
(cnd x17 (some (.bool true)) (
(O.gt x3 (.int 0)).bind fun x18 =>
(cnd x18 (
(O.proj 6 x4).bind fun x19 =>
(O.sub .i64 x3 (.int 1)).bind fun x20 =>
(O.index x19 x20).bind fun x21 =>
(O.proj 0 x21).bind fun x22 =>
(O.sGe x22 x7).bind fun x23 =>
some x23) (some (.bool false))).bind fun x19 =>
some x19)).bind fun x18 =>
(cnd x18 (some (.bool true)) (
(O.projs 4 7 x6).bind fun x19 =>
calls (W F38 0 [x19, x0]) 1 fun x20 =>
(O.not x20).bind fun x21 =>
some x21)).bind fun x19 =>
(cnd x19 (some (.bool true)) (
(O.proj 3 x6).bind fun x20 =>
(O.len x20).bind fun x21 =>
(O.gt x21 (.int 1)).bind fun x22 =>
some x22)).bind fun x20 =>
cnd x20 (
some [(.bool false)]) (
(O.proj 3 x6).bind fun x21 =>
(O.len x21).bind fun x22 =>
W F56 2 [x0, x1, x2, x3, x21, x22, (.int 0), x4, x6])) (
some [(.bool true)]) := V_is rfl (by kernel_rfl)
theorem e_F56_2 (x0 x1 x2 x3 x4 x5 x6 x7 x8 : IV) : W F56 2 [x0, x1, x2, x3, x4, x5, x6, x7, x8] =
(O.lt x6 x5).bind fun x9 =>
cnd x9 (
(O.index x4 x6).bind fun x10 =>
(O.proj 0 x10).bind fun x11 =>
(O.eq x11 (.int 0)).bind fun x12 =>
(cnd x12 (some (.bool true)) (
calls (W F42 0 [x10]) 1 fun x13 =>
(O.not x13).bind fun x14 =>
some x14)).bind fun x13 =>
(cnd x13 (some (.bool true)) (
(O.projs 4 7 x8).bind fun x14 =>
calls (W F71 0 [x14, x10]) 1 fun x15 =>
(O.len x15).bind fun x16 =>
(O.gt x16 (.int 0)).bind fun x17 =>
some x17)).bind fun x14 =>
cnd x14 (
some [(.bool false)]) (
(O.add .i64 x6 (.int 1)).bind fun x15 =>
W F56 2 [x0, x1, x2, x3, x4, x5, x15, x7, x8])) (
(O.add .i64 x3 (.int 1)).bind fun x10 =>
W F56 1 [x0, x1, x2, x10, x7]) := V_is rfl (by kernel_rfl)
theorem e_F57_0 (x0 : IV) : W F57 0 [x0] =
calls (W F58 0 [x0]) 1 fun x1 =>
calls (W F59 0 [x1]) 1 fun x2 =>
(O.len x2).bind fun x3 =>
W F57 1 [x3, (.int 0), (.int 0), (.int 0), (.str ⟨#[]⟩), x2, (.int 5), (.int 0), (.str ⟨#[]⟩), (.list [])] := V_is rfl (by kernel_rfl)
theorem e_F62 (x0 x1 x2 x3 x4 x5 x6 x7 x8 x9 : IV) : W F57 1 [x0, x1, x2, x3, x4, x5, x6, x7, x8, x9] =
(O.lt x1 x0).bind fun x10 =>
cnd x10 (
(O.index x5 x1).bind fun x11 =>
(O.add .i64 x1 (.int 1)).bind fun x12 =>
(O.len x5).bind fun x13 =>
(O.eq x12 x13).bind fun x14 =>
(cnd x14 (some (.bool true)) (
(O.add .i64 x1 (.int 1)).bind fun x15 =>
(O.index x5 x15).bind fun x16 =>
(O.proj 0 x16).bind fun x17 =>
(O.proj 0 x11).bind fun x18 =>
(O.sNe x17 x18).bind fun x19 =>
some x19)).bind fun x15 =>
cnd x15 (
(O.mklist [x11]).bind fun x16 =>
(O.append 96 x9 x16).bind fun x17 =>
W F57 2 [x0, x1, x2, x3, x4, x5, x6, x7, x8, x17]) (
W F57 2 [x0, x1, x2, x3, x4, x5, x6, x7, x8, x9])) (
(O.mkagg [x6, x7, x8, (.list []), x9]).bind fun x11 =>
calls (W F69 0 [x11]) 5 fun x12 x13 x14 x15 x16 =>
some [x12, x13, x14, x15, x16]) := V_is rfl (by kernel_rfl)
theorem e_F57_2 (x0 x1 x2 x3 x4 x5 x6 x7 x8 x9 : IV) : W F57 2 [x0, x1, x2, x3, x4, x5, x6, x7, x8, x9] =
(O.add .i64 x1 (.int 1)).bind fun x10 =>
W F57 1 [x0, x10, x2, x3, x4, x5, x6, x7, x8, x9] := V_is rfl (by kernel_rfl)
theorem e_F58 (xs : List IV) : W F58 0 xs = O.cloneF xs := V_eq _ _ _ _
theorem e_F62_0 (x0 x1 : IV) : W F62 0 [x0, x1] =
(O.proj 0 x0).bind fun x2 =>
(O.proj 0 x1).bind fun x3 =>
calls (W F63 0 [x2, x3]) 1 fun x4 =>
some [x4] := V_is rfl (by kernel_rfl)
theorem e_F63_0 (x0 x1 : IV) : W F63 0 [x0, x1] =
calls (W F64 0 [x0, x1]) 1 fun x2 =>
some [x2] := V_is rfl (by kernel_rfl)
theorem e_F64_0 (x0 x1 : IV) : W F64 0 [x0, x1] =
calls (W F65 0 [x0, x1]) 1 fun x2 =>
some [x2] := V_is rfl (by kernel_rfl)
theorem e_F65 (xs : List IV) : W F65 0 xs = O.compareF xs := V_eq _ _ _ _
theorem e_F69_0 (x0 : IV) : W F69 0 [x0] =
(O.proj 3 x0).bind fun x1 =>
calls (W F70 0 [x1]) 1 fun x2 =>
(O.proj 0 x0).bind fun x3 =>
(O.proj 1 x0).bind fun x4 =>
(O.proj 2 x0).bind fun x5 =>
(O.proj 4 x0).bind fun x6 =>
(O.len x2).bind fun x7 =>
W F69 1 [x7, (.int 0), x3, x4, x5, x6, (.int 0), (.int 0), (.str ⟨#[]⟩), x2] := V_is rfl (by kernel_rfl)
theorem e_F69_1 (x0 x1 x2 x3 x4 x5 x6 x7 x8 x9 : IV) : W F69 1 [x0, x1, x2, x3, x4, x5, x6, x7, x8, x9] =
(O.lt x1 x0).bind fun x10 =>
cnd x10 (
(O.index x9 x1).bind fun x11 =>
calls (W F69 0 [x11]) 5 fun x12 x13 x14 x15 x16 =>
(O.mkagg [x12, x13, x14, x15, x16]).bind fun x17 =>
(O.setAt 0 5 true true x9 x1 x17).bind fun x18 =>
(O.add .i64 x1 (.int 1)).bind fun x19 =>
W F69 1 [x0, x19, x2, x3, x4, x5, x6, x7, x8, x18]) (
calls (W F58 0 [x5]) 1 fun x11 =>
(O.len x11).bind fun x12 =>
W F69 2 [x12, (.int 0), x2, x3, x4, x6, x7, x8, x11, x9]) := V_is rfl (by kernel_rfl)
theorem e_F69_2 (x0 x1 x2 x3 x4 x5 x6 x7 x8 x9 : IV) : W F69 2 [x0, x1, x2, x3, x4, x5, x6, x7, x8, x9] =
(O.lt x1 x0).bind fun x10 =>
cnd x10 (
(O.index x8 x1).bind fun x11 =>
(O.projs 1 5 x11).bind fun x12 =>
calls (W F69 0 [x12]) 5 fun x13 x14 x15 x16 x17 =>
(O.mkagg [x13, x14, x15, x16, x17]).bind fun x18 =>
(O.setAt 1 5 true false x8 x1 x18).bind fun x19 =>
(O.add .i64 x1 (.int 1)).bind fun x20 =>
W F69 2 [x0, x20, x2, x3, x4, x5, x6, x7, x19, x9]) (
some [x2, x3, x4, x9, x8]) := V_is rfl (by kernel_rfl)
theorem e_F70 (xs : List IV) : W F70 0 xs = O.cloneF xs := V_eq _ _ _ _
theorem e_F71_0 (x0 x1 : IV) : W F71 0 [x0, x1] =
calls (W F72 0 [(.list []), x0, x1, (.list [])]) 1 fun x2 =>
some [x2] := V_is rfl (by kernel_rfl)
theorem e_F72_0 (x0 x1 x2 x3 : IV) : W F72 0 [x0, x1, x2, x3] =
(O.proj 0 x2).bind fun x4 =>
(O.proj 0 x1).bind fun x5 =>
(O.ne x4 x5).bind fun x6 =>
cnd x6 (
calls (W F73 0 [x0, x3, (.int 6)]) 1 fun x7 =>
some [x7]) (
(O.eq x4 (.int 2)).bind fun x7 =>
cnd x7 (
(O.proj 1 x2).bind fun x8 =>
(O.proj 1 x1).bind fun x9 =>
(O.lt x8 x9).bind fun x10 =>
(cnd x10 (some (.bool true)) (
(O.proj 2 x1).bind fun x11 =>
(O.gt x8 x11).bind fun x12 =>
some x12)).bind fun x11 =>
cnd x11 (
calls (W F73 0 [x0, x3, (.int 5)]) 1 fun x12 =>
some [x12]) (
some [x0])) (
(O.eq x4 (.int 3)).bind fun x8 =>
cnd x8 (
(O.proj 2 x2).bind fun x9 =>
(O.slen x9).bind fun x10 =>
(O.proj 1 x1).bind fun x11 =>
(O.lt x10 x11).bind fun x12 =>
(cnd x12 (some (.bool true)) (
(O.proj 2 x1).bind fun x13 =>
(O.gt x10 x13).bind fun x14 =>
some x14)).bind fun x13 =>
cnd x13 (
calls (W F73 0 [x0, x3, (.int 5)]) 1 fun x14 =>
some [x14]) (
(O.proj 3 x1).bind fun x14 =>
(O.len x14).bind fun x15 =>
(O.gt x15 (.int 0)).bind fun x16 =>
(cnd x16 (
calls (W F91 0 [x14, x9]) 1 fun x17 =>
(O.not x17).bind fun x18 =>
some x18) (some (.bool false))).bind fun x17 =>
cnd x17 (
calls (W F73 0 [x0, x3, (.int 1)]) 1 fun x18 =>
some [x18]) (
some [x0]))) (
(O.eq x4 (.int 4)).bind fun x9 =>
cnd x9 (
calls (W F93 0 [x0, x1, x2, x3]) 1 fun x10 =>
some [x10]) (
calls (W F100 0 [x1]) 1 fun x10 =>
cnd x10 (
(O.proj 4 x2).bind fun x11 =>
(O.len x11).bind fun x12 =>
W F72 1 [x3, x11, x12, (.int 0), x1, x0]) (
(O.eq x4 (.int 5)).bind fun x11 =>
cnd x11 (
calls (W F101 0 [x0, x1, x2, x3]) 1 fun x12 =>
some [x12]) (
some [x0])))))) := V_is rfl (by kernel_rfl)
theorem e_F72_1 (x0 x1 x2 x3 x4 x5 : IV) : W F72 1 [x0, x1, x2, x3, x4, x5] =
(O.lt x3 x2).bind fun x6 =>
cnd x6 (
(O.index x1 x3).bind fun x7 =>
(O.proj 1 x7).bind fun x8 =>
(O.ne x8 (.int 0)).bind fun x9 =>
cnd x9 (
(O.proj 5 x4).bind fun x10 =>
(O.index x10 (.int 0)).bind fun x11 =>
(O.projs 1 5 x7).bind fun x12 =>
(O.proj 0 x7).bind fun x13 =>
calls (W F102 0 [x13]) 1 fun x14 =>
calls (W F97 0 [x0, x14]) 1 fun x15 =>
calls (W F72 0 [x5, x11, x12, x15]) 1 fun x16 =>
W F72 2 [x0, x1, x2, x3, x4, x16]) (
W F72 2 [x0, x1, x2, x3, x4, x5])) (
some [x5]) := V_is rfl (by kernel_rfl)
theorem e_F72_2 (x0 x1 x2 x3 x4 x5 : IV) : W F72 2 [x0, x1, x2, x3, x4, x5] =
(O.add .i64 x3 (.int 1)).bind fun x6 =>
W F72 1 [x0, x1, x2, x6, x4, x5] := V_is rfl (by kernel_rfl)
theorem e_F73_0 (x0 x1 x2 : IV) : W F73 0 [x0, x1, x2] =
calls (W F74 0 [x1]) 2 fun x3 x4 =>
(O.mkagg [x3, x2]).bind fun x5 =>
(O.mklist [x5]).bind fun x6 =>
(O.append 24 x0 x6).bind fun x7 =>
some [x7] := V_is rfl (by kernel_rfl)
theorem e_F74_0 (x0 : IV) : W F74 0 [x0] =
calls (W F75 0 [x0]) 1 fun x1 =>
(O.not x1).bind fun x2 =>
cnd x2 (
some [(.str ⟨#[]⟩), (.int 1)]) (
(O.len x0).bind fun x3 =>
W F74 1 [x0, x3, (.int 0), (.list [])]) := V_is rfl (by kernel_rfl)
theorem e_F74_1 (x0 x1 x2 x3 : IV) : W F74 1 [x0, x1, x2, x3] =
(O.lt x2 x1).bind fun x4 =>
cnd x4 (
(O.index x0 x2).bind fun x5 =>
(O.proj 0 x5).bind fun x6 =>
(O.eq x6 (.int 1)).bind fun x7 =>
cnd x7 (
(O.gt x2 (.int 0)).bind fun x8 =>
cnd x8 (
calls (W F82 0 [x3, (.int 46)]) 1 fun x9 =>
W F74 2 [x0, x1, x2, x5, x9]) (
W F74 2 [x0, x1, x2, x5, x3])) (
(O.eq x6 (.int 2)).bind fun x8 =>
cnd x8 (
(O.proj 2 x5).bind fun x9 =>
calls (W F84 0 [x9]) 1 fun x10 =>
(O.cat (.str ⟨#[91]⟩) x10).bind fun x11 =>
(O.cat x11 (.str ⟨#[93]⟩)).bind fun x12 =>
calls (W F85 0 [x3, x12]) 2 fun x13 x14 =>
W F74 3 [x0, x1, x2, x14]) (
(O.eq x6 (.int 3)).bind fun x9 =>
cnd x9 (
(O.proj 1 x5).bind fun x10 =>
(O.cat (.str ⟨#[91]⟩) x10).bind fun x11 =>
(O.cat x11 (.str ⟨#[61]⟩)).bind fun x12 =>
(O.proj 3 x5).bind fun x13 =>
calls (W F86 0 [x13]) 1 fun x14 =>
(O.cat x12 x14).bind fun x15 =>
(O.cat x15 (.str ⟨#[93]⟩)).bind fun x16 =>
calls (W F85 0 [x3, x16]) 2 fun x17 x18 =>
W F74 3 [x0, x1, x2, x18]) (
W F74 3 [x0, x1, x2, x3])))) (
calls (W F87 0 [x3]) 1 fun x5 =>
some [x5, (.int 0)]) := V_is rfl (by kernel_rfl)
theorem e_F74_2 (x0 x1 x2 x3 x4 : IV) : W F74 2 [x0, x1, x2, x3, x4] =
(O.proj 1 x3).bind fun x5 =>
calls (W F85 0 [x4, x5]) 2 fun x6 x7 =>
W F74 3 [x0, x1, x2, x7] := V_is rfl (by kernel_rfl)
theorem e_F74_3 (x0 x1 x2 x3 : IV) : W F74 3 [x0, x1, x2, x3] =
(O.add .i64 x2 (.int 1)).bind fun x4 =>
W F74 1 [x0, x1, x4, x3] := V_is rfl (by kernel_rfl)
theorem e_F75_0 (x0 : IV) : W F75 0 [x0] =
(O.len x0).bind fun x1 =>
(O.le x1 (.int 16)).bind fun x2 =>
(cnd x2 (
calls (W F76 0 [x0]) 1 fun x3 =>
(O.not x3).bind fun x4 =>
some x4) (some (.bool false))).bind fun x3 =>
some [x3] := V_is rfl (by kernel_rfl)
theorem e_F76_0 (x0 : IV) : W F76 0 [x0] =
calls (W F77 0 [x0]) 1 fun x1 =>
(O.ge x1 (.int 0)).bind fun x2 =>
some [x2] := V_is rfl (by kernel_rfl)
theorem e_F77_0 (x0 : IV) : W F77 0 [x0] =
(O.len x0).bind fun x1 =>
W F77 1 [x0, x1, (.int 0)] := V_is rfl (by kernel_rfl)
theorem e_F77_1 (x0 x1 x2 : IV) : W F77 1 [x0, x1, x2] =
(O.lt x2 x1).bind fun x3 =>
cnd x3 (
(O.index x0 x2).bind fun x4 =>
calls (W F78 0 [x4]) 1 fun x5 =>
cnd x5 (
some [x2]) (
(O.add .i64 x2 (.int 1)).bind fun x6 =>
W F77 1 [x0, x1, x6])) (
some [(.int (-1))]) := V_is rfl (by kernel_rfl)
theorem e_F78_0 (x0 : IV) : W F78 0 [x0] =
calls (W F79 0 [x0]) 1 fun x1 =>
(O.not x1).bind fun x2 =>
some [x2] := V_is rfl (by kernel_rfl)
theorem e_F79_0 (x0 : IV) : W F79 0 [x0] =
(O.proj 0 x0).bind fun x1 =>
(O.eq x1 (.int 1)).bind fun x2 =>
cnd x2 (
(O.proj 1 x0).bind fun x3 =>
calls (W F80 0 [x3]) 1 fun x4 =>
(cnd x4 (
(O.proj 2 x0).bind fun x5 =>
(O.eq x5 (.int 0)).bind fun x6 =>
some x6) (some (.bool false))).bind fun x5 =>
(cnd x5 (
(O.proj 3 x0).bind fun x6 =>
(O.sEq x6 (.str ⟨#[]⟩)).bind fun x7 =>
some x7) (some (.bool false))).bind fun x6 =>
some [x6]) (
(O.eq x1 (.int 2)).bind fun x3 =>
cnd x3 (
(O.proj 2 x0).bind fun x4 =>
(O.ge x4 (.int 0)).bind fun x5 =>
(cnd x5 (
(O.le x4 (.int 64)).bind fun x6 =>
some x6) (some (.bool false))).bind fun x6 =>
(cnd x6 (
(O.proj 1 x0).bind fun x7 =>
(O.sEq x7 (.str ⟨#[]⟩)).bind fun x8 =>
some x8) (some (.bool false))).bind fun x7 =>
(cnd x7 (
(O.proj 3 x0).bind fun x8 =>
(O.sEq x8 (.str ⟨#[]⟩)).bind fun x9 =>
some x9) (some (.bool false))).bind fun x8 =>
some [x8]) (
(O.eq x1 (.int 3)).bind fun x4 =>
cnd x4 (
(O.proj 1 x0).bind fun x5 =>
calls (W F80 0 [x5]) 1 fun x6 =>
(cnd x6 (
(O.proj 2 x0).bind fun x7 =>
(O.eq x7 (.int 0)).bind fun x8 =>
some x8) (some (.bool false))).bind fun x7 =>
(cnd x7 (
(O.proj 3 x0).bind fun x8 =>
calls (W F41 0 [x8]) 5 fun x9 x10 x11 x12 x13 =>
(O.mkagg [x9, x10, x11, x12, x13]).bind fun x14 =>
calls (W F42 0 [x14]) 1 fun x15 =>
some x15) (some (.bool false))).bind fun x8 =>
some [x8]) (
some [(.bool false)]))) := V_is rfl (by kernel_rfl)
theorem e_F80_0 (x0 : IV) : W F80 0 [x0] =
W F80 1 [x0, x0, (.int 0)] := V_is rfl (by kernel_rfl)
theorem e_F80_1 (x0 x1 x2 : IV) : W F80 1 [x0, x1, x2] =
(O.iterOk x1 x2).bind fun x3 =>
(O.runeAt x1 x2).bind fun x4 =>
(O.iterNext x1 x2).bind fun x5 =>
cnd x3 (
(O.need x3).bind fun x6 =>
calls (W F81 0 [x4]) 1 fun x7 =>
(O.not x7).bind fun x8 =>
cnd x8 (
some [(.bool false)]) (
W F80 1 [x0, x1, x5])) (
(O.sNe x0 (.str ⟨#[]⟩)).bind fun x6 =>
(cnd x6 (
(O.slen x0).bind fun x7 =>
(O.le x7 (.int 40)).bind fun x8 =>
some x8) (some (.bool false))).bind fun x7 =>
some [x7]) := V_is rfl (by kernel_rfl)
theorem e_F81_0 (x0 : IV) : W F81 0 [x0] =
(O.ge x0 (.int 97)).bind fun x1 =>
(cnd x1 (
(O.le x0 (.int 122)).bind fun x2 =>
some x2) (some (.bool false))).bind fun x2 =>
(cnd x2 (some (.bool true)) (
(O.ge x0 (.int 65)).bind fun x3 =>
(cnd x3 (
(O.le x0 (.int 90)).bind fun x4 =>
some x4) (some (.bool false))).bind fun x4 =>
some x4)).bind fun x3 =>
(cnd x3 (some (.bool true)) (
(O.ge x0 (.int 48)).bind fun x4 =>
(cnd x4 (
(O.le x0 (.int 57)).bind fun x5 =>
some x5) (some (.bool false))).bind fun x5 =>
some x5)).bind fun x4 =>
(cnd x4 (some (.bool true)) (
(O.eq x0 (.int 45)).bind fun x5 =>
some x5)).bind fun x5 =>
(cnd x5 (some (.bool true)) (
(O.eq x0 (.int 95)).bind fun x6 =>
some x6)).bind fun x6 =>
(cnd x6 (some (.bool true)) (
(O.eq x0 (.int 47)).bind fun x7 =>
some x7)).bind fun x7 =>
some [x7] := V_is rfl (by kernel_rfl)
theorem e_F82_0 (x0 x1 : IV) : W F82 0 [x0, x1] =
calls (W F83 0 [x0]) 1 fun x2 =>
(O.mklist [x1]).bind fun x3 =>
(O.append 1 x2 x3).bind fun x4 =>
some [x4] := V_is rfl (by kernel_rfl)
theorem e_F83 (xs : List IV) : W F83 0 xs = O.copyCheckF xs := V_eq _ _ _ _
theorem e_F84 (xs : List IV) : W F84 0 xs = O.itoaF xs := V_eq _ _ _ _
theorem e_F85_0 (x0 x1 : IV) : W F85 0 [x0, x1] =
calls (W F83 0 [x0]) 1 fun x2 =>
(O.appendS x2 x1).bind fun x3 =>
(O.slen x1).bind fun x4 =>
some [x4, x3] := V_is rfl (by kernel_rfl)
theorem e_F86_0 (x0 : IV) : W F86 0 [x0] =
calls (W F82 0 [(.list []), (.int 34)]) 1 fun x1 =>
W F86 1 [x0, (.int 0), x1] := V_is rfl (by kernel_rfl)
theorem e_F86_1 (x0 x1 x2 : IV) : W F86 1 [x0, x1, x2] =
(O.iterOk x0 x1).bind fun x3 =>
(O.runeAt x0 x1).bind fun x4 =>
(O.iterNext x0 x1).bind fun x5 =>
cnd x3 (
(O.need x3).bind fun x6 =>
(O.eq x4 (.int 34)).bind fun x7 =>
cnd x7 (
W F86 2 [x4, x4, x7, x0, x5, x2]) (
(O.eq x4 (.int 92)).bind fun x8 =>
W F86 2 [x4, x4, x8, x0, x5, x2])) (
calls (W F82 0 [x2, (.int 34)]) 1 fun x6 =>
calls (W F87 0 [x6]) 1 fun x7 =>
some [x7]) := V_is rfl (by kernel_rfl)
theorem e_F86_2 (x0 x1 x2 x3 x4 x5 : IV) : W F86 2 [x0, x1, x2, x3, x4, x5] =
cnd x2 (
calls (W F82 0 [x5, (.int 92)]) 1 fun x6 =>
calls (W F88 0 [x6, x0]) 2 fun x7 x8 =>
W F86 3 [x3, x4, x8]) (
(O.eq x1 (.int 10)).bind fun x6 =>
cnd x6 (
calls (W F85 0 [x5, (.str ⟨#[92, 110]⟩)]) 2 fun x7 x8 =>
W F86 3 [x3, x4, x8]) (
calls (W F88 0 [x5, x0]) 2 fun x7 x8 =>
W F86 3 [x3, x4, x8])) := V_is rfl (by kernel_rfl)
theorem e_F86_3 (x0 x1 x2 : IV) : W F86 3 [x0, x1, x2] =
W F86 1 [x0, x1, x2] := V_is rfl (by kernel_rfl)
theorem e_F87 (xs : List IV) : W F87 0 xs = O.stringF xs := V_eq _ _ _ _
theorem e_F88_0 (x0 x1 : IV) : W F88 0 [x0, x1] =
calls (W F83 0 [x0]) 1 fun x2 =>
(O.len x2).bind fun x3 =>
calls (W F89 0 [x2, x1]) 1 fun x4 =>
(O.len x4).bind fun x5 =>
(O.sub .i64 x5 x3).bind fun x6 =>
some [x6, x4] := V_is rfl (by kernel_rfl)
theorem e_F89_0 (x0 x1 : IV) : W F89 0 [x0, x1] =
(O.conv .u32 x1).bind fun x2 =>
(O.le x2 (.int 127)).bind fun x3 =>
cnd x3 (
(O.conv .u8 x1).bind fun x4 =>
(O.mklist [x4]).bind fun x5 =>
(O.append 1 x0 x5).bind fun x6 =>
some [x6]) (
calls (W F90 0 [x0, x1]) 1 fun x4 =>
some [x4]) := V_is rfl (by kernel_rfl)
theorem e_F91_0 (x0 x1 : IV) : W F91 0 [x0, x1] =
calls (W F92 0 [x0, x1]) 1 fun x2 =>
(O.ge x2 (.int 0)).bind fun x3 =>
some [x3] := V_is rfl (by kernel_rfl)
theorem e_F92_0 (x0 x1 : IV) : W F92 0 [x0, x1] =
(O.len x0).bind fun x2 =>
W F92 1 [x0, x1, x2, (.int 0)] := V_is rfl (by kernel_rfl)
theorem e_F92_1 (x0 x1 x2 x3 : IV) : W F92 1 [x0, x1, x2, x3] =
(O.lt x3 x2).bind fun x4 =>
cnd x4 (
(O.index x0 x3).bind fun x5 =>
(O.sEq x1 x5).bind fun x6 =>
cnd x6 (
some [x3]) (
(O.add .i64 x3 (.int 1)).bind fun x7 =>
W F92 1 [x0, x1, x2, x7])) (
some [(.int (-1))]) := V_is rfl (by kernel_rfl)
theorem e_F93_0 (x0 x1 x2 x3 : IV) : W F93 0 [x0, x1, x2, x3] =
(O.proj 3 x2).bind fun x4 =>
(O.len x4).bind fun x5 =>
(O.proj 1 x1).bind fun x6 =>
(O.lt x5 x6).bind fun x7 =>
(cnd x7 (some (.bool true)) (
(O.proj 2 x1).bind fun x8 =>
(O.gt x5 x8).bind fun x9 =>
some x9)).bind fun x8 =>
cnd x8 (
calls (W F73 0 [x0, x3, (.int 5)]) 1 fun x9 =>
W F93 1 [x3, x1, x2, x9]) (
W F93 1 [x3, x1, x2, x0]) := V_is rfl (by kernel_rfl)
theorem e_F93_1 (x0 x1 x2 x3 : IV) : W F93 1 [x0, x1, x2, x3] =
(O.proj 3 x2).bind fun x4 =>
(O.len x4).bind fun x5 =>
W F93 2 [x0, x4, x5, (.int 0), x1, (.list []), x3] := V_is rfl (by kernel_rfl)
theorem e_F93_2 (x0 x1 x2 x3 x4 x5 x6 : IV) : W F93 2 [x0, x1, x2, x3, x4, x5, x6] =
(O.lt x3 x2).bind fun x7 =>
cnd x7 (
(O.index x1 x3).bind fun x8 =>
calls (W F94 0 [x4, x3, x8]) 1 fun x9 =>
calls (W F97 0 [x0, x9]) 1 fun x10 =>
(O.proj 5 x4).bind fun x11 =>
(O.index x11 (.int 0)).bind fun x12 =>
calls (W F72 0 [x6, x12, x8, x10]) 1 fun x13 =>
(O.proj 4 x4).bind fun x14 =>
calls (W F95 0 [x8, x14]) 2 fun x15 x16 =>
(cnd x16 (
(O.sNe x14 (.str ⟨#[]⟩)).bind fun x17 =>
some x17) (some (.bool false))).bind fun x17 =>
cnd x17 (
(O.mget (.bool false) x5 x15).bind fun x18 =>
(O.mhas x5 x15).bind fun x19 =>
cnd x18 (
calls (W F73 0 [x13, x10, (.int 8)]) 1 fun x20 =>
W F93 3 [x0, x15, x1, x2, x3, x4, x5, x20]) (
W F93 3 [x0, x15, x1, x2, x3, x4, x5, x13])) (
W F93 4 [x0, x1, x2, x3, x4, x5, x13])) (
some [x6]) := V_is rfl (by kernel_rfl)
theorem e_F93_3 (x0 x1 x2 x3 x4 x5 x6 x7 : IV) : W F93 3 [x0, x1, x2, x3, x4, x5, x6, x7] =
(O.mset x6 x1 (.bool true)).bind fun x8 =>
W F93 4 [x0, x2, x3, x4, x5, x8, x7] := V_is rfl (by kernel_rfl)
theorem e_F93_4 (x0 x1 x2 x3 x4 x5 x6 : IV) : W F93 4 [x0, x1, x2, x3, x4, x5, x6] =
(O.add .i64 x3 (.int 1)).bind fun x7 =>
W F93 2 [x0, x1, x2, x7, x4, x5, x6] := V_is rfl (by kernel_rfl)
theorem e_F94_0 (x0 x1 x2 : IV) : W F94 0 [x0, x1, x2] =
(O.proj 4 x0).bind fun x3 =>
calls (W F95 0 [x2, x3]) 2 fun x4 x5 =>
(cnd x5 (
(O.sNe x3 (.str ⟨#[]⟩)).bind fun x6 =>
some x6) (some (.bool false))).bind fun x6 =>
cnd x6 (
(O.mkagg [(.int 3), x3, (.int 0), x4]).bind fun x7 =>
some [x7]) (
(O.mkagg [(.int 2), (.str ⟨#[]⟩), x1, (.str ⟨#[]⟩)]).bind fun x7 =>
some [x7]) := V_is rfl (by kernel_rfl)
theorem e_F95_0 (x0 x1 : IV) : W F95 0 [x0, x1] =
calls (W F96 0 [x0, x1]) 6 fun x2 x3 x4 x5 x6 x7 =>
(cnd x7 (
(O.eq x2 (.int 3)).bind fun x8 =>
some x8) (some (.bool false))).bind fun x8 =>
some [x4, x8] := V_is rfl (by kernel_rfl)
theorem e_F96_0 (x0 x1 : IV) : W F96 0 [x0, x1] =
(O.proj 0 x0).bind fun x2 =>
(O.eq x2 (.int 5)).bind fun x3 =>
cnd x3 (
(O.proj 4 x0).bind fun x4 =>
(O.len x4).bind fun x5 =>
W F96 1 [x1, x4, x5, (.int 0), (.int 0), (.int 0), (.str ⟨#[]⟩)]) (
some [(.int 0), (.int 0), (.str ⟨#[]⟩), (.list []), (.list []), (.bool false)]) := V_is rfl (by kernel_rfl)
theorem e_F96_1 (x0 x1 x2 x3 x4 x5 x6 : IV) : W F96 1 [x0, x1, x2, x3, x4, x5, x6] =
(O.lt x3 x2).bind fun x7 =>
cnd x7 (
(O.index x1 x3).bind fun x8 =>
(O.proj 0 x8).bind fun x9 =>
(O.sEq x9 x0).bind fun x10 =>
cnd x10 (
(O.projs 1 5 x8).bind fun x11 =>
calls (W F69 0 [x11]) 5 fun x12 x13 x14 x15 x16 =>
some [x12, x13, x14, x15, x16, (.bool true)]) (
(O.add .i64 x3 (.int 1)).bind fun x11 =>
W F96 1 [x0, x1, x2, x11, x4, x5, x6])) (
some [(.int 0), (.int 0), (.str ⟨#[]⟩), (.list []), (.list []), (.bool false)]) := V_is rfl (by kernel_rfl)
theorem e_F97_0 (x0 x1 : IV) : W F97 0 [x0, x1] =
calls (W F98 0 [x0]) 1 fun x2 =>
calls (W F99 0 [x2]) 1 fun x3 =>
(O.mklist [x1]).bind fun x4 =>
(O.appendN 48 x3 x4).bind fun x5 =>
some [x5] := V_is rfl (by kernel_rfl)
theorem e_F98 (xs : List IV) : W F98 0 xs = O.cloneF xs := V_eq _ _ _ _
theorem e_F99 (xs : List IV) : W F99 0 xs = O.clipF xs := V_eq _ _ _ _
theorem e_F100_0 (x0 : IV) : W F100 0 [x0] =
(O.proj 0 x0).bind fun x1 =>
(O.eq x1 (.int 5)).bind fun x2 =>
(cnd x2 (
(O.proj 5 x0).bind fun x3 =>
(O.len x3).bind fun x4 =>
(O.gt x4 (.int 0)).bind fun x5 =>
some x5) (some (.bool false))).bind fun x3 =>
some [x3] := V_is rfl (by kernel_rfl)
theorem e_F101_0 (x0 x1 x2 x3 : IV) : W F101 0 [x0, x1, x2, x3] =
(O.proj 4 x2).bind fun x4 =>
(O.len x4).bind fun x5 =>
W F101 1 [x3, x4, x5, (.int 0), x1, x2, x0] := V_is rfl (by kernel_rfl)
theorem e_F101_1 (x0 x1 x2 x3 x4 x5 x6 : IV) : W F101 1 [x0, x1, x2, x3, x4, x5, x6] =
(O.lt x3 x2).bind fun x7 =>
cnd x7 (
(O.index x1 x3).bind fun x8 =>
(O.proj 0 x8).bind fun x9 =>
calls (W F102 0 [x9]) 1 fun x10 =>
calls (W F97 0 [x0, x10]) 1 fun x11 =>
calls (W F49 0 [x4, x9]) 2 fun x12 x13 =>
(O.not x13).bind fun x14 =>
cnd x14 (
calls (W F73 0 [x6, x11, (.int 1)]) 1 fun x15 =>
W F101 2 [x0, x1, x2, x3, x4, x5, x15]) (
(O.proj 1 x8).bind fun x15 =>
(O.ne x15 (.int 0)).bind fun x16 =>
cnd x16 (
(O.projs 4 7 x12).bind fun x17 =>
(O.projs 1 5 x8).bind fun x18 =>
calls (W F72 0 [x6, x17, x18, x11]) 1 fun x19 =>
W F101 2 [x0, x1, x2, x3, x4, x5, x19]) (
W F101 2 [x0, x1, x2, x3, x4, x5, x6]))) (
(O.proj 6 x4).bind fun x8 =>
(O.len x8).bind fun x9 =>
W F101 3 [x0, x8, x9, (.int 0), x5, x6]) := V_is rfl (by kernel_rfl)
theorem e_F101_2 (x0 x1 x2 x3 x4 x5 x6 : IV) : W F101 2 [x0, x1, x2, x3, x4, x5, x6] =
(O.add .i64 x3 (.int 1)).bind fun x7 =>
W F101 1 [x0, x1, x2, x7, x4, x5, x6] := V_is rfl (by kernel_rfl)
theorem e_F101_3 (x0 x1 x2 x3 x4 x5 : IV) : W F101 3 [x0, x1, x2, x3, x4, x5] =
(O.lt x3 x2).bind fun x6 =>
cnd x6 (
(O.index x1 x3).bind fun x7 =>
(O.proj 0 x7).bind fun x8 =>
calls (W F103 0 [x4, x8]) 6 fun x9 x10 x11 x12 x13 x14 =>
(O.proj 1 x7).bind fun x15 =>
(cnd x15 (
(O.not x14).bind fun x16 =>
some x16) (some (.bool false))).bind fun x16 =>
cnd x16 (
calls (W F102 0 [x8]) 1 fun x17 =>
calls (W F97 0 [x0, x17]) 1 fun x18 =>
calls (W F73 0 [x5, x18, (.int 7)]) 1 fun x19 =>
W F101 4 [x0, x1, x2, x3, x4, x19]) (
W F101 4 [x0, x1, x2, x3, x4, x5])) (
some [x5]) := V_is rfl (by kernel_rfl)
theorem e_F101_4 (x0 x1 x2 x3 x4 x5 : IV) : W F101 4 [x0, x1, x2, x3, x4, x5] =
(O.add .i64 x3 (.int 1)).bind fun x6 =>
W F101 3 [x0, x1, x2, x6, x4, x5] := V_is rfl (by kernel_rfl)
theorem e_F102_0 (x0 : IV) : W F102 0 [x0] =
(O.mkagg [(.int 1), x0, (.int 0), (.str ⟨#[]⟩)]).bind fun x1 =>
some [x1] := V_is rfl (by kernel_rfl)
theorem e_F103_0 (x0 x1 : IV) : W F103 0 [x0, x1] =
calls (W F96 0 [x0, x1]) 6 fun x2 x3 x4 x5 x6 x7 =>
(cnd x7 (
(O.ne x2 (.int 0)).bind fun x8 =>
some x8) (some (.bool false))).bind fun x8 =>
some [x2, x3, x4, x5, x6, x8] := V_is rfl (by kernel_rfl)
theorem e_F110_0 (x0 x1 : IV) : W F110 0 [x0, x1] =
(O.proj 0 x1).bind fun x2 =>
(O.proj 0 x0).bind fun x3 =>
(O.ne x2 x3).bind fun x4 =>
(cnd x4 (some (.bool true)) (
(O.ne x2 (.int 5)).bind fun x5 =>
(cnd x5 (
(O.ne x2 (.int 4)).bind fun x6 =>
some x6) (some (.bool false))).bind fun x6 =>
some x6)).bind fun x5 =>
cnd x5 (
calls (W F111 0 [x1]) 1 fun x6 =>
some [x6]) (
(O.eq x2 (.int 4)).bind fun x6 =>
cnd x6 (
calls (W F113 0 [x0, x1]) 1 fun x7 =>
some [x7]) (
(O.proj 5 x0).bind fun x7 =>
(O.len x7).bind fun x8 =>
(O.eq x8 (.int 0)).bind fun x9 =>
cnd x9 (
(O.proj 6 x0).bind fun x10 =>
(O.len x10).bind fun x11 =>
W F110 1 [x10, x11, (.int 0), x0, x1, (.int 0), (.int 0), (.str ⟨#[]⟩)]) (
W F110 2 [x0, x1, (.int 0), (.int 0), (.str ⟨#[]⟩)]))) := V_is rfl (by kernel_rfl)
theorem e_F110_1 (x0 x1 x2 x3 x4 x5 x6 x7 : IV) : W F110 1 [x0, x1, x2, x3, x4, x5, x6, x7] =
(O.lt x2 x1).bind fun x8 =>
cnd x8 (
(O.index x0 x2).bind fun x9 =>
(O.proj 0 x9).bind fun x10 =>
calls (W F96 0 [x4, x10]) 6 fun x11 x12 x13 x14 x15 x16 =>
(O.eq x11 (.int 0)).bind fun x17 =>
(cnd x17 (
(O.proj 3 x9).bind fun x18 =>
(O.len x18).bind fun x19 =>
(O.gt x19 (.int 0)).bind fun x20 =>
some x20) (some (.bool false))).bind fun x18 =>
cnd x18 (
(O.proj 3 x9).bind fun x19 =>
(O.index x19 (.int 0)).bind fun x20 =>
calls (W F114 0 [x4, x10, x20]) 5 fun x21 x22 x23 x24 x25 =>
(O.mkagg [x21, x22, x23, x24, x25]).bind fun x26 =>
W F110 3 [x0, x1, x2, x3, x26, x5, x6, x7]) (
W F110 3 [x0, x1, x2, x3, x4, x5, x6, x7])) (
W F110 2 [x3, x4, x5, x6, x7]) := V_is rfl (by kernel_rfl)
theorem e_F110_2 (x0 x1 x2 x3 x4 : IV) : W F110 2 [x0, x1, x2, x3, x4] =
(O.proj 4 x1).bind fun x5 =>
(O.len x5).bind fun x6 =>
W F110 4 [x5, x6, (.int 0), x0, x2, x3, x4, (.list [])] := V_is rfl (by kernel_rfl)
theorem e_F110_3 (x0 x1 x2 x3 x4 x5 x6 x7 : IV) : W F110 3 [x0, x1, x2, x3, x4, x5, x6, x7] =
(O.add .i64 x2 (.int 1)).bind fun x8 =>
W F110 1 [x0, x1, x8, x3, x4, x5, x6, x7] := V_is rfl (by kernel_rfl)
theorem e_F110_4 (x0 x1 x2 x3 x4 x5 x6 x7 : IV) : W F110 4 [x0, x1, x2, x3, x4, x5, x6, x7] =
(O.lt x2 x1).bind fun x8 =>
cnd x8 (
(O.index x0 x2).bind fun x9 =>
(O.proj 0 x9).bind fun x10 =>
calls (W F119 0 [x3, x10]) 2 fun x11 x12 =>
cnd x12 (
(O.projs 1 5 x9).bind fun x13 =>
calls (W F110 0 [x11, x13]) 1 fun x14 =>
(O.proj 1 x9).bind fun x15 =>
(O.proj 2 x9).bind fun x16 =>
(O.proj 3 x9).bind fun x17 =>
(O.proj 4 x9).bind fun x18 =>
(O.proj 5 x9).bind fun x19 =>
(O.proj 0 x14).bind fun x20 =>
(O.proj 1 x14).bind fun x21 =>
(O.proj 2 x14).bind fun x22 =>
(O.proj 3 x14).bind fun x23 =>
(O.proj 4 x14).bind fun x24 =>
W F110 5 [x0, x1, x2, x3, x4, x5, x6, x7, x10, x20, x21, x22, x23, x24]) (
(O.proj 1 x9).bind fun x13 =>
(O.proj 2 x9).bind fun x14 =>
(O.proj 3 x9).bind fun x15 =>
(O.proj 4 x9).bind fun x16 =>
(O.proj 5 x9).bind fun x17 =>
W F110 5 [x0, x1, x2, x3, x4, x5, x6, x7, x10, x13, x14, x15, x16, x17])) (
calls (W F57 0 [x7]) 5 fun x9 x10 x11 x12 x13 =>
(O.mkagg [x9, x10, x11, x12, x13]).bind fun x14 =>
some [x14]) := V_is rfl (by kernel_rfl)
theorem e_F110_5 (x0 x1 x2 x3 x4 x5 x6 x7 x8 x9 x10 x11 x12 x13 : IV) : W F110 5 [x0, x1, x2, x3, x4, x5, x6, x7, x8, x9, x10, x11, x12, x13] =
(O.mkagg [x8, x9, x10, x11, x12, x13]).bind fun x14 =>
(O.mklist [x14]).bind fun x15 =>
(O.append 96 x7 x15).bind fun x16 =>
(O.add .i64 x2 (.int 1)).bind fun x17 =>
W F110 4 [x0, x1, x17, x3, x4, x5, x6, x16] := V_is rfl (by kernel_rfl)
theorem e_F111_0 (x0 : IV) : W F111 0 [x0] =
(O.mklist [x0]).bind fun x1 =>
calls (W F112 0 [x1]) 5 fun x2 x3 x4 x5 x6 =>
(O.index x5 (.int 0)).bind fun x7 =>
some [x7] := V_is rfl (by kernel_rfl)
theorem e_F112_0 (x0 : IV) : W F112 0 [x0] =
(O.mkagg [(.int 4), (.int 0), (.str ⟨#[]⟩), x0, (.list [])]).bind fun x1 =>
calls (W F69 0 [x1]) 5 fun x2 x3 x4 x5 x6 =>
some [x2, x3, x4, x5, x6] := V_is rfl (by kernel_rfl)
theorem e_F113_0 (x0 x1 : IV) : W F113 0 [x0, x1] =
(O.proj 5 x0).bind fun x2 =>
(O.len x2).bind fun x3 =>
(O.ne x3 (.int 1)).bind fun x4 =>
cnd x4 (
calls (W F111 0 [x1]) 1 fun x5 =>
some [x5]) (
(O.proj 3 x1).bind fun x5 =>
(O.len x5).bind fun x6 =>
W F113 1 [x5, x6, (.int 0), x0, (.int 0), (.int 0), (.str ⟨#[]⟩), (.list [])]) := V_is rfl (by kernel_rfl)
theorem e_F113_1 (x0 x1 x2 x3 x4 x5 x6 x7 : IV) : W F113 1 [x0, x1, x2, x3, x4, x5, x6, x7] =
(O.lt x2 x1).bind fun x8 =>
cnd x8 (
(O.index x0 x2).bind fun x9 =>
(O.proj 5 x3).bind fun x10 =>
(O.index x10 (.int 0)).bind fun x11 =>
calls (W F110 0 [x11, x9]) 1 fun x12 =>
(O.mklist [x12]).bind fun x13 =>
(O.append 80 x7 x13).bind fun x14 =>
(O.add .i64 x2 (.int 1)).bind fun x15 =>
W F113 1 [x0, x1, x15, x3, x4, x5, x6, x14]) (
calls (W F112 0 [x7]) 5 fun x9 x10 x11 x12 x13 =>
(O.mkagg [x9, x10, x11, x12, x13]).bind fun x14 =>
some [x14]) := V_is rfl (by kernel_rfl)
theorem e_F114_0 (x0 x1 x2 : IV) : W F114 0 [x0, x1, x2] =
calls (W F115 0 [x0, x1]) 1 fun x3 =>
(O.proj 0 x2).bind fun x4 =>
(O.proj 1 x2).bind fun x5 =>
(O.proj 2 x2).bind fun x6 =>
(O.proj 3 x2).bind fun x7 =>
(O.proj 4 x2).bind fun x8 =>
(O.mkagg [x1, x4, x5, x6, x7, x8]).bind fun x9 =>
(O.mklist [x9]).bind fun x10 =>
(O.append 96 x3 x10).bind fun x11 =>
calls (W F57 0 [x11]) 5 fun x12 x13 x14 x15 x16 =>
some [x12, x13, x14, x15, x16] := V_is rfl (by kernel_rfl)
theorem e_F115_0 (x0 x1 : IV) : W F115 0 [x0, x1] =
(O.proj 0 x0).bind fun x2 =>
(O.ne x2 (.int 5)).bind fun x3 =>
cnd x3 (
some [(.list [])]) (
(O.proj 4 x0).bind fun x4 =>
calls (W F58 0 [x4]) 1 fun x5 =>
calls (W F116 0 [x5, x1]) 1 fun x6 =>
some [x6]) := V_is rfl (by kernel_rfl)
theorem e_F116_0 (x0 x1 : IV) : W F116 0 [x0, x1] =
calls (W F117 0 [x0, x1]) 1 fun x2 =>
(O.eq x2 (.int (-1))).bind fun x3 =>
cnd x3 (
some [x0]) (
(O.add .i64 x2 (.int 1)).bind fun x4 =>
W F116 1 [x1, x2, x4, x0]) := V_is rfl (by kernel_rfl)
theorem e_F116_1 (x0 x1 x2 x3 : IV) : W F116 1 [x0, x1, x2, x3] =
(O.len x3).bind fun x4 =>
(O.lt x2 x4).bind fun x5 =>
cnd x5 (
(O.index x3 x2).bind fun x6 =>
calls (W F118 0 [x6, x0]) 1 fun x7 =>
(O.not x7).bind fun x8 =>
cnd x8 (
(O.index x3 x1).bind fun x9 =>
(O.setAt 0 6 true true x3 x1 x6).bind fun x10 =>
(O.add .i64 x1 (.int 1)).bind fun x11 =>
W F116 2 [x0, x11, x2, x10]) (
W F116 2 [x0, x1, x2, x3])) (
(O.slice x3 x1 x4).bind fun x6 =>
(O.clear (.agg [.str ⟨#[]⟩, .int 0, .int 0, .str ⟨#[]⟩, .list [], .list []]) x3 x1 x4).bind fun x7 =>
(O.slice x7 (.int 0) x1).bind fun x8 =>
(O.slice x7 (.int 0) x1).bind fun x9 =>
some [x9]) := V_is rfl (by kernel_rfl)
theorem e_F116_2 (x0 x1 x2 x3 : IV) : W F116 2 [x0, x1, x2, x3] =
(O.add .i64 x2 (.int 1)).bind fun x4 =>
W F116 1 [x0, x1, x4, x3] := V_is rfl (by kernel_rfl)
theorem e_F117_0 (x0 x1 : IV) : W F117 0 [x0, x1] =
(O.len x0).bind fun x2 =>
W F117 1 [x0, x1, x2, (.int 0)] := V_is rfl (by kernel_rfl)
theorem e_F117_1 (x0 x1 x2 x3 : IV) : W F117 1 [x0, x1, x2, x3] =
(O.lt x3 x2).bind fun x4 =>
cnd x4 (
(O.index x0 x3).bind fun x5 =>
calls (W F118 0 [x5, x1]) 1 fun x6 =>
cnd x6 (
some [x3]) (
(O.add .i64 x3 (.int 1)).bind fun x7 =>
W F117 1 [x0, x1, x2, x7])) (
some [(.int (-1))]) := V_is rfl (by kernel_rfl)
theorem e_F118_0 (x0 x1 : IV) : W F118 0 [x0, x1] =
(O.proj 0 x0).bind fun x2 =>
(O.sEq x2 x1).bind fun x3 =>
some [x3] := V_is rfl (by kernel_rfl)
theorem e_F119_0 (x0 x1 : IV) : W F119 0 [x0, x1] =
(O.proj 5 x0).bind fun x2 =>
(O.len x2).bind fun x3 =>
(O.eq x3 (.int 1)).bind fun x4 =>
cnd x4 (
(O.index x2 (.int 0)).bind fun x5 =>
some [x5, (.bool true)]) (
(O.proj 6 x0).bind fun x5 =>
(O.len x5).bind fun x6 =>
W F119 1 [x1, x5, x6, (.int 0), (.int 0), (.int 0), (.int 0), (.str ⟨#[]⟩)]) := V_is rfl (by kernel_rfl)
theorem e_F119_1 (x0 x1 x2 x3 x4 x5 x6 x7 : IV) : W F119 1 [x0, x1, x2, x3, x4, x5, x6, x7] =
(O.lt x3 x2).bind fun x8 =>
cnd x8 (
(O.index x1 x3).bind fun x9 =>
(O.proj 0 x9).bind fun x10 =>
(O.sEq x10 x0).bind fun x11 =>
cnd x11 (
(O.projs 4 7 x9).bind fun x12 =>
some [x12, (.bool true)]) (
(O.add .i64 x3 (.int 1)).bind fun x12 =>
W F119 1 [x0, x1, x2, x12, x4, x5, x6, x7])) (
(O.mkagg [(.int 0), (.int 0), (.int 0), (.list []), (.str ⟨#[]⟩), (.list []), (.list [])]).bind fun x9 =>
some [x9, (.bool false)]) := V_is rfl (by kernel_rfl)
theorem e_F123_0 (x0 x1 : IV) : W F123 0 [x0, x1] =
(O.proj 0 x1).bind fun x2 =>
(O.proj 0 x0).bind fun x3 =>
(O.ne x2 x3).bind fun x4 =>
(cnd x4 (some (.bool true)) (
(O.ne x2 (.int 5)).bind fun x5 =>
(cnd x5 (
(O.ne x2 (.int 4)).bind fun x6 =>
some x6) (some (.bool false))).bind fun x6 =>
some x6)).bind fun x5 =>
cnd x5 (
calls (W F111 0 [x1]) 1 fun x6 =>
some [x6]) (
(O.eq x2 (.int 4)).bind fun x6 =>
cnd x6 (
calls (W F124 0 [x0, x1]) 1 fun x7 =>
some [x7]) (
(O.proj 4 x1).bind fun x7 =>
(O.len x7).bind fun x8 =>
W F123 1 [x7, x8, (.int 0), x0, (.int 0), (.int 0), (.str ⟨#[]⟩), (.list [])])) := V_is rfl (by kernel_rfl)
theorem e_F123_1 (x0 x1 x2 x3 x4 x5 x6 x7 : IV) : W F123 1 [x0, x1, x2, x3, x4, x5, x6, x7] =
(O.lt x2 x1).bind fun x8 =>
cnd x8 (
(O.index x0 x2).bind fun x9 =>
(O.proj 0 x9).bind fun x10 =>
calls (W F119 0 [x3, x10]) 2 fun x11 x12 =>
(cnd x12 (
(O.proj 1 x9).bind fun x13 =>
(O.ne x13 (.int 0)).bind fun x14 =>
some x14) (some (.bool false))).bind fun x13 =>
cnd x13 (
(O.projs 1 5 x9).bind fun x14 =>
calls (W F123 0 [x11, x14]) 1 fun x15 =>
(O.proj 0 x15).bind fun x16 =>
(O.proj 1 x15).bind fun x17 =>
(O.proj 2 x15).bind fun x18 =>
(O.proj 3 x15).bind fun x19 =>
(O.proj 4 x15).bind fun x20 =>
(O.mkagg [x10, x16, x17, x18, x19, x20]).bind fun x21 =>
(O.mklist [x21]).bind fun x22 =>
(O.append 96 x7 x22).bind fun x23 =>
W F123 2 [x0, x1, x2, x3, x4, x5, x6, x23]) (
W F123 2 [x0, x1, x2, x3, x4, x5, x6, x7])) (
calls (W F57 0 [x7]) 5 fun x9 x10 x11 x12 x13 =>
(O.mkagg [x9, x10, x11, x12, x13]).bind fun x14 =>
some [x14]) := V_is rfl (by kernel_rfl)
theorem e_F123_2 (x0 x1 x2 x3 x4 x5 x6 x7 : IV) : W F123 2 [x0, x1, x2, x3, x4, x5, x6, x7] =
(O.add .i64 x2 (.int 1)).bind fun x8 =>
W F123 1 [x0, x1, x8, x3, x4, x5, x6, x7] := V_is rfl (by kernel_rfl)
theorem e_F124_0 (x0 x1 : IV) : W F124 0 [x0, x1] =
(O.proj 5 x0).bind fun x2 =>
(O.len x2).bind fun x3 =>
(O.ne x3 (.int 1)).bind fun x4 =>
cnd x4 (
calls (W F111 0 [x1]) 1 fun x5 =>
some [x5]) (
(O.proj 3 x1).bind fun x5 =>
(O.len x5).bind fun x6 =>
W F124 1 [x5, x6, (.int 0), x0, (.int 0), (.int 0), (.str ⟨#[]⟩), (.list [])]) := V_is rfl (by kernel_rfl)
theorem e_F124_1 (x0 x1 x2 x3 x4 x5 x6 x7 : IV) : W F124 1 [x0, x1, x2, x3, x4, x5, x6, x7] =
(O.lt x2 x1).bind fun x8 =>
cnd x8 (
(O.index x0 x2).bind fun x9 =>
(O.proj 5 x3).bind fun x10 =>
(O.index x10 (.int 0)).bind fun x11 =>
calls (W F123 0 [x11, x9]) 1 fun x12 =>
(O.mklist [x12]).bind fun x13 =>
(O.append 80 x7 x13).bind fun x14 =>
(O.add .i64 x2 (.int 1)).bind fun x15 =>
W F124 1 [x0, x1, x15, x3, x4, x5, x6, x14]) (
calls (W F112 0 [x7]) 5 fun x9 x10 x11 x12 x13 =>
(O.mkagg [x9, x10, x11, x12, x13]).bind fun x14 =>
some [x14]) := V_is rfl (by kernel_rfl)
theorem mixed : Tryz.prog.follows .mixedOrders = true := by kernel_rfl
theorem numbers : numbersOk specs = true := by kernel_rfl
theorem pr_ok : ∀ i s f, (i, s) ∈ specs → pr i = some f → PrimOk Tryz.prog f s := by
 intro i s f hm hp
 have hs := lookS_mem numbers hm
 unfold pr at hp
 split at hp
 ·injection hp with hp; subst hp; have he := hs.symm.trans (show lookS 58 specs = some ⟨135, [.data 31], [.cells 31 [true]], true⟩ by kernel_rfl); injection he with he; subst he
  exact clone_ok mixed (e := 70) (fn := fnAt Tryz.prog 135) (root := rootAt Tryz.prog 135) (rest := restAt Tryz.prog 135) ⟨by kernel_rfl, by kernel_rfl, by kernel_rfl, by kernel_rfl, by kernel_rfl, of_decide_eq_true (by kernel_rfl), by kernel_rfl, by kernel_rfl, by kernel_rfl, by kernel_rfl, 96, by kernel_rfl, of_decide_eq_true (by kernel_rfl)⟩
 ·injection hp with hp; subst hp; have he := hs.symm.trans (show lookS 65 specs = some ⟨199, [.data 9, .data 9], [.whole 3], false⟩ by kernel_rfl); injection he with he; subst he
  exact compare_ok (fn := fnAt Tryz.prog 199) (ts := 9) (ti := 3) (by kernel_rfl) (by kernel_rfl) (by kernel_rfl) (by kernel_rfl) (by kernel_rfl) (by kernel_rfl) (by kernel_rfl)
 ·injection hp with hp; subst hp; have he := hs.symm.trans (show lookS 70 specs = some ⟨190, [.data 30], [.cells 30 [true]], true⟩ by kernel_rfl); injection he with he; subst he
  exact clone_ok mixed (e := 33) (fn := fnAt Tryz.prog 190) (root := rootAt Tryz.prog 190) (rest := restAt Tryz.prog 190) ⟨by kernel_rfl, by kernel_rfl, by kernel_rfl, by kernel_rfl, by kernel_rfl, of_decide_eq_true (by kernel_rfl), by kernel_rfl, by kernel_rfl, by kernel_rfl, by kernel_rfl, 80, by kernel_rfl, of_decide_eq_true (by kernel_rfl)⟩
 ·injection hp with hp; subst hp; have he := hs.symm.trans (show lookS 83 specs = some ⟨233, [.bld 176 true], [], false⟩ by kernel_rfl); injection he with he; subst he
  exact copyCheck_ok chkLays chkExtra (by kernel_rfl) (by kernel_rfl)
 ·injection hp with hp; subst hp; have he := hs.symm.trans (show lookS 84 specs = some ⟨209, [.data 3], [.whole 9], false⟩ by kernel_rfl); injection he with he; subst he
  exact itoa_ok Tryz.lays171 (by kernel_rfl) (by kernel_rfl) (by kernel_rfl)
 ·injection hp with hp; subst hp; have he := hs.symm.trans (show lookS 87 specs = some ⟨211, [.bld 176 false], [.whole 9], false⟩ by kernel_rfl); injection he with he; subst he
  exact string_ok Tryz.lays169 Tryz.extra (by kernel_rfl) (by kernel_rfl) (by kernel_rfl) (by kernel_rfl)
 ·injection hp with hp; subst hp; have he := hs.symm.trans (show lookS 90 specs = some ⟨262, [.data 174, .data 21], [.cells 174 [true]], false⟩ by kernel_rfl); injection he with he; subst he
  exact none_ok
 ·injection hp with hp; subst hp; have he := hs.symm.trans (show lookS 98 specs = some ⟨195, [.data 39], [.cells 39 [true]], false⟩ by kernel_rfl); injection he with he; subst he
  exact clone_ok mixed (e := 74) (fn := fnAt Tryz.prog 195) (root := rootAt Tryz.prog 195) (rest := restAt Tryz.prog 195) ⟨by kernel_rfl, by kernel_rfl, by kernel_rfl, by kernel_rfl, by kernel_rfl, of_decide_eq_true (by kernel_rfl), by kernel_rfl, by kernel_rfl, by kernel_rfl, by kernel_rfl, 48, by kernel_rfl, of_decide_eq_true (by kernel_rfl)⟩
 ·injection hp with hp; subst hp; have he := hs.symm.trans (show lookS 99 specs = some ⟨194, [.own 39], [.clip 39], true⟩ by kernel_rfl); injection he with he; subst he
  exact clip_ok (fn := fnAt Tryz.prog 194) (e := 74) (by kernel_rfl) (by kernel_rfl) (by kernel_rfl) (by kernel_rfl) clip_walk194
 ·cases hp
theorem soundW : ∀ k, Sound Tryz.prog specs (run (tab Tryz.prog specs blks 3000) pr k) := sound_tab mixed numbers (by kernel_rfl) pr_ok
end Go.CT.Sch
