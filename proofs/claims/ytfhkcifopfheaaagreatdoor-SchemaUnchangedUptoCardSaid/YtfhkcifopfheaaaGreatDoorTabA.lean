import Derived.Test.YtfhkcifopfheaaaGreatDoorCtC
import Derived.Test.YtfhkcifopfheaaaGreatDoorLib
import Derived.Test.YtfhkcifopfheaaaGreatDoorRows
set_option linter.unusedVariables false
set_option linter.unusedSimpArgs false
namespace Go.CT.Sch
open Go.Proofs
def F1 : Nat := 1 -- law07_small
def F2 : Nat := 2 -- ref04_Small
def F3 : Nat := 3 -- ref04_count
def F4 : Nat := 4 -- law07_awake
def F10 : Nat := 10 -- schema_Valid
def F11 : Nat := 11 -- schema_valid
def F12 : Nat := 12 -- schema_bounded
def F13 : Nat := 13 -- schema_enumerated
def F14 : Nat := 14 -- value_String
def F15 : Nat := 15 -- value_Valid
def F16 : Nat := 16 -- value_valid
def F17 : Nat := 17 -- value_scalar
def F18 : Nat := 18 -- value_text
def F19 : Nat := 19 -- value_name
def F20 : Nat := 20 -- value_Size
def F21 : Nat := 21 -- schema_keyed
def F22 : Nat := 22 -- schema_field
def F23 : Nat := 23 -- slices_IndexFunc_SchemaField_schema_field_1
def F24 : Nat := 24 -- schema_field_1
def F25 : Nat := 25 -- schema_structure
def F26 : Nat := 26 -- slices_ContainsFunc_Schema_schema_valid_1
def F27 : Nat := 27 -- slices_IndexFunc_Schema_schema_valid_1
def F28 : Nat := 28 -- schema_valid_1
def F29 : Nat := 29 -- schema_fields
def F30 : Nat := 30 -- value_Map
def F31 : Nat := 31 -- slices_Clone_Field
def F32 : Nat := 32 -- slices_SortStableFunc_Field_value_Map_1
def F33 : Nat := 33 -- slices_stableCmpFunc_Field_value_Map_1
def F34 : Nat := 34 -- slices_insertionSortCmpFunc_Field_value_Map_1
def F35 : Nat := 35 -- value_Map_1
def F36 : Nat := 36 -- strings_Compare
def F37 : Nat := 37 -- internal_bytealg_CompareString
def F38 : Nat := 38 -- internal_bytealg_abigen_runtime_cmpstring
def F39 : Nat := 39 -- slices_symMergeCmpFunc_Field_value_Map_1
def F40 : Nat := 40 -- slices_rotateCmpFunc_Field_value_Map_1
def F41 : Nat := 41 -- slices_swapRangeCmpFunc_Field_value_Map_1
def F42 : Nat := 42 -- value_clone
def F43 : Nat := 43 -- slices_Clone_Value
def F44 : Nat := 44 -- schema_errors
def F45 : Nat := 45 -- schema_report_check
def F46 : Nat := 46 -- schema_report_add
def F47 : Nat := 47 -- path_Print
def F48 : Nat := 48 -- path_Valid
def F49 : Nat := 49 -- slices_ContainsFunc_Step_path_Valid_1
def F50 : Nat := 50 -- slices_IndexFunc_Step_path_Valid_1
def F51 : Nat := 51 -- path_Valid_1
def F52 : Nat := 52 -- path_validStep
def F53 : Nat := 53 -- path_validName
def F54 : Nat := 54 -- path_nameRune
def F55 : Nat := 55 -- strings_Builder_WriteByte
def F56 : Nat := 56 -- strings_Builder_copyCheck
def F57 : Nat := 57 -- strconv_Itoa
def F58 : Nat := 58 -- strings_Builder_WriteString
def F59 : Nat := 59 -- path_quote
def F60 : Nat := 60 -- strings_Builder_String
def F61 : Nat := 61 -- strings_Builder_WriteRune
def F62 : Nat := 62 -- unicode_utf8_AppendRune
def F63 : Nat := 63 -- unicode_utf8_appendRuneNonASCII
def F64 : Nat := 64 -- slices_Contains_string
def F65 : Nat := 65 -- slices_Index_string
def F66 : Nat := 66 -- schema_report_list
def F67 : Nat := 67 -- schema_element
def F68 : Nat := 68 -- schema_key
def F69 : Nat := 69 -- value_Get
def F70 : Nat := 70 -- schema_then
def F71 : Nat := 71 -- slices_Clone_Step
def F72 : Nat := 72 -- slices_Clip_Step
def F73 : Nat := 73 -- schema_dictionary
def F74 : Nat := 74 -- schema_report_structure
def F75 : Nat := 75 -- schema_member
def F76 : Nat := 76 -- schema_present
def F105 : Nat := 105 -- ref06_Valid
def F106 : Nat := 106 -- ref06_validStep
def F107 : Nat := 107 -- ref06_validName
def F108 : Nat := 108 -- ref06_NameChar
def F109 : Nat := 109 -- ref06_validString
def F120 : Nat := 120 -- law07_light
def F125 : Nat := 125 -- ref04_Equal
def F126 : Nat := 126 -- ref04_Compare
def F127 : Nat := 127 -- ref04_order
def F129 : Nat := 129 -- ref06_Get
def F130 : Nat := 130 -- ref06_Find
def F131 : Nat := 131 -- ref06_field
def F132 : Nat := 132 -- ref06_has
def F150 : Nat := 150 -- schema_Changes
def F151 : Nat := 151 -- schema_report_compare
def F152 : Nat := 152 -- value_Equal
def F153 : Nat := 153 -- value_Compare
def F154 : Nat := 154 -- cmp_Compare
def F155 : Nat := 155 -- cmp_isNaN
def F156 : Nat := 156 -- slices_CompareFunc_Value_value_Compare
def F157 : Nat := 157 -- slices_CompareFunc_Field_value_Compare_1
def F158 : Nat := 158 -- value_Compare_1
def F159 : Nat := 159 -- cmp_Or
def F160 : Nat := 160 -- slices_IndexFunc_Value_schema_report_compare_1
def F161 : Nat := 161 -- schema_report_compare_1
def F162 : Nat := 162 -- slices_SortStableFunc_FieldError_schema_Changes_1
def F163 : Nat := 163 -- slices_stableCmpFunc_FieldError_schema_Changes_1
def F164 : Nat := 164 -- slices_insertionSortCmpFunc_FieldError_schema_Changes_1
def F165 : Nat := 165 -- schema_Changes_1
def F166 : Nat := 166 -- slices_symMergeCmpFunc_FieldError_schema_Changes_1
def F167 : Nat := 167 -- slices_rotateCmpFunc_FieldError_schema_Changes_1
def F168 : Nat := 168 -- slices_swapRangeCmpFunc_FieldError_schema_Changes_1
def F172 : Nat := 172 -- law07_SchemaUnchanged
def F173 : Nat := 173 -- ref06_Parse
def F174 : Nat := 174 -- ref06_step
def F175 : Nat := 175 -- ref06_bracket
def F176 : Nat := 176 -- ref06_name
def F177 : Nat := 177 -- ref06_number
def F178 : Nat := 178 -- ref06_digits
def F179 : Nat := 179 -- ref06_quoted
def specs : List (Nat × Spec) := [
 (0, ⟨3, [.data 26], [.whole 4], false⟩),
 (1, ⟨15, [.data 26, .data 3], [.whole 3], false⟩),
 (2, ⟨53, [.data 33, .data 3], [.whole 4], false⟩),
 (3, ⟨102, [.data 33, .data 3, .data 3], [.whole 3], false⟩),
 (4, ⟨16, [], [.whole 4], false⟩),
 (5, ⟨54, [], [.cells 26 [false, false, false, true, false, true, true]], true⟩),
 (6, ⟨55, [.data 31], [.cells 33 [false, false, false, true, true]], true⟩),
 (7, ⟨104, [.data 33], [.cells 33 [false, false, false, true, true]], true⟩),
 (8, ⟨103, [.data 31, .data 70], [.cells 31 [true]], true⟩),
 (9, ⟨21, [.data 26, .data 33], [.cells 36 [true]], false⟩),
 (10, ⟨17, [.data 26], [.whole 4], false⟩),
 (11, ⟨60, [.data 26, .data 3], [.whole 4], false⟩),
 (12, ⟨105, [.data 26, .data 3], [.whole 4], false⟩),
 (13, ⟨106, [.data 26], [.whole 4], false⟩),
 (14, ⟨175, [.data 9], [.cells 33 [false, false, false, true, true]], true⟩),
 (15, ⟨62, [.data 33], [.whole 4], false⟩),
 (16, ⟨115, [.data 33, .data 3], [.whole 4], false⟩),
 (17, ⟨178, [.data 33], [.whole 4], false⟩),
 (18, ⟨220, [.data 9], [.whole 4], false⟩),
 (19, ⟨179, [.data 9], [.whole 4], false⟩),
 (20, ⟨116, [.data 33], [.whole 3], false⟩),
 (21, ⟨107, [.data 26], [.whole 4], false⟩),
 (22, ⟨125, [.data 26, .data 9], [.whole 64, .whole 4], true⟩),
 (23, ⟨185, [.data 24, .fn 186 [9]], [.whole 3], false⟩),
 (24, ⟨186, [.data 64, .rd 9], [.whole 4], false⟩),
 (25, ⟨187, [.data 26], [.whole 4], false⟩),
 (26, ⟨108, [.data 23, .fn 109 [3]], [.whole 4], false⟩),
 (27, ⟨176, [.data 23, .fn 109 [3]], [.whole 3], false⟩),
 (28, ⟨109, [.data 26, .rd 3], [.whole 4], false⟩),
 (29, ⟨110, [.data 26, .data 3], [.whole 4], false⟩),
 (30, ⟨78, [.data 31], [.cells 33 [false, false, false, true, true]], true⟩),
 (31, ⟨135, [.data 31], [.cells 31 [true]], true⟩),
 (32, ⟨136, [.arr 31, .fn 137 []], [], false⟩),
 (33, ⟨193, [.arr 31, .data 3, .fn 137 []], [], false⟩),
 (34, ⟨224, [.arr 31, .data 3, .data 3, .fn 137 []], [], false⟩),
 (35, ⟨137, [.data 70, .data 70], [.whole 3], false⟩),
 (36, ⟨84, [.data 9, .data 9], [.whole 3], false⟩),
 (37, ⟨150, [.data 9, .data 9], [.whole 3], false⟩),
 (38, ⟨199, [.data 9, .data 9], [.whole 3], false⟩),
 (39, ⟨225, [.arr 31, .data 3, .data 3, .data 3, .fn 137 []], [], false⟩),
 (40, ⟨240, [.arr 31, .data 3, .data 3, .data 3, .fn 137 []], [], false⟩),
 (41, ⟨257, [.arr 31, .data 3, .data 3, .data 3, .fn 137 []], [], false⟩),
 (42, ⟨133, [.data 33], [.cells 33 [false, false, false, true, true]], true⟩),
 (43, ⟨190, [.data 30], [.cells 30 [true]], true⟩),
 (44, ⟨63, [.data 26, .data 33], [.cells 36 [true]], false⟩),
 (45, ⟨117, [.box 89 [true], .data 26, .data 33, .data 39], [], false⟩),
 (46, ⟨144, [.box 89 [true], .data 39, .data 50], [], false⟩),
 (47, ⟨160, [.data 39], [.whole 9, .whole 50], false⟩),
 (48, ⟨65, [.data 39], [.whole 4], false⟩),
 (49, ⟨121, [.data 39, .fn 122 []], [.whole 4], false⟩),
 (50, ⟨183, [.data 39, .fn 122 []], [.whole 3], false⟩),
 (51, ⟨122, [.data 74], [.whole 4], false⟩),
 (52, ⟨123, [.data 74], [.whole 4], false⟩),
 (53, ⟨184, [.data 9], [.whole 4], false⟩),
 (54, ⟨222, [.data 21], [.whole 4], false⟩),
 (55, ⟨207, [.bld 176 true, .data 5], [.skip], false⟩),
 (56, ⟨233, [.bld 176 true], [], false⟩),
 (57, ⟨209, [.data 3], [.whole 9], false⟩),
 (58, ⟨208, [.bld 176 true, .data 9], [.whole 3, .skip], false⟩),
 (59, ⟨210, [.data 9], [.whole 9], false⟩),
 (60, ⟨211, [.bld 176 false], [.whole 9], false⟩),
 (61, ⟨235, [.bld 176 true, .data 21], [.whole 3, .skip], false⟩),
 (62, ⟨245, [.own 174, .data 21], [.cells 174 [true]], false⟩),
 (63, ⟨262, [.data 174, .data 21], [.cells 174 [true]], false⟩),
 (64, ⟨180, [.data 22, .data 9], [.whole 4], false⟩),
 (65, ⟨221, [.data 22, .data 9], [.whole 3], false⟩),
 (66, ⟨181, [.box 89 [true], .data 26, .data 33, .data 39], [], false⟩),
 (67, ⟨148, [.data 26, .data 3, .data 33], [.whole 74], false⟩),
 (68, ⟨145, [.data 33, .data 9], [.whole 9, .whole 4], false⟩),
 (69, ⟨75, [.data 33, .data 9], [.cells 33 [false, false, false, true, true], .whole 4], true⟩),
 (70, ⟨141, [.data 39, .data 74], [.cells 39 [true]], false⟩),
 (71, ⟨195, [.data 39], [.cells 39 [true]], false⟩),
 (72, ⟨194, [.own 39], [.clip 39], true⟩),
 (73, ⟨124, [.data 26], [.whole 4], false⟩),
 (74, ⟨182, [.box 89 [true], .data 26, .data 33, .data 39], [], false⟩),
 (75, ⟨142, [.data 9], [.whole 74], false⟩),
 (76, ⟨140, [.data 33, .data 9], [.cells 33 [false, false, false, true, true], .whole 4], true⟩),
 (77, ⟨56, [.data 9], [.cells 33 [false, false, false, true, true]], true⟩),
 (78, ⟨57, [.data 3], [.cells 33 [false, false, false, true, true]], true⟩),
 (79, ⟨59, [.data 9], [.cells 33 [false, false, false, true, true]], true⟩),
 (80, ⟨58, [.data 30], [.cells 33 [false, false, false, true, true]], true⟩),
 (81, ⟨23, [.data 26, .data 39], [.cells 26 [false, false, false, true, false, true, true], .whole 4], true⟩),
 (82, ⟨66, [.data 26, .data 74], [.whole 26, .whole 4], true⟩),
 (83, ⟨67, [.data 26], [.cells 26 [false, false, false, true, false, true, true]], true⟩),
 (84, ⟨126, [.data 22], [.cells 22 [true]], false⟩),
 (85, ⟨127, [.data 23], [.cells 23 [true]], true⟩),
 (86, ⟨128, [.data 24], [.cells 24 [true]], true⟩),
 (87, ⟨129, [.data 30], [.cells 33 [false, false, false, true, true]], true⟩),
 (88, ⟨20, [.data 36, .data 36], [.whole 4], false⟩),
 (89, ⟨18, [.data 26], [.whole 4], false⟩),
 (90, ⟨61, [.data 26, .data 3], [.whole 4], false⟩),
 (91, ⟨111, [.data 26], [.whole 4], false⟩),
 (92, ⟨112, [.data 26], [.whole 4], false⟩),
 (93, ⟨177, [.data 9], [.whole 4], false⟩),
 (94, ⟨113, [.data 26, .data 3], [.whole 4], false⟩),
 (95, ⟨69, [.data 26, .data 9], [.whole 64, .whole 4], true⟩),
 (96, ⟨114, [.data 26, .data 3], [.whole 4], false⟩),
 (97, ⟨139, [.data 9], [.whole 4], false⟩),
 (98, ⟨31, [.data 33], [.whole 4], false⟩),
 (99, ⟨79, [.data 33, .data 3], [.whole 4], false⟩),
 (100, ⟨138, [.data 33], [.whole 4], false⟩),
 (101, ⟨80, [.data 33], [.whole 3], false⟩),
 (102, ⟨64, [.data 26, .data 33, .data 39], [.cells 36 [true]], false⟩),
 (103, ⟨118, [.data 39, .data 50], [.cells 36 [true]], false⟩),
 (104, ⟨166, [.data 39], [.whole 9, .whole 50], false⟩),
 (105, ⟨68, [.data 39], [.whole 4], false⟩),
 (106, ⟨130, [.data 74], [.whole 4], false⟩),
 (107, ⟨188, [.data 9], [.whole 4], false⟩),
 (108, ⟨204, [.data 5], [.whole 4], false⟩),
 (109, ⟨189, [.data 9], [.whole 4], false⟩),
 (110, ⟨216, [.data 3], [.whole 9], false⟩),
 (111, ⟨217, [.data 9], [.whole 9], false⟩),
 (112, ⟨119, [.data 26, .data 33, .data 39], [.cells 36 [true]], false⟩),
 (113, ⟨154, [.data 26, .data 30, .data 3], [.whole 74], false⟩),
 (114, ⟨151, [.data 33, .data 9], [.whole 9, .whole 4], false⟩),
 (115, ⟨200, [.data 33, .data 9], [.cells 33 [false, false, false, true, true], .whole 4], true⟩),
 (116, ⟨153, [.data 39, .data 74], [.cells 39 [true]], false⟩),
 (117, ⟨120, [.data 26, .data 33, .data 39], [.cells 36 [true]], false⟩),
 (118, ⟨155, [.data 33, .data 9], [.cells 33 [false, false, false, true, true], .whole 4], true⟩),
 (119, ⟨4, [.data 26, .data 33], [.whole 4], false⟩),
 (120, ⟨19, [.data 26, .data 33, .data 33], [.whole 4], false⟩),
 (121, ⟨22, [.data 26, .data 33], [.cells 36 [true]], false⟩),
 (122, ⟨5, [.data 26, .data 39], [.whole 4], false⟩),
 (123, ⟨24, [.data 26, .data 39], [.whole 26, .whole 4], true⟩),
 (124, ⟨25, [.data 26, .data 26], [.whole 4], false⟩),
 (125, ⟨35, [.data 33, .data 33], [.whole 4], false⟩),
 (126, ⟨87, [.data 33, .data 33], [.whole 3], false⟩),
 (127, ⟨158, [.data 4, .data 4], [.whole 3], false⟩),
 (128, ⟨6, [.data 26, .data 33, .data 39], [.whole 4], false⟩),
 (129, ⟨26, [.data 33, .data 39], [.whole 33, .whole 4], true⟩),
 (130, ⟨70, [.data 33, .data 74], [.whole 3], false⟩),
 (131, ⟨131, [.data 33, .data 9], [.whole 3], false⟩),
 (132, ⟨132, [.data 33, .data 9, .data 9], [.whole 4], false⟩),
 (133, ⟨7, [.data 26, .data 33], [.whole 4], false⟩),
 (134, ⟨27, [.data 26, .data 33], [.whole 4], false⟩),
 (135, ⟨71, [.data 26, .data 3], [.whole 3], false⟩),
 (136, ⟨28, [], [.whole 4], false⟩),
 (137, ⟨72, [], [.cells 26 [false, false, false, true, false, true, true]], true⟩),
 (138, ⟨29, [.data 26, .data 33], [.whole 33], true⟩),
 (139, ⟨73, [.data 33], [.whole 33], true⟩),
 (140, ⟨74, [.data 26, .data 33, .fn 29 []], [.whole 33], true⟩),
 (141, ⟨76, [.data 33, .data 9, .data 33], [.cells 33 [false, false, false, true, true]], true⟩),
 (142, ⟨134, [.data 33, .data 9], [.cells 31 [true]], true⟩),
 (143, ⟨191, [.own 31, .fn 192 [9]], [.cells 31 [true]], true⟩),
 (144, ⟨223, [.data 31, .fn 192 [9]], [.whole 3], false⟩),
 (145, ⟨192, [.data 70, .rd 9], [.whole 4], false⟩),
 (146, ⟨77, [.data 26, .data 9], [.whole 26, .whole 4], true⟩),
 (147, ⟨30, [.data 26, .data 33], [.whole 33], true⟩),
 (148, ⟨74, [.data 26, .data 33, .fn 30 []], [.whole 33], true⟩),
 (149, ⟨8, [.data 26, .data 33, .data 33], [.whole 4], false⟩),
 (150, ⟨32, [.data 26, .data 33, .data 33], [.cells 36 [true]], false⟩),
 (151, ⟨81, [.box 89 [true], .data 26, .data 33, .data 33, .data 39], [], false⟩),
 (152, ⟨143, [.data 33, .data 33], [.whole 4], false⟩),
 (153, ⟨196, [.data 33, .data 33], [.whole 3], false⟩),
 (154, ⟨227, [.data 3, .data 3], [.whole 3], false⟩),
 (155, ⟨241, [.data 3], [.whole 4], false⟩),
 (156, ⟨228, [.data 30, .data 30, .fn 196 []], [.whole 3], false⟩),
 (157, ⟨229, [.data 31, .data 31, .fn 230 []], [.whole 3], false⟩),
 (158, ⟨230, [.data 70, .data 70], [.whole 3], false⟩),
 (159, ⟨226, [.data 202], [.whole 3], false⟩),
 (160, ⟨146, [.data 30, .fn 147 [26, 9]], [.whole 3], false⟩),
 (161, ⟨147, [.data 33, .rd 26, .rd 9], [.whole 4], false⟩),
 (162, ⟨82, [.arr 36, .fn 83 []], [], false⟩),
 (163, ⟨149, [.arr 36, .data 3, .fn 83 []], [], false⟩),
 (164, ⟨197, [.arr 36, .data 3, .data 3, .fn 83 []], [], false⟩),
 (165, ⟨83, [.data 54, .data 54], [.whole 3], false⟩),
 (166, ⟨198, [.arr 36, .data 3, .data 3, .data 3, .fn 83 []], [], false⟩),
 (167, ⟨231, [.arr 36, .data 3, .data 3, .data 3, .fn 83 []], [], false⟩),
 (168, ⟨242, [.arr 36, .data 3, .data 3, .data 3, .fn 83 []], [], false⟩),
 (169, ⟨33, [.data 26, .data 33, .data 33], [.cells 36 [true]], false⟩),
 (170, ⟨85, [.data 26, .data 33, .data 33, .data 39], [.cells 36 [true]], false⟩),
 (171, ⟨152, [.data 30, .data 9, .data 9], [.whole 33, .whole 4], true⟩),
 (172, ⟨9, [.data 26, .data 33, .data 33], [.whole 4], false⟩),
 (173, ⟨34, [.data 9], [.cells 39 [true], .whole 50], false⟩),
 (174, ⟨86, [.data 9, .data 3], [.whole 96], false⟩),
 (175, ⟨156, [.data 9, .data 3], [.whole 96], false⟩),
 (176, ⟨157, [.data 9, .data 3], [.whole 3], false⟩),
 (177, ⟨201, [.data 9], [.whole 3], false⟩),
 (178, ⟨202, [.data 9], [.whole 4], false⟩),
 (179, ⟨203, [.data 9, .data 3], [.whole 9, .whole 3, .whole 4], false⟩)]
def b1 : List Blk := [
 ⟨[(0, 0, [false, false, true, false, true, true, true]), (2, 0, [false, false, true, false, true, true, true]), (1, 0, []), (0, 0, [true, true, true, true])], ⟨3, 1, [(1, ⟨[], .one (.leaf (.at (.v 0) 3))⟩), (2, ⟨[], .one (.leaf (.ptr (.p 0 0)))⟩), (5, ⟨[], .one (.leaf (.at (.v 1) 3))⟩)], [(0, .box 26 (.leaf (.at (.v 2) 26)))]⟩⟩,
 ⟨[(0, 0, [false, false, true, false, true, true, true, true]), (2, 0, [false, false, true, false, true, true, true, true]), (1, 2, []), (0, 0, [true, true, true, true, true])], ⟨3, 1, [(1, ⟨[], .one (.leaf (.at (.v 0) 3))⟩), (2, ⟨[], .one (.leaf (.ptr (.p 0 0)))⟩), (6, ⟨[], .one (.leaf (.at (.v 1) 3))⟩)], [(0, .box 26 (.leaf (.at (.v 2) 26)))]⟩⟩,
 ⟨[(0, 0, [false, false, true, false, true, false, false, true, false, false, true, false, true, true, true, true]), (2, 0, [false, false, true, false, true, false, false, true, false, false, true, false, true, true, true, true]), (1, 4, []), (0, 0, [true, true, false, false, true, false, false, true, false, true, true, true, true]), (1, 3, []), (0, 0, [true, true, false, false, true, false, true, true, true, true]), (2, 0, [false, false, true, false, true, true, true, true]), (1, 2, []), (0, 0, [true, true, true, true, true])], ⟨4, 1, [(1, ⟨[], .one (.leaf (.at (.v 0) 3))⟩), (2, ⟨[], .one (.leaf (.ptr (.p 0 0)))⟩), (6, ⟨[], .one (.leaf (.at (.v 1) 3))⟩), (7, ⟨[], .one (.leaf (.at (.v 2) 3))⟩)], [(0, .box 26 (.leaf (.at (.v 3) 26)))]⟩⟩]
def b3 : List Blk := [
 ⟨[(0, 0, [false, false, true, false, true, true, true]), (2, 0, [false, false, true, false, true, true, true]), (1, 0, []), (0, 0, [true, true, true, true])], ⟨4, 1, [(1, ⟨[], .one (.leaf (.at (.v 0) 3))⟩), (2, ⟨[], .one (.leaf (.at (.v 1) 3))⟩), (3, ⟨[], .one (.leaf (.ptr (.p 0 0)))⟩), (7, ⟨[], .one (.leaf (.at (.v 2) 3))⟩)], [(0, .box 33 (.leaf (.at (.v 3) 33)))]⟩⟩,
 ⟨[(0, 0, [false, false, true, false, true, true, true, true]), (2, 0, [false, false, true, false, true, true, true, true]), (1, 2, []), (0, 0, [true, true, true, true, true])], ⟨4, 1, [(1, ⟨[], .one (.leaf (.at (.v 0) 3))⟩), (2, ⟨[], .one (.leaf (.at (.v 1) 3))⟩), (3, ⟨[], .one (.leaf (.ptr (.p 0 0)))⟩), (8, ⟨[], .one (.leaf (.at (.v 2) 3))⟩)], [(0, .box 33 (.leaf (.at (.v 3) 33)))]⟩⟩]
def b6 : List Blk := [
 ⟨[(0, 0, [false, false, true, false, true, true]), (2, 0, [false, false, true, false, true, true]), (1, 0, []), (0, 0, [true, true, true])], ⟨9, 3, [(0, ⟨[], .one (.leaf (.at (.v 0) 31))⟩), (2, ⟨[], .one (.leaf (.ptr (.p 0 0)))⟩), (3, ⟨[], .one (.leaf (.ptr (.p 1 0)))⟩), (4, ⟨[], .one (.leaf (.at (.v 1) 3))⟩)], [(0, .box 33 (.agg 33 [.at (.v 2) 3, .at (.v 3) 3, .at (.v 4) 9, .nil 30, .nil 31])), (1, .box 33 (.agg 33 [.at (.v 5) 3, .at (.v 6) 3, .at (.v 7) 9, .nil 30, .ref 2 31])), (2, .arr 70 31 (.v 8))]⟩⟩]
def b7 : List Blk := [
 ⟨[(0, 0, [false, false, true, false, true, true]), (2, 0, [false, false, true, false, true, true]), (1, 0, []), (0, 0, [true, true, true])], ⟨9, 4, [(1, ⟨[], .one (.leaf (.ptr (.p 0 0)))⟩), (2, ⟨[], .one (.leaf (.ptr (.p 1 0)))⟩), (3, ⟨[], .one (.leaf (.ptr (.p 2 0)))⟩), (4, ⟨[], .one (.leaf (.at (.v 0) 3))⟩)], [(0, .box 33 (.leaf (.at (.v 1) 33))), (1, .box 33 (.agg 33 [.at (.v 2) 3, .at (.v 3) 3, .at (.v 4) 9, .nil 30, .nil 31])), (2, .box 33 (.agg 33 [.at (.v 5) 3, .at (.v 6) 3, .at (.v 7) 9, .ref 3 30, .nil 31])), (3, .arr 33 30 (.v 8))]⟩⟩,
 ⟨[(0, 0, [false, false, true, false, true, true, true]), (2, 0, [false, false, true, false, true, true, true]), (1, 2, []), (0, 0, [true, true, true, true])], ⟨10, 5, [(1, ⟨[], .one (.leaf (.ptr (.p 0 0)))⟩), (2, ⟨[], .one (.leaf (.ptr (.p 1 0)))⟩), (3, ⟨[], .one (.leaf (.ptr (.p 2 0)))⟩), (5, ⟨[], .one (.leaf (.at (.v 0) 3))⟩)], [(0, .box 33 (.leaf (.at (.v 1) 33))), (1, .box 33 (.agg 33 [.at (.v 2) 3, .at (.v 3) 3, .at (.v 4) 9, .nil 30, .nil 31])), (2, .box 33 (.agg 33 [.at (.v 5) 3, .at (.v 6) 3, .at (.v 7) 9, .ref 3 30, .ref 4 31])), (3, .arr 33 30 (.v 8)), (4, .arr 70 31 (.v 9))]⟩⟩]
def b8 : List Blk := [
 ⟨[(0, 0, [false, false, true, false, true, true, true]), (2, 0, [false, false, true, false, true, true, true]), (1, 0, []), (0, 0, [true, true, true, true])], ⟨5, 2, [(0, ⟨[], .one (.leaf (.at (.v 0) 31))⟩), (3, ⟨[], .one (.leaf (.ptr (.p 0 0)))⟩), (5, ⟨[], .one (.leaf (.ref 1 31))⟩), (6, ⟨[], .one (.leaf (.at (.v 1) 4))⟩), (7, ⟨[], .one (.leaf (.at (.v 2) 3))⟩)], [(0, .box 70 (.leaf (.at (.v 3) 70))), (1, .arr 70 31 (.v 4))]⟩⟩,
 ⟨[(0, 0, [true, false, false, true, false, false, true, false, true, true, true]), (1, 1, []), (0, 0, [true, true, false, false, true, false, true, true, true]), (2, 0, [false, false, true, false, true, true, true]), (1, 0, []), (0, 0, [true, true, true, true])], ⟨5, 2, [(0, ⟨[], .one (.leaf (.at (.v 0) 31))⟩), (3, ⟨[], .one (.leaf (.ptr (.p 0 0)))⟩), (5, ⟨[], .one (.leaf (.ref 1 31))⟩), (6, ⟨[], .one (.leaf (.at (.v 1) 4))⟩), (7, ⟨[], .one (.leaf (.at (.v 2) 3))⟩)], [(0, .box 70 (.leaf (.at (.v 3) 70))), (1, .arr 70 31 (.v 4))]⟩⟩,
 ⟨[(1, 1, []), (0, 0, [true, true, false, false, true, false, true, true, true]), (2, 0, [false, false, true, false, true, true, true]), (1, 0, []), (0, 0, [true, true, true, true])], ⟨5, 2, [(0, ⟨[], .one (.leaf (.at (.v 0) 31))⟩), (3, ⟨[], .one (.leaf (.ptr (.p 0 0)))⟩), (5, ⟨[], .one (.leaf (.ref 1 31))⟩), (6, ⟨[], .one (.leaf (.at (.v 1) 4))⟩), (7, ⟨[], .one (.leaf (.at (.v 2) 3))⟩)], [(0, .box 70 (.leaf (.at (.v 3) 70))), (1, .arr 70 31 (.v 4))]⟩⟩]
def b13 : List Blk := [
 ⟨[(0, 0, [false, false, true, false, true]), (2, 0, [false, false, true, false, true]), (1, 0, []), (0, 0, [true, true])], ⟨4, 1, [(1, ⟨[], .one (.leaf (.ptr (.p 0 0)))⟩), (6, ⟨[], .one (.leaf (.at (.v 0) 22))⟩), (7, ⟨[], .one (.leaf (.at (.v 1) 3))⟩), (8, ⟨[], .one (.leaf (.at (.v 2) 3))⟩)], [(0, .box 26 (.leaf (.at (.v 3) 26)))]⟩⟩]
def b16 : List Blk := [
 ⟨[(0, 0, [false, false, true, false, true, true]), (2, 0, [false, false, true, false, true, true]), (1, 0, []), (0, 0, [true, true, true])], ⟨5, 1, [(1, ⟨[], .one (.leaf (.at (.v 0) 3))⟩), (2, ⟨[], .one (.leaf (.ptr (.p 0 0)))⟩), (51, ⟨[], .one (.leaf (.at (.v 1) 30))⟩), (52, ⟨[], .one (.leaf (.at (.v 2) 3))⟩), (53, ⟨[], .one (.leaf (.at (.v 3) 3))⟩)], [(0, .box 33 (.leaf (.at (.v 4) 33)))]⟩⟩,
 ⟨[(0, 0, [false, false, true, false, true, true, true]), (2, 0, [false, false, true, false, true, true, true]), (1, 2, []), (0, 0, [true, true, true, true])], ⟨5, 1, [(1, ⟨[], .one (.leaf (.at (.v 0) 3))⟩), (2, ⟨[], .one (.leaf (.ptr (.p 0 0)))⟩), (64, ⟨[], .one (.leaf (.at (.v 1) 31))⟩), (65, ⟨[], .one (.leaf (.at (.v 2) 3))⟩), (66, ⟨[], .one (.leaf (.at (.v 3) 3))⟩)], [(0, .box 33 (.leaf (.at (.v 4) 33)))]⟩⟩]
def b17 : List Blk := [
 ⟨[(0, 0, [true, true, true, true, true, true, true, false, true, false, true]), (1, 0, []), (0, 0, [true, true])], ⟨2, 1, [(1, ⟨[], .one (.leaf (.ptr (.p 0 0)))⟩), (45, ⟨[], .one (.leaf (.at (.v 0) 4))⟩)], [(0, .box 33 (.leaf (.at (.v 1) 33)))]⟩⟩]
def b18 : List Blk := [
 ⟨[(0, 0, [false, false, true, false, true]), (2, 0, [false, false, true, false, true]), (1, 0, []), (0, 0, [true, true])], ⟨3, 0, [(0, ⟨[], .one (.leaf (.at (.v 0) 9))⟩), (5, ⟨[], .one (.leaf (.at (.v 1) 3))⟩), (6, ⟨[], .one (.leaf (.at (.v 2) 3))⟩)], []⟩⟩]
def b19 : List Blk := [
 ⟨[(0, 0, [false, false, true, false, true]), (2, 0, [false, false, true, false, true]), (1, 0, []), (0, 0, [true, true])], ⟨3, 0, [(0, ⟨[], .one (.leaf (.at (.v 0) 9))⟩), (6, ⟨[], .one (.leaf (.at (.v 1) 3))⟩), (7, ⟨[], .one (.leaf (.at (.v 2) 3))⟩)], []⟩⟩]
def b20 : List Blk := [
 ⟨[(0, 0, [false, false, true, false, true, true]), (2, 0, [false, false, true, false, true, true]), (1, 0, []), (0, 0, [true, true, true])], ⟨5, 1, [(1, ⟨[], .one (.leaf (.ptr (.p 0 0)))⟩), (3, ⟨[], .one (.leaf (.at (.v 0) 3))⟩), (9, ⟨[], .one (.leaf (.at (.v 1) 30))⟩), (10, ⟨[], .one (.leaf (.at (.v 2) 3))⟩), (11, ⟨[], .one (.leaf (.at (.v 3) 3))⟩)], [(0, .box 33 (.leaf (.at (.v 4) 33)))]⟩⟩,
 ⟨[(0, 0, [false, false, true, false, true, true, true]), (2, 0, [false, false, true, false, true, true, true]), (1, 2, []), (0, 0, [true, true, true, true])], ⟨4, 0, [(3, ⟨[], .one (.leaf (.at (.v 0) 3))⟩), (21, ⟨[], .one (.leaf (.at (.v 1) 31))⟩), (22, ⟨[], .one (.leaf (.at (.v 2) 3))⟩), (23, ⟨[], .one (.leaf (.at (.v 3) 3))⟩)], []⟩⟩]
def b23 : List Blk := [
 ⟨[(0, 0, [false, false, true, false, true]), (2, 0, [false, false, true, false, true]), (1, 0, []), (0, 0, [true, true])], ⟨4, 0, [(0, ⟨[], .one (.leaf (.at (.v 0) 24))⟩), (1, ⟨[], .one (.leaf (.fn 186 [.im (.v 1) 9 0]))⟩), (7, ⟨[], .one (.leaf (.at (.v 2) 3))⟩), (8, ⟨[], .one (.leaf (.at (.v 3) 3))⟩)], []⟩⟩]
def b27 : List Blk := [
 ⟨[(0, 0, [false, false, true, false, true]), (2, 0, [false, false, true, false, true]), (1, 0, []), (0, 0, [true, true])], ⟨4, 0, [(0, ⟨[], .one (.leaf (.at (.v 0) 23))⟩), (1, ⟨[], .one (.leaf (.fn 109 [.im (.v 1) 3 0]))⟩), (7, ⟨[], .one (.leaf (.at (.v 2) 3))⟩), (8, ⟨[], .one (.leaf (.at (.v 3) 3))⟩)], []⟩⟩]
def b29 : List Blk := [
 ⟨[(0, 0, [false, false, true, false, true]), (2, 0, [false, false, true, false, true]), (1, 0, []), (0, 0, [true, true])], ⟨5, 1, [(1, ⟨[], .one (.leaf (.at (.v 0) 3))⟩), (2, ⟨[], .one (.leaf (.ptr (.p 0 0)))⟩), (11, ⟨[], .one (.leaf (.at (.v 1) 24))⟩), (12, ⟨[], .one (.leaf (.at (.v 2) 3))⟩), (13, ⟨[], .one (.leaf (.at (.v 3) 3))⟩)], [(0, .box 26 (.leaf (.at (.v 4) 26)))]⟩⟩,
 ⟨[(0, 0, [false, false, true, true, true, true, false, false, true, true, false, false, true, false, true]), (2, 0, [false, false, true, true, true, true, false, false, true, true, false, false, true, false, true]), (1, 2, []), (1, 1, []), (0, 0, [true, true, true, false, false, true, false, true]), (2, 0, [false, false, true, false, true]), (1, 0, []), (0, 0, [true, true])], ⟨9, 2, [(1, ⟨[], .one (.leaf (.at (.v 0) 3))⟩), (2, ⟨[], .one (.leaf (.ptr (.p 0 0)))⟩), (6, ⟨[], .one (.leaf (.ptr (.p 1 0)))⟩), (11, ⟨[], .one (.leaf (.at (.v 1) 24))⟩), (12, ⟨[], .one (.leaf (.at (.v 2) 3))⟩), (13, ⟨[], .one (.leaf (.at (.v 3) 3))⟩), (56, ⟨[], .one (.leaf (.at (.v 4) 30))⟩), (57, ⟨[], .one (.leaf (.at (.v 5) 3))⟩), (58, ⟨[], .one (.leaf (.at (.v 6) 3))⟩)], [(0, .box 26 (.leaf (.at (.v 7) 26))), (1, .box 64 (.leaf (.at (.v 8) 64)))]⟩⟩]
def b30 : List Blk := [
 ⟨[(0, 0, [false, false, true, false, true, true, true, true]), (2, 0, [false, false, true, false, true, true, true, true]), (1, 0, []), (0, 0, [true, true, true, true, true])], ⟨10, 4, [(2, ⟨[], .one (.leaf (.ptr (.p 0 0)))⟩), (3, ⟨[], .one (.leaf (.ref 1 31))⟩), (4, ⟨[], .one (.leaf (.ptr (.p 2 0)))⟩), (12, ⟨[], .one (.leaf (.ref 1 31))⟩), (13, ⟨[], .one (.leaf (.at (.v 0) 3))⟩), (14, ⟨[], .one (.leaf (.at (.v 1) 3))⟩)], [(0, .box 33 (.agg 33 [.at (.v 2) 3, .at (.v 3) 3, .at (.v 4) 9, .nil 30, .nil 31])), (1, .arr 70 31 (.v 5)), (2, .box 33 (.agg 33 [.at (.v 6) 3, .at (.v 7) 3, .at (.v 8) 9, .nil 30, .ref 3 31])), (3, .arr 70 31 (.v 9))]⟩⟩,
 ⟨[(1, 1, []), (0, 0, [true, true, true, false, false, true, false, true, true, true, true]), (2, 0, [false, false, true, false, true, true, true, true]), (1, 0, []), (0, 0, [true, true, true, true, true])], ⟨10, 4, [(2, ⟨[], .one (.leaf (.ptr (.p 0 0)))⟩), (3, ⟨[], .one (.leaf (.ref 1 31))⟩), (4, ⟨[], .one (.leaf (.ptr (.p 2 0)))⟩), (12, ⟨[], .one (.leaf (.ref 1 31))⟩), (13, ⟨[], .one (.leaf (.at (.v 0) 3))⟩), (14, ⟨[], .one (.leaf (.at (.v 1) 3))⟩)], [(0, .box 33 (.agg 33 [.at (.v 2) 3, .at (.v 3) 3, .at (.v 4) 9, .nil 30, .nil 31])), (1, .arr 70 31 (.v 5)), (2, .box 33 (.agg 33 [.at (.v 6) 3, .at (.v 7) 3, .at (.v 8) 9, .nil 30, .ref 3 31])), (3, .arr 70 31 (.v 9))]⟩⟩]
def b33 : List Blk := [
 ⟨[(0, 0, [false, false, false, true, true]), (2, 0, [false, false, false, true, true]), (1, 0, []), (0, 0, [true, true, true])], ⟨5, 1, [(0, ⟨[], .one (.leaf (.ref 0 31))⟩), (1, ⟨[], .one (.leaf (.at (.v 0) 3))⟩), (2, ⟨[], .one (.leaf (.fn 137 []))⟩), (6, ⟨[], .one (.leaf (.at (.v 1) 3))⟩), (7, ⟨[], .one (.leaf (.at (.v 2) 3))⟩), (8, ⟨[], .one (.leaf (.at (.v 3) 3))⟩)], [(0, .arr 70 31 (.v 4))]⟩⟩,
 ⟨[(0, 0, [false, false, true, true, true, true]), (2, 0, [false, false, true, true, true, true]), (1, 2, [])], ⟨3, 1, [(0, ⟨[], .one (.leaf (.ref 0 31))⟩), (1, ⟨[], .one (.leaf (.at (.v 0) 3))⟩), (2, ⟨[], .one (.leaf (.fn 137 []))⟩), (6, ⟨[], .one (.leaf (.at (.v 1) 3))⟩)], [(0, .arr 70 31 (.v 2))]⟩⟩,
 ⟨[(0, 0, [false, false, false, true, false, true, false, false, true, true, true, true]), (2, 0, [false, false, false, true, false, true, false, false, true, true, true, true]), (1, 4, []), (0, 0, [true, true, false, true, false, false, true, true, true, true]), (1, 3, []), (2, 0, [false, false, true, true, true, true]), (1, 2, [])], ⟨5, 1, [(0, ⟨[], .one (.leaf (.ref 0 31))⟩), (1, ⟨[], .one (.leaf (.at (.v 0) 3))⟩), (2, ⟨[], .one (.leaf (.fn 137 []))⟩), (6, ⟨[], .one (.leaf (.at (.v 1) 3))⟩), (7, ⟨[], .one (.leaf (.at (.v 2) 3))⟩), (8, ⟨[], .one (.leaf (.at (.v 3) 3))⟩)], [(0, .arr 70 31 (.v 4))]⟩⟩,
 ⟨[(0, 0, [true, true, true, false, true, false, false, true, true, true, true]), (1, 3, []), (2, 0, [false, false, true, true, true, true]), (1, 2, [])], ⟨3, 1, [(0, ⟨[], .one (.leaf (.ref 0 31))⟩), (1, ⟨[], .one (.leaf (.at (.v 0) 3))⟩), (2, ⟨[], .one (.leaf (.fn 137 []))⟩), (6, ⟨[], .one (.leaf (.at (.v 1) 3))⟩)], [(0, .arr 70 31 (.v 2))]⟩⟩]
def b34 : List Blk := [
 ⟨[(0, 0, [false, false, true]), (2, 0, [false, false, true]), (1, 0, [])], ⟨4, 1, [(0, ⟨[], .one (.leaf (.ref 0 31))⟩), (1, ⟨[], .one (.leaf (.at (.v 0) 3))⟩), (2, ⟨[], .one (.leaf (.at (.v 1) 3))⟩), (3, ⟨[], .one (.leaf (.fn 137 []))⟩), (8, ⟨[], .one (.leaf (.at (.v 2) 3))⟩)], [(0, .arr 70 31 (.v 3))]⟩⟩,
 ⟨[(0, 0, [false, false, true, false, false, true, false, false, true]), (2, 0, [false, false, true, false, false, true, false, false, true]), (1, 2, []), (1, 1, []), (0, 0, [true, true, false, false, true]), (2, 0, [false, false, true]), (1, 0, [])], ⟨5, 1, [(0, ⟨[], .one (.leaf (.ref 0 31))⟩), (1, ⟨[], .one (.leaf (.at (.v 0) 3))⟩), (2, ⟨[], .one (.leaf (.at (.v 1) 3))⟩), (3, ⟨[], .one (.leaf (.fn 137 []))⟩), (8, ⟨[], .one (.leaf (.at (.v 2) 3))⟩), (9, ⟨[], .one (.leaf (.at (.v 3) 3))⟩)], [(0, .arr 70 31 (.v 4))]⟩⟩]
def b39 : List Blk := [
 ⟨[(0, 0, [false, false, false, true, true, false, true, false]), (2, 0, [false, false, false, true, true, false, true, false]), (1, 0, []), (0, 0, [true, true, true, false, true, false]), (0, 0, [true])], ⟨4, 1, [(0, ⟨[], .one (.leaf (.ref 0 31))⟩), (1, ⟨[], .one (.leaf (.at (.v 0) 3))⟩), (4, ⟨[], .one (.leaf (.fn 137 []))⟩), (10, ⟨[], .one (.leaf (.at (.v 1) 3))⟩), (11, ⟨[], .one (.leaf (.at (.v 2) 3))⟩)], [(0, .arr 70 31 (.v 3))]⟩⟩,
 ⟨[(0, 0, [false, false, false, true, true, false, true, false, true]), (2, 0, [false, false, false, true, true, false, true, false, true]), (1, 4, []), (0, 0, [true, true, true, false, true, false, true]), (0, 0, [true, true])], ⟨4, 1, [(0, ⟨[], .one (.leaf (.ref 0 31))⟩), (2, ⟨[], .one (.leaf (.at (.v 0) 3))⟩), (4, ⟨[], .one (.leaf (.fn 137 []))⟩), (14, ⟨[], .one (.leaf (.at (.v 1) 3))⟩), (15, ⟨[], .one (.leaf (.at (.v 2) 3))⟩)], [(0, .arr 70 31 (.v 3))]⟩⟩,
 ⟨[(0, 0, [true, true, true, true, true, true])], ⟨8, 1, [(0, ⟨[], .one (.leaf (.ref 0 31))⟩), (1, ⟨[], .one (.leaf (.at (.v 0) 3))⟩), (2, ⟨[], .one (.leaf (.at (.v 1) 3))⟩), (3, ⟨[], .one (.leaf (.at (.v 2) 3))⟩), (4, ⟨[], .one (.leaf (.fn 137 []))⟩), (18, ⟨[], .one (.leaf (.at (.v 3) 3))⟩), (19, ⟨[], .one (.leaf (.at (.v 4) 3))⟩), (20, ⟨[], .one (.leaf (.at (.v 5) 3))⟩), (21, ⟨[], .one (.leaf (.at (.v 6) 3))⟩)], [(0, .arr 70 31 (.v 7))]⟩⟩,
 ⟨[(1, 1, []), (2, 0, [false, false, false, true, true, false, true, false]), (1, 0, []), (0, 0, [true, true, true, false, true, false]), (0, 0, [true])], ⟨4, 1, [(0, ⟨[], .one (.leaf (.ref 0 31))⟩), (1, ⟨[], .one (.leaf (.at (.v 0) 3))⟩), (4, ⟨[], .one (.leaf (.fn 137 []))⟩), (10, ⟨[], .one (.leaf (.at (.v 1) 3))⟩), (11, ⟨[], .one (.leaf (.at (.v 2) 3))⟩)], [(0, .arr 70 31 (.v 3))]⟩⟩,
 ⟨[(0, 0, [false, false, true, false, true, true, true, false, true, false]), (2, 0, [false, false, true, false, true, true, true, false, true, false]), (1, 2, []), (0, 0, [true, true, true, true, false, true, false]), (0, 0, [true])], ⟨3, 1, [(0, ⟨[], .one (.leaf (.ref 0 31))⟩), (10, ⟨[], .one (.leaf (.at (.v 0) 3))⟩), (13, ⟨[], .one (.leaf (.at (.v 1) 3))⟩)], [(0, .arr 70 31 (.v 2))]⟩⟩,
 ⟨[(1, 5, []), (2, 0, [false, false, false, true, true, false, true, false, true]), (1, 4, []), (0, 0, [true, true, true, false, true, false, true]), (0, 0, [true, true])], ⟨4, 1, [(0, ⟨[], .one (.leaf (.ref 0 31))⟩), (2, ⟨[], .one (.leaf (.at (.v 0) 3))⟩), (4, ⟨[], .one (.leaf (.fn 137 []))⟩), (14, ⟨[], .one (.leaf (.at (.v 1) 3))⟩), (15, ⟨[], .one (.leaf (.at (.v 2) 3))⟩)], [(0, .arr 70 31 (.v 3))]⟩⟩,
 ⟨[(0, 0, [false, false, true, false, true, true, true, false, true, false, true]), (2, 0, [false, false, true, false, true, true, true, false, true, false, true]), (1, 6, []), (0, 0, [true, true, true, true, false, true, false, true]), (0, 0, [true, true])], ⟨3, 1, [(0, ⟨[], .one (.leaf (.ref 0 31))⟩), (14, ⟨[], .one (.leaf (.at (.v 0) 3))⟩), (17, ⟨[], .one (.leaf (.at (.v 1) 3))⟩)], [(0, .arr 70 31 (.v 2))]⟩⟩,
 ⟨[(0, 0, [false, false, false, true, true, true, true, true, true, true]), (2, 0, [false, false, false, true, true, true, true, true, true, true]), (1, 8, []), (0, 0, [true, true, true, true, true, true, true, true])], ⟨9, 1, [(0, ⟨[], .one (.leaf (.ref 0 31))⟩), (1, ⟨[], .one (.leaf (.at (.v 0) 3))⟩), (2, ⟨[], .one (.leaf (.at (.v 1) 3))⟩), (3, ⟨[], .one (.leaf (.at (.v 2) 3))⟩), (4, ⟨[], .one (.leaf (.fn 137 []))⟩), (18, ⟨[], .one (.leaf (.at (.v 3) 3))⟩), (19, ⟨[], .one (.leaf (.at (.v 4) 3))⟩), (20, ⟨[], .one (.leaf (.at (.v 5) 3))⟩), (21, ⟨[], .one (.leaf (.at (.v 6) 3))⟩), (22, ⟨[], .one (.leaf (.at (.v 7) 3))⟩)], [(0, .arr 70 31 (.v 8))]⟩⟩,
 ⟨[(1, 9, []), (2, 0, [false, false, false, true, true, true, true, true, true, true]), (1, 8, []), (0, 0, [true, true, true, true, true, true, true, true])], ⟨9, 1, [(0, ⟨[], .one (.leaf (.ref 0 31))⟩), (1, ⟨[], .one (.leaf (.at (.v 0) 3))⟩), (2, ⟨[], .one (.leaf (.at (.v 1) 3))⟩), (3, ⟨[], .one (.leaf (.at (.v 2) 3))⟩), (4, ⟨[], .one (.leaf (.fn 137 []))⟩), (18, ⟨[], .one (.leaf (.at (.v 3) 3))⟩), (19, ⟨[], .one (.leaf (.at (.v 4) 3))⟩), (20, ⟨[], .one (.leaf (.at (.v 5) 3))⟩), (21, ⟨[], .one (.leaf (.at (.v 6) 3))⟩), (22, ⟨[], .one (.leaf (.at (.v 7) 3))⟩)], [(0, .arr 70 31 (.v 8))]⟩⟩,
 ⟨[(0, 0, [true, true, true, true, true, true, true, true, true, true])], ⟨6, 1, [(0, ⟨[], .one (.leaf (.ref 0 31))⟩), (1, ⟨[], .one (.leaf (.at (.v 0) 3))⟩), (3, ⟨[], .one (.leaf (.at (.v 1) 3))⟩), (4, ⟨[], .one (.leaf (.fn 137 []))⟩), (18, ⟨[], .one (.leaf (.at (.v 2) 3))⟩), (20, ⟨[], .one (.leaf (.at (.v 3) 3))⟩), (24, ⟨[], .one (.leaf (.at (.v 4) 3))⟩)], [(0, .arr 70 31 (.v 5))]⟩⟩,
 ⟨[(0, 0, [true, true, true, true, true, true, true, true, true, true, true])], ⟨4, 1, [(0, ⟨[], .one (.leaf (.ref 0 31))⟩), (3, ⟨[], .one (.leaf (.at (.v 0) 3))⟩), (4, ⟨[], .one (.leaf (.fn 137 []))⟩), (18, ⟨[], .one (.leaf (.at (.v 1) 3))⟩), (24, ⟨[], .one (.leaf (.at (.v 2) 3))⟩)], [(0, .arr 70 31 (.v 3))]⟩⟩]
def b40 : List Blk := [
 ⟨[(0, 0, [false, false, false, true, true]), (2, 0, [false, false, false, true, true]), (1, 0, []), (0, 0, [true, true, true])], ⟨4, 1, [(0, ⟨[], .one (.leaf (.ref 0 31))⟩), (2, ⟨[], .one (.leaf (.at (.v 0) 3))⟩), (4, ⟨[], .one (.leaf (.fn 137 []))⟩), (10, ⟨[], .one (.leaf (.at (.v 1) 3))⟩), (11, ⟨[], .one (.leaf (.at (.v 2) 3))⟩)], [(0, .arr 70 31 (.v 3))]⟩⟩,
 ⟨[(1, 1, []), (2, 0, [false, false, false, true, true]), (1, 0, []), (0, 0, [true, true, true])], ⟨4, 1, [(0, ⟨[], .one (.leaf (.ref 0 31))⟩), (2, ⟨[], .one (.leaf (.at (.v 0) 3))⟩), (4, ⟨[], .one (.leaf (.fn 137 []))⟩), (10, ⟨[], .one (.leaf (.at (.v 1) 3))⟩), (11, ⟨[], .one (.leaf (.at (.v 2) 3))⟩)], [(0, .arr 70 31 (.v 3))]⟩⟩]
def b41 : List Blk := [
 ⟨[(0, 0, [false, false, true]), (2, 0, [false, false, true]), (1, 0, [])], ⟨5, 1, [(0, ⟨[], .one (.leaf (.ref 0 31))⟩), (1, ⟨[], .one (.leaf (.at (.v 0) 3))⟩), (2, ⟨[], .one (.leaf (.at (.v 1) 3))⟩), (3, ⟨[], .one (.leaf (.at (.v 2) 3))⟩), (10, ⟨[], .one (.leaf (.at (.v 3) 3))⟩)], [(0, .arr 70 31 (.v 4))]⟩⟩]
def b42 : List Blk := [
 ⟨[(0, 0, [false, false, true, false, true, true]), (2, 0, [false, false, true, false, true, true]), (1, 0, []), (0, 0, [true, true, true])], ⟨10, 3, [(1, ⟨[], .one (.leaf (.ptr (.p 0 0)))⟩), (2, ⟨[], .one (.leaf (.ptr (.p 1 0)))⟩), (12, ⟨[], .one (.leaf (.ref 2 30))⟩), (13, ⟨[], .one (.leaf (.at (.v 0) 3))⟩), (14, ⟨[], .one (.leaf (.at (.v 1) 3))⟩)], [(0, .box 33 (.agg 33 [.at (.v 2) 3, .at (.v 3) 3, .at (.v 4) 9, .ref 2 30, .at (.v 5) 31])), (1, .box 33 (.agg 33 [.at (.v 6) 3, .at (.v 7) 3, .at (.v 8) 9, .nil 30, .nil 31])), (2, .arr 33 30 (.v 9))]⟩⟩,
 ⟨[(0, 0, [false, false, true, false, true, true, true, true]), (2, 0, [false, false, true, false, true, true, true, true]), (1, 2, []), (0, 0, [true, true, true, true, true])], ⟨10, 4, [(1, ⟨[], .one (.leaf (.ptr (.p 0 0)))⟩), (2, ⟨[], .one (.leaf (.ptr (.p 1 0)))⟩), (31, ⟨[], .one (.leaf (.ref 2 31))⟩), (32, ⟨[], .one (.leaf (.at (.v 0) 3))⟩), (33, ⟨[], .one (.leaf (.at (.v 1) 3))⟩)], [(0, .box 33 (.agg 33 [.at (.v 2) 3, .at (.v 3) 3, .at (.v 4) 9, .ref 3 30, .ref 2 31])), (1, .box 33 (.agg 33 [.at (.v 5) 3, .at (.v 6) 3, .at (.v 7) 9, .nil 30, .nil 31])), (2, .arr 70 31 (.v 8)), (3, .arr 33 30 (.v 9))]⟩⟩]
def b45 : List Blk := [
 ⟨[(0, 0, [false, false, true, false, true, true, true, true, true, true, true, true, true, false, true]), (2, 0, [false, false, true, false, true, true, true, true, true, true, true, true, true, false, true]), (1, 1, []), (1, 0, [])], ⟨6, 4, [(0, ⟨[], .one (.leaf (.ptr (.p 1 0)))⟩), (3, ⟨[], .one (.leaf (.at (.v 0) 39))⟩), (5, ⟨[], .one (.leaf (.ptr (.p 2 0)))⟩), (87, ⟨[], .one (.leaf (.at (.v 1) 31))⟩), (88, ⟨[], .one (.leaf (.at (.v 2) 3))⟩), (89, ⟨[], .one (.leaf (.at (.v 3) 3))⟩)], [(1, .box 89 (.agg 89 [.ref 3 36])), (2, .box 26 (.leaf (.at (.v 4) 26))), (3, .arr 54 36 (.v 5))]⟩⟩,
 ⟨[(1, 2, []), (0, 0, [true, true, true, false, false, true, false, true, true, true, true, true, true, true, true, true, false, true]), (2, 0, [false, false, true, false, true, true, true, true, true, true, true, true, true, false, true]), (1, 1, []), (1, 0, [])], ⟨6, 4, [(0, ⟨[], .one (.leaf (.ptr (.p 1 0)))⟩), (3, ⟨[], .one (.leaf (.at (.v 0) 39))⟩), (5, ⟨[], .one (.leaf (.ptr (.p 2 0)))⟩), (87, ⟨[], .one (.leaf (.at (.v 1) 31))⟩), (88, ⟨[], .one (.leaf (.at (.v 2) 3))⟩), (89, ⟨[], .one (.leaf (.at (.v 3) 3))⟩)], [(1, .box 89 (.agg 89 [.ref 3 36])), (2, .box 26 (.leaf (.at (.v 4) 26))), (3, .arr 54 36 (.v 5))]⟩⟩]
def b47 : List Blk := [
 ⟨[(0, 0, [false, false, true, false, true, true, true]), (2, 0, [false, false, true, false, true, true, true]), (1, 0, []), (0, 0, [true, true, true, true])], ⟨4, 2, [(4, ⟨[], .one (.leaf (.ptr (.p 0 0)))⟩), (10, ⟨[], .one (.leaf (.at (.v 0) 39))⟩), (11, ⟨[], .one (.leaf (.at (.v 1) 3))⟩), (12, ⟨[], .one (.leaf (.at (.v 2) 3))⟩)], [(0, .box 176 (.agg 176 [.hid 0, .ref 1 174])), (1, .arr 5 174 (.v 3))]⟩⟩,
 ⟨[(0, 0, [true, false, true, false, true, true, false, false, true, true, false, false, true, false, true, true, true]), (1, 2, []), (1, 1, []), (0, 0, [true, true, true, false, false, true, false, true, true, true]), (2, 0, [false, false, true, false, true, true, true]), (1, 0, []), (0, 0, [true, true, true, true])], ⟨5, 3, [(4, ⟨[], .one (.leaf (.ptr (.p 0 0)))⟩), (6, ⟨[], .one (.leaf (.ptr (.p 1 0)))⟩), (10, ⟨[], .one (.leaf (.at (.v 0) 39))⟩), (11, ⟨[], .one (.leaf (.at (.v 1) 3))⟩), (12, ⟨[], .one (.leaf (.at (.v 2) 3))⟩)], [(0, .box 176 (.agg 176 [.hid 0, .ref 2 174])), (1, .box 74 (.leaf (.at (.v 3) 74))), (2, .arr 5 174 (.v 4))]⟩⟩,
 ⟨[(1, 2, []), (1, 1, []), (0, 0, [true, true, true, false, false, true, false, true, true, true]), (2, 0, [false, false, true, false, true, true, true]), (1, 0, []), (0, 0, [true, true, true, true])], ⟨4, 2, [(4, ⟨[], .one (.leaf (.ptr (.p 0 0)))⟩), (10, ⟨[], .one (.leaf (.at (.v 0) 39))⟩), (11, ⟨[], .one (.leaf (.at (.v 1) 3))⟩), (12, ⟨[], .one (.leaf (.at (.v 2) 3))⟩)], [(0, .box 176 (.agg 176 [.hid 0, .ref 1 174])), (1, .arr 5 174 (.v 3))]⟩⟩]
def b50 : List Blk := [
 ⟨[(0, 0, [false, false, true, false, true]), (2, 0, [false, false, true, false, true]), (1, 0, []), (0, 0, [true, true])], ⟨3, 0, [(0, ⟨[], .one (.leaf (.at (.v 0) 39))⟩), (1, ⟨[], .one (.leaf (.fn 122 []))⟩), (7, ⟨[], .one (.leaf (.at (.v 1) 3))⟩), (8, ⟨[], .one (.leaf (.at (.v 2) 3))⟩)], []⟩⟩]
def b53 : List Blk := [
 ⟨[(0, 0, [false, false, true, false, true]), (2, 0, [false, false, true, false, true]), (1, 0, []), (0, 0, [true, true])], ⟨3, 1, [(0, ⟨[], .one (.leaf (.at (.v 0) 9))⟩), (6, ⟨[], .one (.leaf (.ptr (.p 0 0)))⟩)], [(0, .iter (.v 1) (.v 2))]⟩⟩]
def b59 : List Blk := [
 ⟨[(0, 0, [false, false, true, false, true, true, true]), (2, 0, [false, false, true, false, true, true, true]), (1, 0, []), (0, 0, [true, true, true, true])], ⟨3, 3, [(3, ⟨[], .one (.leaf (.ptr (.p 0 0)))⟩), (8, ⟨[], .one (.leaf (.ptr (.p 1 0)))⟩)], [(0, .box 176 (.agg 176 [.hid 0, .ref 2 174])), (1, .iter (.v 0) (.v 1)), (2, .arr 5 174 (.v 2))]⟩⟩,
 ⟨[(0, 0, [true, false, true, true, false, true, true, false, false, true, false, true, true, true]), (1, 2, []), (1, 1, []), (2, 0, [false, false, true, false, true, true, true]), (1, 0, []), (0, 0, [true, true, true, true])], ⟨6, 3, [(3, ⟨[], .one (.leaf (.ptr (.p 0 0)))⟩), (5, ⟨[], .one (.leaf (.at (.v 0) 21))⟩), (8, ⟨[], .one (.leaf (.ptr (.p 1 0)))⟩), (12, ⟨[], .one (.leaf (.at (.v 1) 21))⟩), (15, ⟨[], .one (.leaf (.at (.v 2) 4))⟩)], [(0, .box 176 (.agg 176 [.hid 0, .ref 2 174])), (1, .iter (.v 3) (.v 4)), (2, .arr 5 174 (.v 5))]⟩⟩,
 ⟨[(1, 2, []), (1, 1, []), (2, 0, [false, false, true, false, true, true, true]), (1, 0, []), (0, 0, [true, true, true, true])], ⟨3, 3, [(3, ⟨[], .one (.leaf (.ptr (.p 0 0)))⟩), (8, ⟨[], .one (.leaf (.ptr (.p 1 0)))⟩)], [(0, .box 176 (.agg 176 [.hid 0, .ref 2 174])), (1, .iter (.v 0) (.v 1)), (2, .arr 5 174 (.v 2))]⟩⟩]
def b65 : List Blk := [
 ⟨[(0, 0, [false, false, true, false, true]), (2, 0, [false, false, true, false, true]), (1, 0, []), (0, 0, [true, true])], ⟨4, 0, [(0, ⟨[], .one (.leaf (.at (.v 0) 22))⟩), (1, ⟨[], .one (.leaf (.at (.v 1) 9))⟩), (7, ⟨[], .one (.leaf (.at (.v 2) 3))⟩), (8, ⟨[], .one (.leaf (.at (.v 3) 3))⟩)], []⟩⟩]
def b66 : List Blk := [
 ⟨[(0, 0, [true, true])], ⟨4, 5, [(0, ⟨[], .one (.leaf (.ptr (.p 1 0)))⟩), (3, ⟨[], .one (.leaf (.at (.v 0) 39))⟩), (5, ⟨[], .one (.leaf (.ptr (.p 2 0)))⟩), (6, ⟨[], .one (.leaf (.ptr (.p 3 0)))⟩)], [(1, .box 89 (.agg 89 [.ref 4 36])), (2, .box 26 (.leaf (.at (.v 1) 26))), (3, .box 33 (.leaf (.at (.v 2) 33))), (4, .arr 54 36 (.v 3))]⟩⟩,
 ⟨[(0, 0, [false, false, true, true, true, true]), (2, 0, [false, false, true, true, true, true]), (1, 0, [])], ⟨7, 5, [(0, ⟨[], .one (.leaf (.ptr (.p 1 0)))⟩), (3, ⟨[], .one (.leaf (.at (.v 0) 39))⟩), (5, ⟨[], .one (.leaf (.ptr (.p 2 0)))⟩), (8, ⟨[], .one (.leaf (.mref 3 132))⟩), (33, ⟨[], .one (.leaf (.at (.v 1) 30))⟩), (34, ⟨[], .one (.leaf (.at (.v 2) 3))⟩), (35, ⟨[], .one (.leaf (.at (.v 3) 3))⟩)], [(1, .box 89 (.agg 89 [.ref 4 36])), (2, .box 26 (.leaf (.at (.v 4) 26))), (3, .mp 132 9 4 (.v 5)), (4, .arr 54 36 (.v 6))]⟩⟩,
 ⟨[(0, 0, [true, false, true, true, true, true, true, false, false, true, true, false, false, true, true, true, true]), (1, 1, []), (0, 0, [true, true, true, false, false, true, true, true, true]), (2, 0, [false, false, true, true, true, true]), (1, 0, [])], ⟨8, 5, [(0, ⟨[], .one (.leaf (.ptr (.p 1 0)))⟩), (3, ⟨[], .one (.leaf (.at (.v 0) 39))⟩), (5, ⟨[], .one (.leaf (.ptr (.p 2 0)))⟩), (8, ⟨[], .one (.leaf (.mref 3 132))⟩), (12, ⟨[], .one (.leaf (.at (.v 1) 9))⟩), (33, ⟨[], .one (.leaf (.at (.v 2) 30))⟩), (34, ⟨[], .one (.leaf (.at (.v 3) 3))⟩), (35, ⟨[], .one (.leaf (.at (.v 4) 3))⟩)], [(1, .box 89 (.agg 89 [.ref 4 36])), (2, .box 26 (.leaf (.at (.v 5) 26))), (3, .mp 132 9 4 (.v 6)), (4, .arr 54 36 (.v 7))]⟩⟩,
 ⟨[(1, 1, []), (0, 0, [true, true, true, false, false, true, true, true, true]), (2, 0, [false, false, true, true, true, true]), (1, 0, [])], ⟨7, 5, [(0, ⟨[], .one (.leaf (.ptr (.p 1 0)))⟩), (3, ⟨[], .one (.leaf (.at (.v 0) 39))⟩), (5, ⟨[], .one (.leaf (.ptr (.p 2 0)))⟩), (8, ⟨[], .one (.leaf (.mref 3 132))⟩), (33, ⟨[], .one (.leaf (.at (.v 1) 30))⟩), (34, ⟨[], .one (.leaf (.at (.v 2) 3))⟩), (35, ⟨[], .one (.leaf (.at (.v 3) 3))⟩)], [(1, .box 89 (.agg 89 [.ref 4 36])), (2, .box 26 (.leaf (.at (.v 4) 26))), (3, .mp 132 9 4 (.v 5)), (4, .arr 54 36 (.v 6))]⟩⟩]
def b69 : List Blk := [
 ⟨[(0, 0, [false, false, true, false, true, false, true]), (2, 0, [false, false, true, false, true, false, true]), (1, 0, []), (0, 0, [true, true])], ⟨7, 1, [(1, ⟨[], .one (.leaf (.at (.v 0) 9))⟩), (4, ⟨[], .one (.leaf (.ptr (.p 0 0)))⟩), (12, ⟨[], .one (.leaf (.at (.v 1) 31))⟩), (13, ⟨[], .one (.leaf (.at (.v 2) 3))⟩), (14, ⟨[], .one (.leaf (.at (.v 3) 3))⟩)], [(0, .box 33 (.agg 33 [.at (.v 4) 3, .at (.v 5) 3, .at (.v 6) 9, .nil 30, .nil 31]))]⟩⟩]
def b74 : List Blk := [
 ⟨[(0, 0, [false, false, true, false, true]), (2, 0, [false, false, true, false, true]), (1, 0, []), (0, 0, [true, true])], ⟨7, 5, [(0, ⟨[], .one (.leaf (.ptr (.p 1 0)))⟩), (3, ⟨[], .one (.leaf (.at (.v 0) 39))⟩), (5, ⟨[], .one (.leaf (.ptr (.p 2 0)))⟩), (6, ⟨[], .one (.leaf (.ptr (.p 3 0)))⟩), (18, ⟨[], .one (.leaf (.at (.v 1) 31))⟩), (19, ⟨[], .one (.leaf (.at (.v 2) 3))⟩), (20, ⟨[], .one (.leaf (.at (.v 3) 3))⟩)], [(1, .box 89 (.agg 89 [.ref 4 36])), (2, .box 26 (.leaf (.at (.v 4) 26))), (3, .box 33 (.leaf (.at (.v 5) 33))), (4, .arr 54 36 (.v 6))]⟩⟩,
 ⟨[(1, 1, []), (0, 0, [true, true, true, false, false, true, false, true]), (2, 0, [false, false, true, false, true]), (1, 0, []), (0, 0, [true, true])], ⟨7, 5, [(0, ⟨[], .one (.leaf (.ptr (.p 1 0)))⟩), (3, ⟨[], .one (.leaf (.at (.v 0) 39))⟩), (5, ⟨[], .one (.leaf (.ptr (.p 2 0)))⟩), (6, ⟨[], .one (.leaf (.ptr (.p 3 0)))⟩), (18, ⟨[], .one (.leaf (.at (.v 1) 31))⟩), (19, ⟨[], .one (.leaf (.at (.v 2) 3))⟩), (20, ⟨[], .one (.leaf (.at (.v 3) 3))⟩)], [(1, .box 89 (.agg 89 [.ref 4 36])), (2, .box 26 (.leaf (.at (.v 4) 26))), (3, .box 33 (.leaf (.at (.v 5) 33))), (4, .arr 54 36 (.v 6))]⟩⟩,
 ⟨[(0, 0, [false, false, true, true, true]), (2, 0, [false, false, true, true, true]), (1, 2, [])], ⟨6, 4, [(0, ⟨[], .one (.leaf (.ptr (.p 1 0)))⟩), (3, ⟨[], .one (.leaf (.at (.v 0) 39))⟩), (6, ⟨[], .one (.leaf (.ptr (.p 2 0)))⟩), (54, ⟨[], .one (.leaf (.at (.v 1) 24))⟩), (55, ⟨[], .one (.leaf (.at (.v 2) 3))⟩), (56, ⟨[], .one (.leaf (.at (.v 3) 3))⟩)], [(1, .box 89 (.agg 89 [.ref 3 36])), (2, .box 33 (.leaf (.at (.v 4) 33))), (3, .arr 54 36 (.v 5))]⟩⟩,
 ⟨[(1, 3, []), (0, 0, [true, true, true, false, false, true, true, true]), (2, 0, [false, false, true, true, true]), (1, 2, [])], ⟨6, 4, [(0, ⟨[], .one (.leaf (.ptr (.p 1 0)))⟩), (3, ⟨[], .one (.leaf (.at (.v 0) 39))⟩), (6, ⟨[], .one (.leaf (.ptr (.p 2 0)))⟩), (54, ⟨[], .one (.leaf (.at (.v 1) 24))⟩), (55, ⟨[], .one (.leaf (.at (.v 2) 3))⟩), (56, ⟨[], .one (.leaf (.at (.v 3) 3))⟩)], [(1, .box 89 (.agg 89 [.ref 3 36])), (2, .box 33 (.leaf (.at (.v 4) 33))), (3, .arr 54 36 (.v 5))]⟩⟩]
def b80 : List Blk := [
 ⟨[(0, 0, [false, false, true, false, true, true]), (2, 0, [false, false, true, false, true, true]), (1, 0, []), (0, 0, [true, true, true])], ⟨9, 3, [(0, ⟨[], .one (.leaf (.at (.v 0) 30))⟩), (2, ⟨[], .one (.leaf (.ptr (.p 0 0)))⟩), (3, ⟨[], .one (.leaf (.ptr (.p 1 0)))⟩), (4, ⟨[], .one (.leaf (.at (.v 1) 3))⟩)], [(0, .box 33 (.agg 33 [.at (.v 2) 3, .at (.v 3) 3, .at (.v 4) 9, .nil 30, .nil 31])), (1, .box 33 (.agg 33 [.at (.v 5) 3, .at (.v 6) 3, .at (.v 7) 9, .ref 2 30, .nil 31])), (2, .arr 33 30 (.v 8))]⟩⟩]
def b81 : List Blk := [
 ⟨[(0, 0, [false, false, true, false, true, true]), (2, 0, [false, false, true, false, true, true]), (1, 0, []), (0, 0, [true, true, true])], ⟨8, 2, [(2, ⟨[], .one (.leaf (.ptr (.p 0 0)))⟩), (4, ⟨[], .one (.leaf (.ptr (.p 1 0)))⟩), (19, ⟨[], .one (.leaf (.at (.v 0) 39))⟩), (20, ⟨[], .one (.leaf (.at (.v 1) 3))⟩), (21, ⟨[], .one (.leaf (.at (.v 2) 3))⟩)], [(0, .box 26 (.leaf (.at (.v 3) 26))), (1, .box 26 (.agg 26 [.at (.v 4) 3, .at (.v 5) 3, .at (.v 6) 3, .nil 22, .at (.v 7) 9, .nil 23, .nil 24]))]⟩⟩]
def b83 : List Blk := [
 ⟨[(0, 0, [false, false, true, false, true, true, true]), (2, 0, [false, false, true, false, true, true, true]), (1, 0, []), (0, 0, [true, true, true, true])], ⟨13, 4, [(1, ⟨[], .one (.leaf (.ptr (.p 0 0)))⟩), (2, ⟨[], .one (.leaf (.ptr (.p 1 0)))⟩), (16, ⟨[], .one (.leaf (.ref 2 23))⟩), (17, ⟨[], .one (.leaf (.at (.v 0) 3))⟩), (18, ⟨[], .one (.leaf (.at (.v 1) 3))⟩)], [(0, .box 26 (.agg 26 [.at (.v 2) 3, .at (.v 3) 3, .at (.v 4) 3, .ref 3 22, .at (.v 5) 9, .ref 2 23, .at (.v 6) 24])), (1, .box 26 (.agg 26 [.at (.v 7) 3, .at (.v 8) 3, .at (.v 9) 3, .nil 22, .at (.v 10) 9, .nil 23, .nil 24])), (2, .arr 26 23 (.v 11)), (3, .arr 9 22 (.v 12))]⟩⟩,
 ⟨[(0, 0, [false, false, true, false, true, true, true, true, true]), (2, 0, [false, false, true, false, true, true, true, true, true]), (1, 2, []), (0, 0, [true, true, true, true, true, true])], ⟨13, 5, [(1, ⟨[], .one (.leaf (.ptr (.p 0 0)))⟩), (2, ⟨[], .one (.leaf (.ptr (.p 1 0)))⟩), (35, ⟨[], .one (.leaf (.ref 2 24))⟩), (36, ⟨[], .one (.leaf (.at (.v 0) 3))⟩), (37, ⟨[], .one (.leaf (.at (.v 1) 3))⟩)], [(0, .box 26 (.agg 26 [.at (.v 2) 3, .at (.v 3) 3, .at (.v 4) 3, .ref 3 22, .at (.v 5) 9, .ref 4 23, .ref 2 24])), (1, .box 26 (.agg 26 [.at (.v 6) 3, .at (.v 7) 3, .at (.v 8) 3, .nil 22, .at (.v 9) 9, .nil 23, .nil 24])), (2, .arr 64 24 (.v 10)), (3, .arr 9 22 (.v 11)), (4, .arr 26 23 (.v 12))]⟩⟩]
def b88 : List Blk := [
 ⟨[(0, 0, [false, false, true, false, true, true]), (2, 0, [false, false, true, false, true, true]), (1, 0, []), (0, 0, [true, true, true])], ⟨3, 0, [(0, ⟨[], .one (.leaf (.at (.v 0) 36))⟩), (1, ⟨[], .one (.leaf (.at (.v 1) 36))⟩), (5, ⟨[], .one (.leaf (.at (.v 2) 3))⟩)], []⟩⟩]
def b92 : List Blk := [
 ⟨[(0, 0, [false, false, true, false, true]), (2, 0, [false, false, true, false, true]), (1, 0, []), (0, 0, [true, true])], ⟨2, 1, [(1, ⟨[], .one (.leaf (.ptr (.p 0 0)))⟩), (3, ⟨[], .one (.leaf (.at (.v 0) 3))⟩)], [(0, .box 26 (.leaf (.at (.v 1) 26)))]⟩⟩]
def b93 : List Blk := [
 ⟨[(0, 0, [false, false, true, false, true]), (2, 0, [false, false, true, false, true]), (1, 0, []), (0, 0, [true, true])], ⟨2, 0, [(0, ⟨[], .one (.leaf (.at (.v 0) 9))⟩), (3, ⟨[], .one (.leaf (.at (.v 1) 3))⟩)], []⟩⟩]
def b94 : List Blk := [
 ⟨[(0, 0, [true, true, true])], ⟨2, 1, [(1, ⟨[], .one (.leaf (.at (.v 0) 3))⟩), (2, ⟨[], .one (.leaf (.ptr (.p 0 0)))⟩)], [(0, .box 26 (.leaf (.at (.v 1) 26)))]⟩⟩]
def b95 : List Blk := [
 ⟨[(0, 0, [false, false, true, false, true]), (2, 0, [false, false, true, false, true]), (1, 0, []), (0, 0, [true, true])], ⟨10, 2, [(1, ⟨[], .one (.leaf (.at (.v 0) 9))⟩), (2, ⟨[], .one (.leaf (.ptr (.p 0 0)))⟩), (4, ⟨[], .one (.leaf (.ptr (.p 1 0)))⟩), (6, ⟨[], .one (.leaf (.at (.v 1) 3))⟩)], [(0, .box 26 (.leaf (.at (.v 2) 26))), (1, .box 64 (.agg 64 [.at (.v 3) 9, .at (.v 4) 4, .at (.v 5) 4, .nil 30, .at (.v 6) 3, .at (.v 7) 3, .at (.v 8) 3, .nil 22, .at (.v 9) 9, .nil 23, .nil 24]))]⟩⟩]
def b96 : List Blk := [
 ⟨[(0, 0, [false, false, true, false, true, true, true]), (2, 0, [false, false, true, false, true, true, true]), (1, 0, []), (0, 0, [true, true, true, true])], ⟨3, 1, [(1, ⟨[], .one (.leaf (.at (.v 0) 3))⟩), (2, ⟨[], .one (.leaf (.ptr (.p 0 0)))⟩), (5, ⟨[], .one (.leaf (.at (.v 1) 3))⟩)], [(0, .box 26 (.leaf (.at (.v 2) 26)))]⟩⟩]
def b97 : List Blk := [
 ⟨[(0, 0, [false, false, true, false, true]), (2, 0, [false, false, true, false, true]), (1, 0, []), (0, 0, [true, true])], ⟨2, 0, [(0, ⟨[], .one (.leaf (.at (.v 0) 9))⟩), (3, ⟨[], .one (.leaf (.at (.v 1) 3))⟩)], []⟩⟩]
def b99 : List Blk := [
 ⟨[(0, 0, [false, false, true, false, true, true, true]), (2, 0, [false, false, true, false, true, true, true]), (1, 0, []), (0, 0, [true, true, true, true])], ⟨3, 1, [(1, ⟨[], .one (.leaf (.at (.v 0) 3))⟩), (2, ⟨[], .one (.leaf (.ptr (.p 0 0)))⟩), (5, ⟨[], .one (.leaf (.at (.v 1) 3))⟩)], [(0, .box 33 (.leaf (.at (.v 2) 33)))]⟩⟩,
 ⟨[(0, 0, [false, false, true, false, true, true, true, true]), (2, 0, [false, false, true, false, true, true, true, true]), (1, 2, []), (0, 0, [true, true, true, true, true])], ⟨3, 1, [(1, ⟨[], .one (.leaf (.at (.v 0) 3))⟩), (2, ⟨[], .one (.leaf (.ptr (.p 0 0)))⟩), (6, ⟨[], .one (.leaf (.at (.v 1) 3))⟩)], [(0, .box 33 (.leaf (.at (.v 2) 33)))]⟩⟩]
def b100 : List Blk := [
 ⟨[(0, 0, [true, true, true, true, true, true, true, false, true, false, true]), (1, 0, []), (0, 0, [true, true])], ⟨2, 1, [(1, ⟨[], .one (.leaf (.ptr (.p 0 0)))⟩), (45, ⟨[], .one (.leaf (.at (.v 0) 4))⟩)], [(0, .box 33 (.leaf (.at (.v 1) 33)))]⟩⟩]
def b101 : List Blk := [
 ⟨[(0, 0, [false, false, true, false, true, true]), (2, 0, [false, false, true, false, true, true]), (1, 0, []), (0, 0, [true, true, true])], ⟨3, 1, [(1, ⟨[], .one (.leaf (.ptr (.p 0 0)))⟩), (3, ⟨[], .one (.leaf (.at (.v 0) 3))⟩), (4, ⟨[], .one (.leaf (.at (.v 1) 3))⟩)], [(0, .box 33 (.leaf (.at (.v 2) 33)))]⟩⟩,
 ⟨[(0, 0, [false, false, true, false, true, true, true]), (2, 0, [false, false, true, false, true, true, true]), (1, 2, []), (0, 0, [true, true, true, true])], ⟨3, 1, [(1, ⟨[], .one (.leaf (.ptr (.p 0 0)))⟩), (3, ⟨[], .one (.leaf (.at (.v 0) 3))⟩), (5, ⟨[], .one (.leaf (.at (.v 1) 3))⟩)], [(0, .box 33 (.leaf (.at (.v 2) 33)))]⟩⟩]
def b102 : List Blk := [
 ⟨[(0, 0, [false, false, true, false, true, false, true, true, true, false, true, false, true, true]), (2, 0, [false, false, true, false, true, false, true, true, true, false, true, false, true, true]), (1, 1, []), (0, 0, [true, true, false, true, true, true, false, true, false, true, true]), (1, 0, []), (0, 0, [true, true, true])], ⟨4, 2, [(2, ⟨[], .one (.leaf (.at (.v 0) 39))⟩), (3, ⟨[], .one (.leaf (.ptr (.p 0 0)))⟩), (4, ⟨[], .one (.leaf (.ptr (.p 1 0)))⟩), (7, ⟨[], .one (.leaf (.at (.v 1) 3))⟩)], [(0, .box 26 (.leaf (.at (.v 2) 26))), (1, .box 33 (.leaf (.at (.v 3) 33)))]⟩⟩]
def b104 : List Blk := [
 ⟨[(0, 0, [false, false, true, false, true, true, true]), (2, 0, [false, false, true, false, true, true, true]), (1, 0, []), (0, 0, [true, true, true, true])], ⟨3, 0, [(0, ⟨[], .one (.leaf (.at (.v 0) 39))⟩), (4, ⟨[], .one (.leaf (.at (.v 1) 9))⟩), (5, ⟨[], .one (.leaf (.at (.v 2) 3))⟩)], []⟩⟩,
 ⟨[(1, 1, []), (0, 0, [true, true, false, false, true, false, true, true, true]), (2, 0, [false, false, true, false, true, true, true]), (1, 0, []), (0, 0, [true, true, true, true])], ⟨3, 0, [(0, ⟨[], .one (.leaf (.at (.v 0) 39))⟩), (4, ⟨[], .one (.leaf (.at (.v 1) 9))⟩), (5, ⟨[], .one (.leaf (.at (.v 2) 3))⟩)], []⟩⟩]
def b105 : List Blk := [
 ⟨[(0, 0, [false, false, true, false, true]), (2, 0, [false, false, true, false, true]), (1, 0, []), (0, 0, [true, true])], ⟨2, 0, [(0, ⟨[], .one (.leaf (.at (.v 0) 39))⟩), (3, ⟨[], .one (.leaf (.at (.v 1) 3))⟩)], []⟩⟩]
def b107 : List Blk := [
 ⟨[(0, 0, [false, false, true, false, true]), (2, 0, [false, false, true, false, true]), (1, 0, []), (0, 0, [true, true])], ⟨2, 0, [(0, ⟨[], .one (.leaf (.at (.v 0) 9))⟩), (3, ⟨[], .one (.leaf (.at (.v 1) 3))⟩)], []⟩⟩]
def b109 : List Blk := [
 ⟨[(0, 0, [false, false, true, false, true]), (2, 0, [false, false, true, false, true]), (1, 0, []), (0, 0, [true, true])], ⟨2, 0, [(0, ⟨[], .one (.leaf (.at (.v 0) 9))⟩), (3, ⟨[], .one (.leaf (.at (.v 1) 3))⟩)], []⟩⟩]
def b111 : List Blk := [
 ⟨[(0, 0, [false, false, true, false, true, true]), (2, 0, [false, false, true, false, true, true]), (1, 0, []), (0, 0, [true, true, true])], ⟨3, 0, [(0, ⟨[], .one (.leaf (.at (.v 0) 9))⟩), (3, ⟨[], .one (.leaf (.at (.v 1) 9))⟩), (4, ⟨[], .one (.leaf (.at (.v 2) 3))⟩)], []⟩⟩,
 ⟨[(1, 1, []), (0, 0, [true, true, false, false, true, false, true, true]), (2, 0, [false, false, true, false, true, true]), (1, 0, []), (0, 0, [true, true, true])], ⟨3, 0, [(0, ⟨[], .one (.leaf (.at (.v 0) 9))⟩), (3, ⟨[], .one (.leaf (.at (.v 1) 9))⟩), (4, ⟨[], .one (.leaf (.at (.v 2) 3))⟩)], []⟩⟩]
def b112 : List Blk := [
 ⟨[(0, 0, [true, true, true])], ⟨4, 3, [(2, ⟨[], .one (.leaf (.at (.v 0) 39))⟩), (3, ⟨[], .one (.leaf (.ptr (.p 0 0)))⟩), (4, ⟨[], .one (.leaf (.ptr (.p 1 0)))⟩), (7, ⟨[], .one (.leaf (.ref 2 36))⟩)], [(0, .box 26 (.leaf (.at (.v 1) 26))), (1, .box 33 (.leaf (.at (.v 2) 33))), (2, .arr 54 36 (.v 3))]⟩⟩,
 ⟨[(0, 0, [false, false, true, false, true, true, true]), (2, 0, [false, false, true, false, true, true, true]), (1, 0, []), (0, 0, [true, true, true, true])], ⟨5, 3, [(2, ⟨[], .one (.leaf (.at (.v 0) 39))⟩), (3, ⟨[], .one (.leaf (.ptr (.p 0 0)))⟩), (4, ⟨[], .one (.leaf (.ptr (.p 1 0)))⟩), (7, ⟨[], .one (.leaf (.ref 2 36))⟩), (8, ⟨[], .one (.leaf (.at (.v 1) 3))⟩)], [(0, .box 26 (.leaf (.at (.v 2) 26))), (1, .box 33 (.leaf (.at (.v 3) 33))), (2, .arr 54 36 (.v 4))]⟩⟩,
 ⟨[(0, 0, [false, false, true, false, true, true, true, true, false, false, true, false, false, true, false, true, true, true]), (2, 0, [false, false, true, false, true, true, true, true, false, false, true, false, false, true, false, true, true, true]), (1, 2, []), (0, 0, [true, true, true, true, true, false, false, true, false, false, true, false, true, true, true]), (1, 1, []), (0, 0, [true, true, false, false, true, false, true, true, true]), (2, 0, [false, false, true, false, true, true, true]), (1, 0, []), (0, 0, [true, true, true, true])], ⟨10, 4, [(2, ⟨[], .one (.leaf (.at (.v 0) 39))⟩), (3, ⟨[], .one (.leaf (.ptr (.p 0 0)))⟩), (4, ⟨[], .one (.leaf (.ptr (.p 1 0)))⟩), (7, ⟨[], .one (.leaf (.ref 2 36))⟩), (8, ⟨[], .one (.leaf (.at (.v 1) 3))⟩), (9, ⟨[], .one (.leaf (.ref 3 39))⟩), (10, ⟨[], .one (.leaf (.at (.v 2) 9))⟩), (11, ⟨[], .one (.leaf (.at (.v 3) 4))⟩), (12, ⟨[], .one (.leaf (.at (.v 4) 4))⟩), (13, ⟨[], .one (.leaf (.at (.v 5) 3))⟩)], [(0, .box 26 (.leaf (.at (.v 6) 26))), (1, .box 33 (.leaf (.at (.v 7) 33))), (2, .arr 54 36 (.v 8)), (3, .arr 74 39 (.v 9))]⟩⟩,
 ⟨[(1, 1, []), (0, 0, [true, true, false, false, true, false, true, true, true]), (2, 0, [false, false, true, false, true, true, true]), (1, 0, []), (0, 0, [true, true, true, true])], ⟨5, 3, [(2, ⟨[], .one (.leaf (.at (.v 0) 39))⟩), (3, ⟨[], .one (.leaf (.ptr (.p 0 0)))⟩), (4, ⟨[], .one (.leaf (.ptr (.p 1 0)))⟩), (7, ⟨[], .one (.leaf (.ref 2 36))⟩), (8, ⟨[], .one (.leaf (.at (.v 1) 3))⟩)], [(0, .box 26 (.leaf (.at (.v 2) 26))), (1, .box 33 (.leaf (.at (.v 3) 33))), (2, .arr 54 36 (.v 4))]⟩⟩]
def b115 : List Blk := [
 ⟨[(0, 0, [false, false, true, false, true, false, true]), (2, 0, [false, false, true, false, true, false, true]), (1, 0, []), (0, 0, [true, true])], ⟨6, 2, [(1, ⟨[], .one (.leaf (.at (.v 0) 9))⟩), (2, ⟨[], .one (.leaf (.ptr (.p 0 0)))⟩), (4, ⟨[], .one (.leaf (.ptr (.p 1 0)))⟩), (6, ⟨[], .one (.leaf (.at (.v 1) 3))⟩)], [(0, .box 33 (.leaf (.at (.v 2) 33))), (1, .box 33 (.agg 33 [.at (.v 3) 3, .at (.v 4) 3, .at (.v 5) 9, .nil 30, .nil 31]))]⟩⟩]
def b117 : List Blk := [
 ⟨[(0, 0, [false, false, true, false, true, true]), (2, 0, [false, false, true, false, true, true]), (1, 0, []), (0, 0, [true, true, true])], ⟨5, 3, [(2, ⟨[], .one (.leaf (.at (.v 0) 39))⟩), (3, ⟨[], .one (.leaf (.ptr (.p 0 0)))⟩), (4, ⟨[], .one (.leaf (.ptr (.p 1 0)))⟩), (7, ⟨[], .one (.leaf (.ref 2 36))⟩), (8, ⟨[], .one (.leaf (.at (.v 1) 3))⟩)], [(0, .box 26 (.leaf (.at (.v 2) 26))), (1, .box 33 (.leaf (.at (.v 3) 33))), (2, .arr 54 36 (.v 4))]⟩⟩,
 ⟨[(1, 1, []), (0, 0, [true, true, false, false, true, false, true, true]), (2, 0, [false, false, true, false, true, true]), (1, 0, []), (0, 0, [true, true, true])], ⟨5, 3, [(2, ⟨[], .one (.leaf (.at (.v 0) 39))⟩), (3, ⟨[], .one (.leaf (.ptr (.p 0 0)))⟩), (4, ⟨[], .one (.leaf (.ptr (.p 1 0)))⟩), (7, ⟨[], .one (.leaf (.ref 2 36))⟩), (8, ⟨[], .one (.leaf (.at (.v 1) 3))⟩)], [(0, .box 26 (.leaf (.at (.v 2) 26))), (1, .box 33 (.leaf (.at (.v 3) 33))), (2, .arr 54 36 (.v 4))]⟩⟩,
 ⟨[(0, 0, [false, false, true, false, true, true, true]), (2, 0, [false, false, true, false, true, true, true]), (1, 2, []), (0, 0, [true, true, true, true])], ⟨5, 3, [(2, ⟨[], .one (.leaf (.at (.v 0) 39))⟩), (3, ⟨[], .one (.leaf (.ptr (.p 0 0)))⟩), (4, ⟨[], .one (.leaf (.ptr (.p 1 0)))⟩), (7, ⟨[], .one (.leaf (.ref 2 36))⟩), (13, ⟨[], .one (.leaf (.at (.v 1) 3))⟩)], [(0, .box 26 (.leaf (.at (.v 2) 26))), (1, .box 33 (.leaf (.at (.v 3) 33))), (2, .arr 54 36 (.v 4))]⟩⟩,
 ⟨[(1, 3, []), (0, 0, [true, true, false, false, true, false, true, true, true]), (2, 0, [false, false, true, false, true, true, true]), (1, 2, []), (0, 0, [true, true, true, true])], ⟨5, 3, [(2, ⟨[], .one (.leaf (.at (.v 0) 39))⟩), (3, ⟨[], .one (.leaf (.ptr (.p 0 0)))⟩), (4, ⟨[], .one (.leaf (.ptr (.p 1 0)))⟩), (7, ⟨[], .one (.leaf (.ref 2 36))⟩), (13, ⟨[], .one (.leaf (.at (.v 1) 3))⟩)], [(0, .box 26 (.leaf (.at (.v 2) 26))), (1, .box 33 (.leaf (.at (.v 3) 33))), (2, .arr 54 36 (.v 4))]⟩⟩]
def b123 : List Blk := [
 ⟨[(0, 0, [false, false, true, false, true, true]), (2, 0, [false, false, true, false, true, true]), (1, 0, []), (0, 0, [true, true, true])], ⟨7, 2, [(1, ⟨[], .one (.leaf (.at (.v 0) 39))⟩), (2, ⟨[], .one (.leaf (.ptr (.p 0 0)))⟩), (4, ⟨[], .one (.leaf (.ptr (.p 1 0)))⟩), (6, ⟨[], .one (.leaf (.at (.v 1) 3))⟩)], [(0, .box 26 (.leaf (.at (.v 2) 26))), (1, .box 26 (.agg 26 [.at (.v 3) 3, .at (.v 4) 3, .at (.v 5) 3, .nil 22, .at (.v 6) 9, .nil 23, .nil 24]))]⟩⟩,
 ⟨[(1, 1, []), (0, 0, [true, true, false, false, true, false, true, true]), (2, 0, [false, false, true, false, true, true]), (1, 0, []), (0, 0, [true, true, true])], ⟨7, 2, [(1, ⟨[], .one (.leaf (.at (.v 0) 39))⟩), (2, ⟨[], .one (.leaf (.ptr (.p 0 0)))⟩), (4, ⟨[], .one (.leaf (.ptr (.p 1 0)))⟩), (6, ⟨[], .one (.leaf (.at (.v 1) 3))⟩)], [(0, .box 26 (.leaf (.at (.v 2) 26))), (1, .box 26 (.agg 26 [.at (.v 3) 3, .at (.v 4) 3, .at (.v 5) 3, .nil 22, .at (.v 6) 9, .nil 23, .nil 24]))]⟩⟩]
def b124 : List Blk := [
 ⟨[(0, 0, [false, false, true, false, true, true]), (2, 0, [false, false, true, false, true, true]), (1, 0, []), (0, 0, [true, true, true])], ⟨3, 2, [(2, ⟨[], .one (.leaf (.ptr (.p 0 0)))⟩), (3, ⟨[], .one (.leaf (.ptr (.p 1 0)))⟩), (5, ⟨[], .one (.leaf (.at (.v 0) 3))⟩)], [(0, .box 26 (.leaf (.at (.v 1) 26))), (1, .box 26 (.leaf (.at (.v 2) 26)))]⟩⟩,
 ⟨[(0, 0, [false, false, true, false, true, true, true]), (2, 0, [false, false, true, false, true, true, true]), (1, 2, []), (0, 0, [true, true, true, true])], ⟨3, 2, [(2, ⟨[], .one (.leaf (.ptr (.p 0 0)))⟩), (3, ⟨[], .one (.leaf (.ptr (.p 1 0)))⟩), (6, ⟨[], .one (.leaf (.at (.v 0) 3))⟩)], [(0, .box 26 (.leaf (.at (.v 1) 26))), (1, .box 26 (.leaf (.at (.v 2) 26)))]⟩⟩,
 ⟨[(0, 0, [false, false, true, false, true, true, true, true]), (2, 0, [false, false, true, false, true, true, true, true]), (1, 4, []), (0, 0, [true, true, true, true, true])], ⟨3, 2, [(2, ⟨[], .one (.leaf (.ptr (.p 0 0)))⟩), (3, ⟨[], .one (.leaf (.ptr (.p 1 0)))⟩), (7, ⟨[], .one (.leaf (.at (.v 0) 3))⟩)], [(0, .box 26 (.leaf (.at (.v 1) 26))), (1, .box 26 (.leaf (.at (.v 2) 26)))]⟩⟩,
 ⟨[(0, 0, [false, false, true, true, true, false, false, true, false, false, true, false, true, true, true, true]), (2, 0, [false, false, true, true, true, false, false, true, false, false, true, false, true, true, true, true]), (1, 6, []), (1, 5, []), (0, 0, [true, true, false, false, true, false, true, true, true, true]), (2, 0, [false, false, true, false, true, true, true, true]), (1, 4, []), (0, 0, [true, true, true, true, true])], ⟨6, 4, [(2, ⟨[], .one (.leaf (.ptr (.p 0 0)))⟩), (3, ⟨[], .one (.leaf (.ptr (.p 1 0)))⟩), (7, ⟨[], .one (.leaf (.at (.v 0) 3))⟩), (8, ⟨[], .one (.leaf (.ptr (.p 2 0)))⟩), (9, ⟨[], .one (.leaf (.ptr (.p 3 0)))⟩), (10, ⟨[], .one (.leaf (.at (.v 1) 3))⟩)], [(0, .box 26 (.leaf (.at (.v 2) 26))), (1, .box 26 (.leaf (.at (.v 3) 26))), (2, .box 64 (.leaf (.at (.v 4) 64))), (3, .box 64 (.leaf (.at (.v 5) 64)))]⟩⟩]
def b126 : List Blk := [
 ⟨[(0, 0, [true, true, true])], ⟨3, 2, [(2, ⟨[], .one (.leaf (.ptr (.p 0 0)))⟩), (3, ⟨[], .one (.leaf (.ptr (.p 1 0)))⟩), (5, ⟨[], .one (.leaf (.at (.v 0) 3))⟩)], [(0, .box 33 (.leaf (.at (.v 1) 33))), (1, .box 33 (.leaf (.at (.v 2) 33)))]⟩⟩,
 ⟨[(0, 0, [true, true, true, true])], ⟨3, 2, [(2, ⟨[], .one (.leaf (.ptr (.p 0 0)))⟩), (3, ⟨[], .one (.leaf (.ptr (.p 1 0)))⟩), (5, ⟨[], .one (.leaf (.at (.v 0) 3))⟩)], [(0, .box 33 (.leaf (.at (.v 1) 33))), (1, .box 33 (.leaf (.at (.v 2) 33)))]⟩⟩,
 ⟨[(0, 0, [false, false, true, false, true, true, true, true]), (2, 0, [false, false, true, false, true, true, true, true]), (1, 0, []), (0, 0, [true, true, true, true, true])], ⟨4, 2, [(2, ⟨[], .one (.leaf (.ptr (.p 0 0)))⟩), (3, ⟨[], .one (.leaf (.ptr (.p 1 0)))⟩), (5, ⟨[], .one (.leaf (.at (.v 0) 3))⟩), (6, ⟨[], .one (.leaf (.at (.v 1) 3))⟩)], [(0, .box 33 (.leaf (.at (.v 2) 33))), (1, .box 33 (.leaf (.at (.v 3) 33)))]⟩⟩,
 ⟨[(0, 0, [true, true, true, true, true, true])], ⟨3, 2, [(2, ⟨[], .one (.leaf (.ptr (.p 0 0)))⟩), (3, ⟨[], .one (.leaf (.ptr (.p 1 0)))⟩), (5, ⟨[], .one (.leaf (.at (.v 0) 3))⟩)], [(0, .box 33 (.leaf (.at (.v 1) 33))), (1, .box 33 (.leaf (.at (.v 2) 33)))]⟩⟩,
 ⟨[(0, 0, [false, false, true, false, true, true, true, true, true, true]), (2, 0, [false, false, true, false, true, true, true, true, true, true]), (1, 2, []), (0, 0, [true, true, true, true, true, true, true])], ⟨4, 2, [(2, ⟨[], .one (.leaf (.ptr (.p 0 0)))⟩), (3, ⟨[], .one (.leaf (.ptr (.p 1 0)))⟩), (5, ⟨[], .one (.leaf (.at (.v 0) 3))⟩), (7, ⟨[], .one (.leaf (.at (.v 1) 3))⟩)], [(0, .box 33 (.leaf (.at (.v 2) 33))), (1, .box 33 (.leaf (.at (.v 3) 33)))]⟩⟩,
 ⟨[(1, 3, []), (0, 0, [true, true, false, false, true, false, true, true, true, true, true, true]), (2, 0, [false, false, true, false, true, true, true, true, true, true]), (1, 2, []), (0, 0, [true, true, true, true, true, true, true])], ⟨4, 2, [(2, ⟨[], .one (.leaf (.ptr (.p 0 0)))⟩), (3, ⟨[], .one (.leaf (.ptr (.p 1 0)))⟩), (5, ⟨[], .one (.leaf (.at (.v 0) 3))⟩), (7, ⟨[], .one (.leaf (.at (.v 1) 3))⟩)], [(0, .box 33 (.leaf (.at (.v 2) 33))), (1, .box 33 (.leaf (.at (.v 3) 33)))]⟩⟩]
def b129 : List Blk := [
 ⟨[(0, 0, [false, false, true, false, true, true]), (2, 0, [false, false, true, false, true, true]), (1, 0, []), (0, 0, [true, true, true])], ⟨6, 2, [(1, ⟨[], .one (.leaf (.at (.v 0) 39))⟩), (2, ⟨[], .one (.leaf (.ptr (.p 0 0)))⟩), (4, ⟨[], .one (.leaf (.ptr (.p 1 0)))⟩), (6, ⟨[], .one (.leaf (.at (.v 1) 3))⟩)], [(0, .box 33 (.leaf (.at (.v 2) 33))), (1, .box 33 (.agg 33 [.at (.v 3) 3, .at (.v 4) 3, .at (.v 5) 9, .nil 30, .nil 31]))]⟩⟩,
 ⟨[(1, 1, []), (0, 0, [true, true, false, false, true, false, true, true]), (2, 0, [false, false, true, false, true, true]), (1, 0, []), (0, 0, [true, true, true])], ⟨6, 2, [(1, ⟨[], .one (.leaf (.at (.v 0) 39))⟩), (2, ⟨[], .one (.leaf (.ptr (.p 0 0)))⟩), (4, ⟨[], .one (.leaf (.ptr (.p 1 0)))⟩), (6, ⟨[], .one (.leaf (.at (.v 1) 3))⟩)], [(0, .box 33 (.leaf (.at (.v 2) 33))), (1, .box 33 (.agg 33 [.at (.v 3) 3, .at (.v 4) 3, .at (.v 5) 9, .nil 30, .nil 31]))]⟩⟩]
def b130 : List Blk := [
 ⟨[(0, 0, [false, false, true, false, true, true, true, true]), (2, 0, [false, false, true, false, true, true, true, true]), (1, 0, []), (0, 0, [true, true, true, true, true])], ⟨3, 2, [(2, ⟨[], .one (.leaf (.ptr (.p 0 0)))⟩), (3, ⟨[], .one (.leaf (.ptr (.p 1 0)))⟩), (5, ⟨[], .one (.leaf (.at (.v 0) 3))⟩)], [(0, .box 33 (.leaf (.at (.v 1) 33))), (1, .box 74 (.leaf (.at (.v 2) 74)))]⟩⟩]
def b131 : List Blk := [
 ⟨[(0, 0, [false, false, true, false, true]), (2, 0, [false, false, true, false, true]), (1, 0, []), (0, 0, [true, true])], ⟨3, 1, [(1, ⟨[], .one (.leaf (.at (.v 0) 9))⟩), (2, ⟨[], .one (.leaf (.ptr (.p 0 0)))⟩), (5, ⟨[], .one (.leaf (.at (.v 1) 3))⟩)], [(0, .box 33 (.leaf (.at (.v 2) 33)))]⟩⟩]
def b135 : List Blk := [
 ⟨[(0, 0, [false, false, true, false, true, true]), (2, 0, [false, false, true, false, true, true]), (1, 0, []), (0, 0, [true, true, true])], ⟨4, 1, [(1, ⟨[], .one (.leaf (.at (.v 0) 3))⟩), (2, ⟨[], .one (.leaf (.ptr (.p 0 0)))⟩), (5, ⟨[], .one (.leaf (.at (.v 1) 3))⟩), (6, ⟨[], .one (.leaf (.at (.v 2) 3))⟩)], [(0, .box 26 (.leaf (.at (.v 3) 26)))]⟩⟩,
 ⟨[(0, 0, [false, false, true, false, true, true, true]), (2, 0, [false, false, true, false, true, true, true]), (1, 2, []), (0, 0, [true, true, true, true])], ⟨4, 1, [(1, ⟨[], .one (.leaf (.at (.v 0) 3))⟩), (2, ⟨[], .one (.leaf (.ptr (.p 0 0)))⟩), (5, ⟨[], .one (.leaf (.at (.v 1) 3))⟩), (7, ⟨[], .one (.leaf (.at (.v 2) 3))⟩)], [(0, .box 26 (.leaf (.at (.v 3) 26)))]⟩⟩]
def b138 : List Blk := [
 ⟨[(0, 0, [false, false, true, false, true, false, true, true]), (2, 0, [false, false, true, false, true, false, true, true]), (1, 1, []), (0, 0, [true, true, true])], ⟨8, 3, [(2, ⟨[], .one (.leaf (.ptr (.p 0 0)))⟩), (3, ⟨[], .one (.leaf (.ptr (.p 1 0)))⟩), (4, ⟨[], .one (.leaf (.ptr (.p 2 0)))⟩), (44, ⟨[], .one (.leaf (.at (.v 0) 24))⟩), (45, ⟨[], .one (.leaf (.at (.v 1) 3))⟩), (46, ⟨[], .one (.leaf (.at (.v 2) 3))⟩)], [(0, .box 26 (.leaf (.at (.v 3) 26))), (1, .box 33 (.leaf (.at (.v 4) 33))), (2, .box 33 (.agg 33 [.at (.v 5) 3, .at (.v 6) 3, .at (.v 7) 9, .nil 30, .nil 31]))]⟩⟩,
 ⟨[(0, 0, [true, true, true])], ⟨5, 3, [(2, ⟨[], .one (.leaf (.ptr (.p 0 0)))⟩), (3, ⟨[], .one (.leaf (.ptr (.p 1 0)))⟩), (4, ⟨[], .one (.leaf (.ptr (.p 2 0)))⟩)], [(0, .box 26 (.leaf (.at (.v 0) 26))), (1, .box 33 (.leaf (.at (.v 1) 33))), (2, .box 33 (.agg 33 [.at (.v 2) 3, .at (.v 3) 3, .at (.v 4) 9, .nil 30, .nil 31]))]⟩⟩,
 ⟨[(1, 2, []), (0, 0, [true, true, true, false, false, true, false, true, false, true, true]), (2, 0, [false, false, true, false, true, false, true, true]), (1, 1, []), (0, 0, [true, true, true])], ⟨8, 3, [(2, ⟨[], .one (.leaf (.ptr (.p 0 0)))⟩), (3, ⟨[], .one (.leaf (.ptr (.p 1 0)))⟩), (4, ⟨[], .one (.leaf (.ptr (.p 2 0)))⟩), (44, ⟨[], .one (.leaf (.at (.v 0) 24))⟩), (45, ⟨[], .one (.leaf (.at (.v 1) 3))⟩), (46, ⟨[], .one (.leaf (.at (.v 2) 3))⟩)], [(0, .box 26 (.leaf (.at (.v 3) 26))), (1, .box 33 (.leaf (.at (.v 4) 33))), (2, .box 33 (.agg 33 [.at (.v 5) 3, .at (.v 6) 3, .at (.v 7) 9, .nil 30, .nil 31]))]⟩⟩,
 ⟨[(0, 0, [false, false, true, false, true, true, true, true]), (2, 0, [false, false, true, false, true, true, true, true]), (1, 3, []), (0, 0, [true, true, true, true, true])], ⟨8, 3, [(2, ⟨[], .one (.leaf (.ptr (.p 0 0)))⟩), (4, ⟨[], .one (.leaf (.ptr (.p 1 0)))⟩), (9, ⟨[], .one (.leaf (.ref 2 31))⟩), (76, ⟨[], .one (.leaf (.at (.v 0) 31))⟩), (77, ⟨[], .one (.leaf (.at (.v 1) 3))⟩), (78, ⟨[], .one (.leaf (.at (.v 2) 3))⟩)], [(0, .box 26 (.leaf (.at (.v 3) 26))), (1, .box 33 (.agg 33 [.at (.v 4) 3, .at (.v 5) 3, .at (.v 6) 9, .nil 30, .nil 31])), (2, .arr 70 31 (.v 7))]⟩⟩,
 ⟨[(0, 0, [true, true, false, false, true, true, false, false, true, false, true, true, true, true]), (1, 4, []), (0, 0, [true, true, true, false, false, true, false, true, true, true, true]), (2, 0, [false, false, true, false, true, true, true, true]), (1, 3, []), (0, 0, [true, true, true, true, true])], ⟨14, 4, [(2, ⟨[], .one (.leaf (.ptr (.p 0 0)))⟩), (4, ⟨[], .one (.leaf (.ptr (.p 1 0)))⟩), (9, ⟨[], .one (.leaf (.ref 2 31))⟩), (11, ⟨[], .one (.leaf (.ptr (.p 3 0)))⟩), (76, ⟨[], .one (.leaf (.at (.v 0) 31))⟩), (77, ⟨[], .one (.leaf (.at (.v 1) 3))⟩), (78, ⟨[], .one (.leaf (.at (.v 2) 3))⟩)], [(0, .box 26 (.leaf (.at (.v 3) 26))), (1, .box 33 (.agg 33 [.at (.v 4) 3, .at (.v 5) 3, .at (.v 6) 9, .nil 30, .nil 31])), (2, .arr 70 31 (.v 7)), (3, .box 70 (.agg 70 [.at (.v 8) 9, .at (.v 9) 3, .at (.v 10) 3, .at (.v 11) 9, .at (.v 12) 30, .at (.v 13) 31]))]⟩⟩]
def b140 : List Blk := [
 ⟨[(0, 0, [false, false, true, false, true, true, true]), (2, 0, [false, false, true, false, true, true, true]), (1, 0, []), (0, 0, [true, true, true, true])], ⟨8, 3, [(2, ⟨[], .one (.leaf (.fn 29 []))⟩), (3, ⟨[], .one (.leaf (.ptr (.p 0 0)))⟩), (6, ⟨[], .one (.leaf (.ptr (.p 1 0)))⟩), (7, ⟨[], .one (.leaf (.ref 2 30))⟩), (17, ⟨[], .one (.leaf (.at (.v 0) 30))⟩), (18, ⟨[], .one (.leaf (.at (.v 1) 3))⟩), (19, ⟨[], .one (.leaf (.at (.v 2) 3))⟩)], [(0, .box 26 (.leaf (.at (.v 3) 26))), (1, .box 33 (.agg 33 [.at (.v 4) 3, .at (.v 5) 3, .at (.v 6) 9, .nil 30, .nil 31])), (2, .arr 33 30 (.v 7))]⟩⟩]
def b143 : List Blk := [
 ⟨[(0, 0, [false, false, true, false, true, true, true]), (2, 0, [false, false, true, false, true, true, true]), (1, 0, []), (0, 0, [true, true, true, true])], ⟨4, 2, [(0, ⟨[], .one (.leaf (.ref 1 31))⟩), (1, ⟨[], .one (.leaf (.fn 192 [.im (.v 0) 9 0]))⟩), (5, ⟨[], .one (.leaf (.at (.v 1) 3))⟩), (6, ⟨[], .one (.leaf (.at (.v 2) 3))⟩)], [(1, .arr 70 31 (.v 3))]⟩⟩,
 ⟨[(1, 1, []), (0, 0, [true, true, false, false, true, false, true, true, true]), (2, 0, [false, false, true, false, true, true, true]), (1, 0, []), (0, 0, [true, true, true, true])], ⟨4, 2, [(0, ⟨[], .one (.leaf (.ref 1 31))⟩), (1, ⟨[], .one (.leaf (.fn 192 [.im (.v 0) 9 0]))⟩), (5, ⟨[], .one (.leaf (.at (.v 1) 3))⟩), (6, ⟨[], .one (.leaf (.at (.v 2) 3))⟩)], [(1, .arr 70 31 (.v 3))]⟩⟩]
def b144 : List Blk := [
 ⟨[(0, 0, [false, false, true, false, true]), (2, 0, [false, false, true, false, true]), (1, 0, []), (0, 0, [true, true])], ⟨4, 0, [(0, ⟨[], .one (.leaf (.at (.v 0) 31))⟩), (1, ⟨[], .one (.leaf (.fn 192 [.im (.v 1) 9 0]))⟩), (7, ⟨[], .one (.leaf (.at (.v 2) 3))⟩), (8, ⟨[], .one (.leaf (.at (.v 3) 3))⟩)], []⟩⟩]
def b146 : List Blk := [
 ⟨[(0, 0, [false, false, true, false, true, true]), (2, 0, [false, false, true, false, true, true]), (1, 0, []), (0, 0, [true, true, true])], ⟨8, 1, [(1, ⟨[], .one (.leaf (.at (.v 0) 9))⟩), (4, ⟨[], .one (.leaf (.ptr (.p 0 0)))⟩), (17, ⟨[], .one (.leaf (.at (.v 1) 24))⟩), (18, ⟨[], .one (.leaf (.at (.v 2) 3))⟩), (19, ⟨[], .one (.leaf (.at (.v 3) 3))⟩)], [(0, .box 26 (.agg 26 [.at (.v 4) 3, .at (.v 5) 3, .at (.v 6) 3, .nil 22, .at (.v 7) 9, .nil 23, .nil 24]))]⟩⟩]
def b147 : List Blk := [
 ⟨[(0, 0, [false, false, true, false, true, true, true]), (2, 0, [false, false, true, false, true, true, true]), (1, 1, []), (0, 0, [true, true, true, true])], ⟨8, 3, [(2, ⟨[], .one (.leaf (.ptr (.p 0 0)))⟩), (4, ⟨[], .one (.leaf (.ptr (.p 1 0)))⟩), (5, ⟨[], .one (.leaf (.ref 2 31))⟩), (36, ⟨[], .one (.leaf (.at (.v 0) 31))⟩), (37, ⟨[], .one (.leaf (.at (.v 1) 3))⟩), (38, ⟨[], .one (.leaf (.at (.v 2) 3))⟩)], [(0, .box 26 (.leaf (.at (.v 3) 26))), (1, .box 33 (.agg 33 [.at (.v 4) 3, .at (.v 5) 3, .at (.v 6) 9, .nil 30, .nil 31])), (2, .arr 70 31 (.v 7))]⟩⟩,
 ⟨[(1, 2, []), (0, 0, [true, true, true, false, false, true, false, true, true, true]), (2, 0, [false, false, true, false, true, true, true]), (1, 1, []), (0, 0, [true, true, true, true])], ⟨8, 3, [(2, ⟨[], .one (.leaf (.ptr (.p 0 0)))⟩), (4, ⟨[], .one (.leaf (.ptr (.p 1 0)))⟩), (5, ⟨[], .one (.leaf (.ref 2 31))⟩), (36, ⟨[], .one (.leaf (.at (.v 0) 31))⟩), (37, ⟨[], .one (.leaf (.at (.v 1) 3))⟩), (38, ⟨[], .one (.leaf (.at (.v 2) 3))⟩)], [(0, .box 26 (.leaf (.at (.v 3) 26))), (1, .box 33 (.agg 33 [.at (.v 4) 3, .at (.v 5) 3, .at (.v 6) 9, .nil 30, .nil 31])), (2, .arr 70 31 (.v 7))]⟩⟩]
def b148 : List Blk := [
 ⟨[(0, 0, [false, false, true, false, true, true, true]), (2, 0, [false, false, true, false, true, true, true]), (1, 0, []), (0, 0, [true, true, true, true])], ⟨8, 3, [(2, ⟨[], .one (.leaf (.fn 30 []))⟩), (3, ⟨[], .one (.leaf (.ptr (.p 0 0)))⟩), (6, ⟨[], .one (.leaf (.ptr (.p 1 0)))⟩), (7, ⟨[], .one (.leaf (.ref 2 30))⟩), (17, ⟨[], .one (.leaf (.at (.v 0) 30))⟩), (18, ⟨[], .one (.leaf (.at (.v 1) 3))⟩), (19, ⟨[], .one (.leaf (.at (.v 2) 3))⟩)], [(0, .box 26 (.leaf (.at (.v 3) 26))), (1, .box 33 (.agg 33 [.at (.v 4) 3, .at (.v 5) 3, .at (.v 6) 9, .nil 30, .nil 31])), (2, .arr 33 30 (.v 7))]⟩⟩]
def b151 : List Blk := [
 ⟨[(0, 0, [false, false, true, false, true, true]), (2, 0, [false, false, true, false, true, true]), (1, 0, []), (0, 0, [true, true, true])], ⟨8, 6, [(0, ⟨[], .one (.leaf (.ptr (.p 1 0)))⟩), (4, ⟨[], .one (.leaf (.at (.v 0) 39))⟩), (6, ⟨[], .one (.leaf (.ptr (.p 2 0)))⟩), (7, ⟨[], .one (.leaf (.ptr (.p 3 0)))⟩), (8, ⟨[], .one (.leaf (.ptr (.p 4 0)))⟩), (38, ⟨[], .one (.leaf (.at (.v 1) 31))⟩), (39, ⟨[], .one (.leaf (.at (.v 2) 3))⟩), (40, ⟨[], .one (.leaf (.at (.v 3) 3))⟩)], [(1, .box 89 (.agg 89 [.ref 5 36])), (2, .box 26 (.leaf (.at (.v 4) 26))), (3, .box 33 (.leaf (.at (.v 5) 33))), (4, .box 33 (.leaf (.at (.v 6) 33))), (5, .arr 54 36 (.v 7))]⟩⟩,
 ⟨[(0, 0, [true, true, true, false, false, true, false, true, true]), (2, 0, [false, false, true, false, true, true]), (1, 0, []), (0, 0, [true, true, true])], ⟨8, 6, [(0, ⟨[], .one (.leaf (.ptr (.p 1 0)))⟩), (4, ⟨[], .one (.leaf (.at (.v 0) 39))⟩), (6, ⟨[], .one (.leaf (.ptr (.p 2 0)))⟩), (7, ⟨[], .one (.leaf (.ptr (.p 3 0)))⟩), (8, ⟨[], .one (.leaf (.ptr (.p 4 0)))⟩), (38, ⟨[], .one (.leaf (.at (.v 1) 31))⟩), (39, ⟨[], .one (.leaf (.at (.v 2) 3))⟩), (40, ⟨[], .one (.leaf (.at (.v 3) 3))⟩)], [(1, .box 89 (.agg 89 [.ref 5 36])), (2, .box 26 (.leaf (.at (.v 4) 26))), (3, .box 33 (.leaf (.at (.v 5) 33))), (4, .box 33 (.leaf (.at (.v 6) 33))), (5, .arr 54 36 (.v 7))]⟩⟩,
 ⟨[(1, 2, []), (1, 1, []), (0, 0, [true, true, true, false, false, true, false, true, true]), (2, 0, [false, false, true, false, true, true]), (1, 0, []), (0, 0, [true, true, true])], ⟨8, 6, [(0, ⟨[], .one (.leaf (.ptr (.p 1 0)))⟩), (4, ⟨[], .one (.leaf (.at (.v 0) 39))⟩), (6, ⟨[], .one (.leaf (.ptr (.p 2 0)))⟩), (7, ⟨[], .one (.leaf (.ptr (.p 3 0)))⟩), (8, ⟨[], .one (.leaf (.ptr (.p 4 0)))⟩), (38, ⟨[], .one (.leaf (.at (.v 1) 31))⟩), (39, ⟨[], .one (.leaf (.at (.v 2) 3))⟩), (40, ⟨[], .one (.leaf (.at (.v 3) 3))⟩)], [(1, .box 89 (.agg 89 [.ref 5 36])), (2, .box 26 (.leaf (.at (.v 4) 26))), (3, .box 33 (.leaf (.at (.v 5) 33))), (4, .box 33 (.leaf (.at (.v 6) 33))), (5, .arr 54 36 (.v 7))]⟩⟩,
 ⟨[(0, 0, [false, false, true, true, true, true, true, true]), (2, 0, [false, false, true, true, true, true, true, true]), (1, 3, [])], ⟨8, 6, [(0, ⟨[], .one (.leaf (.ptr (.p 1 0)))⟩), (4, ⟨[], .one (.leaf (.at (.v 0) 39))⟩), (6, ⟨[], .one (.leaf (.ptr (.p 2 0)))⟩), (8, ⟨[], .one (.leaf (.ptr (.p 3 0)))⟩), (19, ⟨[], .one (.leaf (.mref 4 132))⟩), (127, ⟨[], .one (.leaf (.at (.v 1) 30))⟩), (128, ⟨[], .one (.leaf (.at (.v 2) 3))⟩), (129, ⟨[], .one (.leaf (.at (.v 3) 3))⟩)], [(1, .box 89 (.agg 89 [.ref 5 36])), (2, .box 26 (.leaf (.at (.v 4) 26))), (3, .box 33 (.leaf (.at (.v 5) 33))), (4, .mp 132 9 4 (.v 6)), (5, .arr 54 36 (.v 7))]⟩⟩,
 ⟨[(0, 0, [true, true, true, false, false, true, true, true, true, true, true]), (2, 0, [false, false, true, true, true, true, true, true]), (1, 3, [])], ⟨8, 6, [(0, ⟨[], .one (.leaf (.ptr (.p 1 0)))⟩), (4, ⟨[], .one (.leaf (.at (.v 0) 39))⟩), (6, ⟨[], .one (.leaf (.ptr (.p 2 0)))⟩), (8, ⟨[], .one (.leaf (.ptr (.p 3 0)))⟩), (19, ⟨[], .one (.leaf (.mref 4 132))⟩), (127, ⟨[], .one (.leaf (.at (.v 1) 30))⟩), (128, ⟨[], .one (.leaf (.at (.v 2) 3))⟩), (129, ⟨[], .one (.leaf (.at (.v 3) 3))⟩)], [(1, .box 89 (.agg 89 [.ref 5 36])), (2, .box 26 (.leaf (.at (.v 4) 26))), (3, .box 33 (.leaf (.at (.v 5) 33))), (4, .mp 132 9 4 (.v 6)), (5, .arr 54 36 (.v 7))]⟩⟩,
 ⟨[(1, 4, []), (0, 0, [true, true, true, false, false, true, true, true, true, true, true]), (2, 0, [false, false, true, true, true, true, true, true]), (1, 3, [])], ⟨8, 6, [(0, ⟨[], .one (.leaf (.ptr (.p 1 0)))⟩), (4, ⟨[], .one (.leaf (.at (.v 0) 39))⟩), (6, ⟨[], .one (.leaf (.ptr (.p 2 0)))⟩), (8, ⟨[], .one (.leaf (.ptr (.p 3 0)))⟩), (19, ⟨[], .one (.leaf (.mref 4 132))⟩), (127, ⟨[], .one (.leaf (.at (.v 1) 30))⟩), (128, ⟨[], .one (.leaf (.at (.v 2) 3))⟩), (129, ⟨[], .one (.leaf (.at (.v 3) 3))⟩)], [(1, .box 89 (.agg 89 [.ref 5 36])), (2, .box 26 (.leaf (.at (.v 4) 26))), (3, .box 33 (.leaf (.at (.v 5) 33))), (4, .mp 132 9 4 (.v 6)), (5, .arr 54 36 (.v 7))]⟩⟩]
def b156 : List Blk := [
 ⟨[(0, 0, [false, false, true, false, true]), (2, 0, [false, false, true, false, true]), (1, 0, []), (0, 0, [true, true])], ⟨5, 0, [(0, ⟨[], .one (.leaf (.at (.v 0) 30))⟩), (1, ⟨[], .one (.leaf (.at (.v 1) 30))⟩), (2, ⟨[], .one (.leaf (.fn 196 []))⟩), (11, ⟨[], .one (.leaf (.at (.v 2) 30))⟩), (12, ⟨[], .one (.leaf (.at (.v 3) 3))⟩), (13, ⟨[], .one (.leaf (.at (.v 4) 3))⟩)], []⟩⟩]
def b157 : List Blk := [
 ⟨[(0, 0, [false, false, true, false, true]), (2, 0, [false, false, true, false, true]), (1, 0, []), (0, 0, [true, true])], ⟨5, 0, [(0, ⟨[], .one (.leaf (.at (.v 0) 31))⟩), (1, ⟨[], .one (.leaf (.at (.v 1) 31))⟩), (2, ⟨[], .one (.leaf (.fn 230 []))⟩), (11, ⟨[], .one (.leaf (.at (.v 2) 31))⟩), (12, ⟨[], .one (.leaf (.at (.v 3) 3))⟩), (13, ⟨[], .one (.leaf (.at (.v 4) 3))⟩)], []⟩⟩]
def b159 : List Blk := [
 ⟨[(0, 0, [false, false, true, false, true, true]), (2, 0, [false, false, true, false, true, true]), (1, 0, []), (0, 0, [true, true, true])], ⟨4, 0, [(3, ⟨[], .one (.leaf (.at (.v 0) 3))⟩), (6, ⟨[], .one (.leaf (.at (.v 1) 202))⟩), (7, ⟨[], .one (.leaf (.at (.v 2) 3))⟩), (8, ⟨[], .one (.leaf (.at (.v 3) 3))⟩)], []⟩⟩]
def b160 : List Blk := [
 ⟨[(0, 0, [false, false, true, false, true]), (2, 0, [false, false, true, false, true]), (1, 0, []), (0, 0, [true, true])], ⟨5, 0, [(0, ⟨[], .one (.leaf (.at (.v 0) 30))⟩), (1, ⟨[], .one (.leaf (.fn 147 [.im (.v 1) 26 0, .im (.v 2) 9 0]))⟩), (7, ⟨[], .one (.leaf (.at (.v 3) 3))⟩), (8, ⟨[], .one (.leaf (.at (.v 4) 3))⟩)], []⟩⟩]
def b163 : List Blk := [
 ⟨[(0, 0, [false, false, false, true, true]), (2, 0, [false, false, false, true, true]), (1, 0, []), (0, 0, [true, true, true])], ⟨5, 1, [(0, ⟨[], .one (.leaf (.ref 0 36))⟩), (1, ⟨[], .one (.leaf (.at (.v 0) 3))⟩), (2, ⟨[], .one (.leaf (.fn 83 []))⟩), (6, ⟨[], .one (.leaf (.at (.v 1) 3))⟩), (7, ⟨[], .one (.leaf (.at (.v 2) 3))⟩), (8, ⟨[], .one (.leaf (.at (.v 3) 3))⟩)], [(0, .arr 54 36 (.v 4))]⟩⟩,
 ⟨[(0, 0, [false, false, true, true, true, true]), (2, 0, [false, false, true, true, true, true]), (1, 2, [])], ⟨3, 1, [(0, ⟨[], .one (.leaf (.ref 0 36))⟩), (1, ⟨[], .one (.leaf (.at (.v 0) 3))⟩), (2, ⟨[], .one (.leaf (.fn 83 []))⟩), (6, ⟨[], .one (.leaf (.at (.v 1) 3))⟩)], [(0, .arr 54 36 (.v 2))]⟩⟩,
 ⟨[(0, 0, [false, false, false, true, false, true, false, false, true, true, true, true]), (2, 0, [false, false, false, true, false, true, false, false, true, true, true, true]), (1, 4, []), (0, 0, [true, true, false, true, false, false, true, true, true, true]), (1, 3, []), (2, 0, [false, false, true, true, true, true]), (1, 2, [])], ⟨5, 1, [(0, ⟨[], .one (.leaf (.ref 0 36))⟩), (1, ⟨[], .one (.leaf (.at (.v 0) 3))⟩), (2, ⟨[], .one (.leaf (.fn 83 []))⟩), (6, ⟨[], .one (.leaf (.at (.v 1) 3))⟩), (7, ⟨[], .one (.leaf (.at (.v 2) 3))⟩), (8, ⟨[], .one (.leaf (.at (.v 3) 3))⟩)], [(0, .arr 54 36 (.v 4))]⟩⟩,
 ⟨[(0, 0, [true, true, true, false, true, false, false, true, true, true, true]), (1, 3, []), (2, 0, [false, false, true, true, true, true]), (1, 2, [])], ⟨3, 1, [(0, ⟨[], .one (.leaf (.ref 0 36))⟩), (1, ⟨[], .one (.leaf (.at (.v 0) 3))⟩), (2, ⟨[], .one (.leaf (.fn 83 []))⟩), (6, ⟨[], .one (.leaf (.at (.v 1) 3))⟩)], [(0, .arr 54 36 (.v 2))]⟩⟩]
def b164 : List Blk := [
 ⟨[(0, 0, [false, false, true]), (2, 0, [false, false, true]), (1, 0, [])], ⟨4, 1, [(0, ⟨[], .one (.leaf (.ref 0 36))⟩), (1, ⟨[], .one (.leaf (.at (.v 0) 3))⟩), (2, ⟨[], .one (.leaf (.at (.v 1) 3))⟩), (3, ⟨[], .one (.leaf (.fn 83 []))⟩), (8, ⟨[], .one (.leaf (.at (.v 2) 3))⟩)], [(0, .arr 54 36 (.v 3))]⟩⟩,
 ⟨[(0, 0, [false, false, true, false, false, true, false, false, true]), (2, 0, [false, false, true, false, false, true, false, false, true]), (1, 2, []), (1, 1, []), (0, 0, [true, true, false, false, true]), (2, 0, [false, false, true]), (1, 0, [])], ⟨5, 1, [(0, ⟨[], .one (.leaf (.ref 0 36))⟩), (1, ⟨[], .one (.leaf (.at (.v 0) 3))⟩), (2, ⟨[], .one (.leaf (.at (.v 1) 3))⟩), (3, ⟨[], .one (.leaf (.fn 83 []))⟩), (8, ⟨[], .one (.leaf (.at (.v 2) 3))⟩), (9, ⟨[], .one (.leaf (.at (.v 3) 3))⟩)], [(0, .arr 54 36 (.v 4))]⟩⟩]
def b166 : List Blk := [
 ⟨[(0, 0, [false, false, false, true, true, false, true, false]), (2, 0, [false, false, false, true, true, false, true, false]), (1, 0, []), (0, 0, [true, true, true, false, true, false]), (0, 0, [true])], ⟨4, 1, [(0, ⟨[], .one (.leaf (.ref 0 36))⟩), (1, ⟨[], .one (.leaf (.at (.v 0) 3))⟩), (4, ⟨[], .one (.leaf (.fn 83 []))⟩), (10, ⟨[], .one (.leaf (.at (.v 1) 3))⟩), (11, ⟨[], .one (.leaf (.at (.v 2) 3))⟩)], [(0, .arr 54 36 (.v 3))]⟩⟩,
 ⟨[(0, 0, [false, false, false, true, true, false, true, false, true]), (2, 0, [false, false, false, true, true, false, true, false, true]), (1, 4, []), (0, 0, [true, true, true, false, true, false, true]), (0, 0, [true, true])], ⟨4, 1, [(0, ⟨[], .one (.leaf (.ref 0 36))⟩), (2, ⟨[], .one (.leaf (.at (.v 0) 3))⟩), (4, ⟨[], .one (.leaf (.fn 83 []))⟩), (14, ⟨[], .one (.leaf (.at (.v 1) 3))⟩), (15, ⟨[], .one (.leaf (.at (.v 2) 3))⟩)], [(0, .arr 54 36 (.v 3))]⟩⟩,
 ⟨[(0, 0, [true, true, true, true, true, true])], ⟨8, 1, [(0, ⟨[], .one (.leaf (.ref 0 36))⟩), (1, ⟨[], .one (.leaf (.at (.v 0) 3))⟩), (2, ⟨[], .one (.leaf (.at (.v 1) 3))⟩), (3, ⟨[], .one (.leaf (.at (.v 2) 3))⟩), (4, ⟨[], .one (.leaf (.fn 83 []))⟩), (18, ⟨[], .one (.leaf (.at (.v 3) 3))⟩), (19, ⟨[], .one (.leaf (.at (.v 4) 3))⟩), (20, ⟨[], .one (.leaf (.at (.v 5) 3))⟩), (21, ⟨[], .one (.leaf (.at (.v 6) 3))⟩)], [(0, .arr 54 36 (.v 7))]⟩⟩,
 ⟨[(1, 1, []), (2, 0, [false, false, false, true, true, false, true, false]), (1, 0, []), (0, 0, [true, true, true, false, true, false]), (0, 0, [true])], ⟨4, 1, [(0, ⟨[], .one (.leaf (.ref 0 36))⟩), (1, ⟨[], .one (.leaf (.at (.v 0) 3))⟩), (4, ⟨[], .one (.leaf (.fn 83 []))⟩), (10, ⟨[], .one (.leaf (.at (.v 1) 3))⟩), (11, ⟨[], .one (.leaf (.at (.v 2) 3))⟩)], [(0, .arr 54 36 (.v 3))]⟩⟩,
 ⟨[(0, 0, [false, false, true, false, true, true, true, false, true, false]), (2, 0, [false, false, true, false, true, true, true, false, true, false]), (1, 2, []), (0, 0, [true, true, true, true, false, true, false]), (0, 0, [true])], ⟨3, 1, [(0, ⟨[], .one (.leaf (.ref 0 36))⟩), (10, ⟨[], .one (.leaf (.at (.v 0) 3))⟩), (13, ⟨[], .one (.leaf (.at (.v 1) 3))⟩)], [(0, .arr 54 36 (.v 2))]⟩⟩,
 ⟨[(1, 5, []), (2, 0, [false, false, false, true, true, false, true, false, true]), (1, 4, []), (0, 0, [true, true, true, false, true, false, true]), (0, 0, [true, true])], ⟨4, 1, [(0, ⟨[], .one (.leaf (.ref 0 36))⟩), (2, ⟨[], .one (.leaf (.at (.v 0) 3))⟩), (4, ⟨[], .one (.leaf (.fn 83 []))⟩), (14, ⟨[], .one (.leaf (.at (.v 1) 3))⟩), (15, ⟨[], .one (.leaf (.at (.v 2) 3))⟩)], [(0, .arr 54 36 (.v 3))]⟩⟩,
 ⟨[(0, 0, [false, false, true, false, true, true, true, false, true, false, true]), (2, 0, [false, false, true, false, true, true, true, false, true, false, true]), (1, 6, []), (0, 0, [true, true, true, true, false, true, false, true]), (0, 0, [true, true])], ⟨3, 1, [(0, ⟨[], .one (.leaf (.ref 0 36))⟩), (14, ⟨[], .one (.leaf (.at (.v 0) 3))⟩), (17, ⟨[], .one (.leaf (.at (.v 1) 3))⟩)], [(0, .arr 54 36 (.v 2))]⟩⟩,
 ⟨[(0, 0, [false, false, false, true, true, true, true, true, true, true]), (2, 0, [false, false, false, true, true, true, true, true, true, true]), (1, 8, []), (0, 0, [true, true, true, true, true, true, true, true])], ⟨9, 1, [(0, ⟨[], .one (.leaf (.ref 0 36))⟩), (1, ⟨[], .one (.leaf (.at (.v 0) 3))⟩), (2, ⟨[], .one (.leaf (.at (.v 1) 3))⟩), (3, ⟨[], .one (.leaf (.at (.v 2) 3))⟩), (4, ⟨[], .one (.leaf (.fn 83 []))⟩), (18, ⟨[], .one (.leaf (.at (.v 3) 3))⟩), (19, ⟨[], .one (.leaf (.at (.v 4) 3))⟩), (20, ⟨[], .one (.leaf (.at (.v 5) 3))⟩), (21, ⟨[], .one (.leaf (.at (.v 6) 3))⟩), (22, ⟨[], .one (.leaf (.at (.v 7) 3))⟩)], [(0, .arr 54 36 (.v 8))]⟩⟩,
 ⟨[(1, 9, []), (2, 0, [false, false, false, true, true, true, true, true, true, true]), (1, 8, []), (0, 0, [true, true, true, true, true, true, true, true])], ⟨9, 1, [(0, ⟨[], .one (.leaf (.ref 0 36))⟩), (1, ⟨[], .one (.leaf (.at (.v 0) 3))⟩), (2, ⟨[], .one (.leaf (.at (.v 1) 3))⟩), (3, ⟨[], .one (.leaf (.at (.v 2) 3))⟩), (4, ⟨[], .one (.leaf (.fn 83 []))⟩), (18, ⟨[], .one (.leaf (.at (.v 3) 3))⟩), (19, ⟨[], .one (.leaf (.at (.v 4) 3))⟩), (20, ⟨[], .one (.leaf (.at (.v 5) 3))⟩), (21, ⟨[], .one (.leaf (.at (.v 6) 3))⟩), (22, ⟨[], .one (.leaf (.at (.v 7) 3))⟩)], [(0, .arr 54 36 (.v 8))]⟩⟩,
 ⟨[(0, 0, [true, true, true, true, true, true, true, true, true, true])], ⟨6, 1, [(0, ⟨[], .one (.leaf (.ref 0 36))⟩), (1, ⟨[], .one (.leaf (.at (.v 0) 3))⟩), (3, ⟨[], .one (.leaf (.at (.v 1) 3))⟩), (4, ⟨[], .one (.leaf (.fn 83 []))⟩), (18, ⟨[], .one (.leaf (.at (.v 2) 3))⟩), (20, ⟨[], .one (.leaf (.at (.v 3) 3))⟩), (24, ⟨[], .one (.leaf (.at (.v 4) 3))⟩)], [(0, .arr 54 36 (.v 5))]⟩⟩,
 ⟨[(0, 0, [true, true, true, true, true, true, true, true, true, true, true])], ⟨4, 1, [(0, ⟨[], .one (.leaf (.ref 0 36))⟩), (3, ⟨[], .one (.leaf (.at (.v 0) 3))⟩), (4, ⟨[], .one (.leaf (.fn 83 []))⟩), (18, ⟨[], .one (.leaf (.at (.v 1) 3))⟩), (24, ⟨[], .one (.leaf (.at (.v 2) 3))⟩)], [(0, .arr 54 36 (.v 3))]⟩⟩]
def b167 : List Blk := [
 ⟨[(0, 0, [false, false, false, true, true]), (2, 0, [false, false, false, true, true]), (1, 0, []), (0, 0, [true, true, true])], ⟨4, 1, [(0, ⟨[], .one (.leaf (.ref 0 36))⟩), (2, ⟨[], .one (.leaf (.at (.v 0) 3))⟩), (4, ⟨[], .one (.leaf (.fn 83 []))⟩), (10, ⟨[], .one (.leaf (.at (.v 1) 3))⟩), (11, ⟨[], .one (.leaf (.at (.v 2) 3))⟩)], [(0, .arr 54 36 (.v 3))]⟩⟩,
 ⟨[(1, 1, []), (2, 0, [false, false, false, true, true]), (1, 0, []), (0, 0, [true, true, true])], ⟨4, 1, [(0, ⟨[], .one (.leaf (.ref 0 36))⟩), (2, ⟨[], .one (.leaf (.at (.v 0) 3))⟩), (4, ⟨[], .one (.leaf (.fn 83 []))⟩), (10, ⟨[], .one (.leaf (.at (.v 1) 3))⟩), (11, ⟨[], .one (.leaf (.at (.v 2) 3))⟩)], [(0, .arr 54 36 (.v 3))]⟩⟩]
def b168 : List Blk := [
 ⟨[(0, 0, [false, false, true]), (2, 0, [false, false, true]), (1, 0, [])], ⟨5, 1, [(0, ⟨[], .one (.leaf (.ref 0 36))⟩), (1, ⟨[], .one (.leaf (.at (.v 0) 3))⟩), (2, ⟨[], .one (.leaf (.at (.v 1) 3))⟩), (3, ⟨[], .one (.leaf (.at (.v 2) 3))⟩), (10, ⟨[], .one (.leaf (.at (.v 3) 3))⟩)], [(0, .arr 54 36 (.v 4))]⟩⟩]
def b169 : List Blk := [
 ⟨[(0, 0, [false, false, true, false, true, true, true]), (2, 0, [false, false, true, false, true, true, true]), (1, 0, []), (0, 0, [true, true, true, true])], ⟨2, 1, [(7, ⟨[], .one (.leaf (.ref 0 36))⟩), (8, ⟨[], .one (.leaf (.at (.v 0) 3))⟩)], [(0, .arr 54 36 (.v 1))]⟩⟩,
 ⟨[(0, 0, [false, false, true, false, false, true, false, false, true, false, true, true, true]), (2, 0, [false, false, true, false, false, true, false, false, true, false, true, true, true]), (1, 2, []), (1, 1, []), (0, 0, [true, true, false, false, true, false, true, true, true]), (2, 0, [false, false, true, false, true, true, true]), (1, 0, []), (0, 0, [true, true, true, true])], ⟨3, 1, [(7, ⟨[], .one (.leaf (.ref 0 36))⟩), (8, ⟨[], .one (.leaf (.at (.v 0) 3))⟩), (9, ⟨[], .one (.leaf (.at (.v 1) 3))⟩)], [(0, .arr 54 36 (.v 2))]⟩⟩]
def b170 : List Blk := [
 ⟨[(0, 0, [false, false, true, false, false, true, false, true, true, true]), (2, 0, [false, false, true, false, false, true, false, true, true, true]), (1, 0, []), (0, 0, [true, false, true, false, true, true, true]), (0, 0, [true, true, true, true])], ⟨6, 4, [(3, ⟨[], .one (.leaf (.at (.v 0) 39))⟩), (4, ⟨[], .one (.leaf (.ptr (.p 0 0)))⟩), (5, ⟨[], .one (.leaf (.ptr (.p 1 0)))⟩), (6, ⟨[], .one (.leaf (.ptr (.p 2 0)))⟩), (9, ⟨[], .one (.leaf (.ref 3 36))⟩), (10, ⟨[], .one (.leaf (.at (.v 1) 3))⟩)], [(0, .box 26 (.leaf (.at (.v 2) 26))), (1, .box 33 (.leaf (.at (.v 3) 33))), (2, .box 33 (.leaf (.at (.v 4) 33))), (3, .arr 54 36 (.v 5))]⟩⟩,
 ⟨[(0, 0, [false, false, true, false, true, true, true, true, true]), (2, 0, [false, false, true, false, true, true, true, true, true]), (1, 2, []), (0, 0, [true, true, true, true, true, true])], ⟨6, 4, [(3, ⟨[], .one (.leaf (.at (.v 0) 39))⟩), (4, ⟨[], .one (.leaf (.ptr (.p 0 0)))⟩), (5, ⟨[], .one (.leaf (.ptr (.p 1 0)))⟩), (6, ⟨[], .one (.leaf (.ptr (.p 2 0)))⟩), (9, ⟨[], .one (.leaf (.ref 3 36))⟩), (17, ⟨[], .one (.leaf (.at (.v 1) 3))⟩)], [(0, .box 26 (.leaf (.at (.v 2) 26))), (1, .box 33 (.leaf (.at (.v 3) 33))), (2, .box 33 (.leaf (.at (.v 4) 33))), (3, .arr 54 36 (.v 5))]⟩⟩,
 ⟨[(1, 1, []), (0, 0, [true, true, false, false, true, false, false, true, false, true, true, true]), (2, 0, [false, false, true, false, false, true, false, true, true, true]), (1, 0, []), (0, 0, [true, false, true, false, true, true, true]), (0, 0, [true, true, true, true])], ⟨6, 4, [(3, ⟨[], .one (.leaf (.at (.v 0) 39))⟩), (4, ⟨[], .one (.leaf (.ptr (.p 0 0)))⟩), (5, ⟨[], .one (.leaf (.ptr (.p 1 0)))⟩), (6, ⟨[], .one (.leaf (.ptr (.p 2 0)))⟩), (9, ⟨[], .one (.leaf (.ref 3 36))⟩), (10, ⟨[], .one (.leaf (.at (.v 1) 3))⟩)], [(0, .box 26 (.leaf (.at (.v 2) 26))), (1, .box 33 (.leaf (.at (.v 3) 33))), (2, .box 33 (.leaf (.at (.v 4) 33))), (3, .arr 54 36 (.v 5))]⟩⟩,
 ⟨[(0, 0, [true, true, true, true, true, true, false, false, true, false, false, true, false, true, true, true, true, true]), (1, 3, []), (0, 0, [true, true, false, false, true, false, true, true, true, true, true]), (2, 0, [false, false, true, false, true, true, true, true, true]), (1, 2, []), (0, 0, [true, true, true, true, true, true])], ⟨21, 12, [(3, ⟨[], .one (.leaf (.at (.v 0) 39))⟩), (4, ⟨[], .one (.leaf (.ptr (.p 0 0)))⟩), (5, ⟨[], .one (.leaf (.ptr (.p 1 0)))⟩), (6, ⟨[], .one (.leaf (.ptr (.p 2 0)))⟩), (9, ⟨[], .one (.leaf (.ref 3 36))⟩), (17, ⟨[], .one (.leaf (.at (.v 1) 3))⟩), (19, ⟨[], .one (.leaf (.ptr (.p 4 0)))⟩), (20, ⟨[], .one (.leaf (.at (.v 2) 4))⟩), (21, ⟨[], .one (.leaf (.ptr (.p 5 0)))⟩), (22, ⟨[], .one (.leaf (.at (.v 3) 4))⟩), (23, ⟨[], .one (.leaf (.ptr (.p 6 0)))⟩), (24, ⟨[], .one (.leaf (.at (.v 4) 4))⟩), (25, ⟨[], .one (.leaf (.ref 7 39))⟩)], [(0, .box 26 (.leaf (.at (.v 5) 26))), (1, .box 33 (.leaf (.at (.v 6) 33))), (2, .box 33 (.leaf (.at (.v 7) 33))), (3, .arr 54 36 (.v 8)), (4, .box 33 (.agg 33 [.at (.v 9) 3, .at (.v 10) 3, .at (.v 11) 9, .ref 8 30, .ref 9 31])), (5, .box 33 (.agg 33 [.at (.v 12) 3, .at (.v 13) 3, .at (.v 14) 9, .ref 10 30, .ref 11 31])), (6, .box 64 (.leaf (.at (.v 15) 64))), (7, .arr 74 39 (.v 16)), (8, .arr 33 30 (.v 17)), (9, .arr 70 31 (.v 18)), (10, .arr 33 30 (.v 19)), (11, .arr 70 31 (.v 20))]⟩⟩,
 ⟨[(0, 0, [true, true, false, false, true, false, true, true, true, true, true]), (2, 0, [false, false, true, false, true, true, true, true, true]), (1, 2, []), (0, 0, [true, true, true, true, true, true])], ⟨6, 4, [(3, ⟨[], .one (.leaf (.at (.v 0) 39))⟩), (4, ⟨[], .one (.leaf (.ptr (.p 0 0)))⟩), (5, ⟨[], .one (.leaf (.ptr (.p 1 0)))⟩), (6, ⟨[], .one (.leaf (.ptr (.p 2 0)))⟩), (9, ⟨[], .one (.leaf (.ref 3 36))⟩), (17, ⟨[], .one (.leaf (.at (.v 1) 3))⟩)], [(0, .box 26 (.leaf (.at (.v 2) 26))), (1, .box 33 (.leaf (.at (.v 3) 33))), (2, .box 33 (.leaf (.at (.v 4) 33))), (3, .arr 54 36 (.v 5))]⟩⟩,
 ⟨[(1, 3, []), (0, 0, [true, true, false, false, true, false, true, true, true, true, true]), (2, 0, [false, false, true, false, true, true, true, true, true]), (1, 2, []), (0, 0, [true, true, true, true, true, true])], ⟨6, 4, [(3, ⟨[], .one (.leaf (.at (.v 0) 39))⟩), (4, ⟨[], .one (.leaf (.ptr (.p 0 0)))⟩), (5, ⟨[], .one (.leaf (.ptr (.p 1 0)))⟩), (6, ⟨[], .one (.leaf (.ptr (.p 2 0)))⟩), (9, ⟨[], .one (.leaf (.ref 3 36))⟩), (17, ⟨[], .one (.leaf (.at (.v 1) 3))⟩)], [(0, .box 26 (.leaf (.at (.v 2) 26))), (1, .box 33 (.leaf (.at (.v 3) 33))), (2, .box 33 (.leaf (.at (.v 4) 33))), (3, .arr 54 36 (.v 5))]⟩⟩]
def b171 : List Blk := [
 ⟨[(0, 0, [false, false, true, false, true]), (2, 0, [false, false, true, false, true]), (1, 0, []), (0, 0, [true, true])], ⟨7, 1, [(0, ⟨[], .one (.leaf (.at (.v 0) 30))⟩), (1, ⟨[], .one (.leaf (.at (.v 1) 9))⟩), (2, ⟨[], .one (.leaf (.at (.v 2) 9))⟩), (6, ⟨[], .one (.leaf (.ptr (.p 0 0)))⟩), (8, ⟨[], .one (.leaf (.at (.v 3) 3))⟩)], [(0, .box 33 (.agg 33 [.at (.v 4) 3, .at (.v 5) 3, .at (.v 6) 9, .nil 30, .nil 31]))]⟩⟩]
def b172 : List Blk := [
 ⟨[(0, 0, [false, false, true, false, true, true, true, true]), (2, 0, [false, false, true, false, true, true, true, true]), (1, 0, []), (0, 0, [true, true, true, true, true])], ⟨4, 3, [(4, ⟨[], .one (.leaf (.ptr (.p 0 0)))⟩), (5, ⟨[], .one (.leaf (.ptr (.p 1 0)))⟩), (7, ⟨[], .one (.leaf (.ref 2 36))⟩), (8, ⟨[], .one (.leaf (.at (.v 0) 3))⟩)], [(0, .box 33 (.leaf (.at (.v 1) 33))), (1, .box 33 (.leaf (.at (.v 2) 33))), (2, .arr 54 36 (.v 3))]⟩⟩]
def b173 : List Blk := [
 ⟨[(0, 0, [false, false, false, true, true, true, true]), (2, 0, [false, false, false, true, true, true, true]), (1, 0, []), (0, 0, [true, true, true, true, true])], ⟨3, 1, [(0, ⟨[], .one (.leaf (.at (.v 0) 9))⟩), (4, ⟨[], .one (.leaf (.ref 0 39))⟩), (5, ⟨[], .one (.leaf (.at (.v 1) 3))⟩)], [(0, .arr 74 39 (.v 2))]⟩⟩]
def b174 : List Blk := [
 ⟨[(0, 0, [true, true, true])], ⟨8, 1, [(0, ⟨[], .one (.leaf (.at (.v 0) 9))⟩), (1, ⟨[], .one (.leaf (.at (.v 1) 3))⟩), (4, ⟨[], .one (.leaf (.ptr (.p 0 0)))⟩)], [(0, .box 96 (.agg 96 [.at (.v 2) 3, .at (.v 3) 9, .at (.v 4) 3, .at (.v 5) 9, .at (.v 6) 3, .at (.v 7) 4]))]⟩⟩]
def b176 : List Blk := [
 ⟨[(0, 0, [false, false, false, true]), (2, 0, [false, false, false, true]), (1, 0, []), (0, 0, [true, true])], ⟨2, 0, [(0, ⟨[], .one (.leaf (.at (.v 0) 9))⟩), (1, ⟨[], .one (.leaf (.at (.v 1) 3))⟩)], []⟩⟩]
def b177 : List Blk := [
 ⟨[(0, 0, [false, false, true, false, true, true]), (2, 0, [false, false, true, false, true, true]), (1, 0, []), (0, 0, [true, true, true])], ⟨3, 0, [(0, ⟨[], .one (.leaf (.at (.v 0) 9))⟩), (3, ⟨[], .one (.leaf (.at (.v 1) 3))⟩), (4, ⟨[], .one (.leaf (.at (.v 2) 3))⟩)], []⟩⟩]
def b178 : List Blk := [
 ⟨[(0, 0, [false, false, true, false, true]), (2, 0, [false, false, true, false, true]), (1, 0, []), (0, 0, [true, true])], ⟨2, 0, [(0, ⟨[], .one (.leaf (.at (.v 0) 9))⟩), (3, ⟨[], .one (.leaf (.at (.v 1) 3))⟩)], []⟩⟩]
def b179 : List Blk := [
 ⟨[(0, 0, [false, false, false, true, true, true, true]), (2, 0, [false, false, false, true, true, true, true]), (1, 0, []), (0, 0, [true, true, true, true, true])], ⟨3, 0, [(0, ⟨[], .one (.leaf (.at (.v 0) 9))⟩), (1, ⟨[], .one (.leaf (.at (.v 1) 3))⟩), (7, ⟨[], .one (.leaf (.at (.v 2) 9))⟩)], []⟩⟩,
 ⟨[(2, 0, [false, false, false, true, true, true, true]), (1, 0, []), (0, 0, [true, true, true, true, true])], ⟨3, 0, [(0, ⟨[], .one (.leaf (.at (.v 0) 9))⟩), (1, ⟨[], .one (.leaf (.at (.v 1) 3))⟩), (7, ⟨[], .one (.leaf (.at (.v 2) 9))⟩)], []⟩⟩,
 ⟨[(0, 0, [true, true, true, true, false, true, false, false, false, true, true, true, true]), (1, 1, []), (2, 0, [false, false, false, true, true, true, true]), (1, 0, []), (0, 0, [true, true, true, true, true])], ⟨3, 0, [(0, ⟨[], .one (.leaf (.at (.v 0) 9))⟩), (1, ⟨[], .one (.leaf (.at (.v 1) 3))⟩), (7, ⟨[], .one (.leaf (.at (.v 2) 9))⟩)], []⟩⟩]
def blks (i : Nat) : List Blk :=
 match i with
 | 1 => b1
 | 3 => b3
 | 6 => b6
 | 7 => b7
 | 8 => b8
 | 13 => b13
 | 16 => b16
 | 17 => b17
 | 18 => b18
 | 19 => b19
 | 20 => b20
 | 23 => b23
 | 27 => b27
 | 29 => b29
 | 30 => b30
 | 33 => b33
 | 34 => b34
 | 39 => b39
 | 40 => b40
 | 41 => b41
 | 42 => b42
 | 45 => b45
 | 47 => b47
 | 50 => b50
 | 53 => b53
 | 59 => b59
 | 65 => b65
 | 66 => b66
 | 69 => b69
 | 74 => b74
 | 80 => b80
 | 81 => b81
 | 83 => b83
 | 88 => b88
 | 92 => b92
 | 93 => b93
 | 94 => b94
 | 95 => b95
 | 96 => b96
 | 97 => b97
 | 99 => b99
 | 100 => b100
 | 101 => b101
 | 102 => b102
 | 104 => b104
 | 105 => b105
 | 107 => b107
 | 109 => b109
 | 111 => b111
 | 112 => b112
 | 115 => b115
 | 117 => b117
 | 123 => b123
 | 124 => b124
 | 126 => b126
 | 129 => b129
 | 130 => b130
 | 131 => b131
 | 135 => b135
 | 138 => b138
 | 140 => b140
 | 143 => b143
 | 144 => b144
 | 146 => b146
 | 147 => b147
 | 148 => b148
 | 151 => b151
 | 156 => b156
 | 157 => b157
 | 159 => b159
 | 160 => b160
 | 163 => b163
 | 164 => b164
 | 166 => b166
 | 167 => b167
 | 168 => b168
 | 169 => b169
 | 170 => b170
 | 171 => b171
 | 172 => b172
 | 173 => b173
 | 174 => b174
 | 176 => b176
 | 177 => b177
 | 178 => b178
 | 179 => b179
 | _ => []
def pr (i : Nat) : Option (List IV → Option (List IV)) :=
 match i with
 | 31 => some O.cloneF
 | 38 => some O.compareF
 | 43 => some O.cloneF
 | 56 => some O.copyCheckF
 | 57 => some O.itoaF
 | 60 => some O.stringF
 | 63 => some O.noneF
 | 71 => some O.cloneF
 | 72 => some O.clipF
 | 84 => some O.cloneF
 | 85 => some O.cloneF
 | 86 => some O.cloneF
 | _ => none
noncomputable def W (f b : Nat) (xs : List IV) : Option (List IV) := V (tab Tryz.prog specs blks 3000) pr ⟨f, b⟩ xs
theorem e_F1_0 (x0 x1 : IV) : W F1 0 [x0, x1] =
(O.le x1 (.int 0)).bind fun x2 =>
(cnd x2 (some (.bool true)) (
(O.proj 3 x0).bind fun x3 =>
(O.len x3).bind fun x4 =>
(O.gt x4 (.int 100)).bind fun x5 =>
some x5)).bind fun x3 =>
(cnd x3 (some (.bool true)) (
(O.proj 4 x0).bind fun x4 =>
(O.slen x4).bind fun x5 =>
(O.gt x5 (.int 200)).bind fun x6 =>
some x6)).bind fun x4 =>
cnd x4 (
some [(.int (-1))]) (
(O.sub .i64 x1 (.int 1)).bind fun x5 =>
W F1 1 [x5, (.int 0), x0]) := V_is rfl (by kernel_rfl)
theorem e_F1_1 (x0 x1 x2 : IV) : W F1 1 [x0, x1, x2] =
(O.proj 5 x2).bind fun x3 =>
(O.len x3).bind fun x4 =>
(O.lt x1 x4).bind fun x5 =>
(cnd x5 (
(O.ge x0 (.int 0)).bind fun x6 =>
some x6) (some (.bool false))).bind fun x6 =>
cnd x6 (
(O.index x3 x1).bind fun x7 =>
calls (W F1 0 [x7, x0]) 1 fun x8 =>
(O.add .i64 x1 (.int 1)).bind fun x9 =>
W F1 1 [x8, x9, x2]) (
W F1 2 [x0, (.int 0), x2]) := V_is rfl (by kernel_rfl)
theorem e_F1_2 (x0 x1 x2 : IV) : W F1 2 [x0, x1, x2] =
(O.proj 6 x2).bind fun x3 =>
(O.len x3).bind fun x4 =>
(O.lt x1 x4).bind fun x5 =>
(cnd x5 (
(O.ge x0 (.int 0)).bind fun x6 =>
some x6) (some (.bool false))).bind fun x6 =>
cnd x6 (
(O.index x3 x1).bind fun x7 =>
(O.proj 0 x7).bind fun x8 =>
(O.slen x8).bind fun x9 =>
(O.gt x9 (.int 200)).bind fun x10 =>
(cnd x10 (some (.bool true)) (
(O.proj 3 x7).bind fun x11 =>
(O.len x11).bind fun x12 =>
(O.gt x12 (.int 3)).bind fun x13 =>
some x13)).bind fun x11 =>
cnd x11 (
some [(.int (-1))]) (
W F1 3 [x0, x1, (.int 0), x2])) (
some [x0]) := V_is rfl (by kernel_rfl)
theorem e_F1_3 (x0 x1 x2 x3 : IV) : W F1 3 [x0, x1, x2, x3] =
(O.proj 6 x3).bind fun x4 =>
(O.index x4 x1).bind fun x5 =>
(O.proj 3 x5).bind fun x6 =>
(O.len x6).bind fun x7 =>
(O.lt x2 x7).bind fun x8 =>
cnd x8 (
(O.index x6 x2).bind fun x9 =>
calls (W F2 0 [x9, (.int 50)]) 1 fun x10 =>
(O.not x10).bind fun x11 =>
cnd x11 (
some [(.int (-1))]) (
(O.add .i64 x2 (.int 1)).bind fun x12 =>
W F1 3 [x0, x1, x12, x3])) (
(O.projs 4 7 x5).bind fun x9 =>
calls (W F1 0 [x9, x0]) 1 fun x10 =>
(O.add .i64 x1 (.int 1)).bind fun x11 =>
W F1 2 [x10, x11, x3]) := V_is rfl (by kernel_rfl)
theorem e_F2_0 (x0 x1 : IV) : W F2 0 [x0, x1] =
calls (W F3 0 [x0, x1, x1]) 1 fun x2 =>
(O.ge x2 (.int 0)).bind fun x3 =>
some [x3] := V_is rfl (by kernel_rfl)
theorem e_F3_0 (x0 x1 x2 : IV) : W F3 0 [x0, x1, x2] =
(O.le x1 (.int 0)).bind fun x3 =>
(cnd x3 (some (.bool true)) (
(O.le x2 (.int 0)).bind fun x4 =>
some x4)).bind fun x4 =>
(cnd x4 (some (.bool true)) (
(O.proj 2 x0).bind fun x5 =>
(O.slen x5).bind fun x6 =>
(O.gt x6 (.int 1000)).bind fun x7 =>
some x7)).bind fun x5 =>
cnd x5 (
some [(.int (-1))]) (
(O.sub .i64 x1 (.int 1)).bind fun x6 =>
W F3 1 [x6, x2, (.int 0), x0]) := V_is rfl (by kernel_rfl)
theorem e_F3_1 (x0 x1 x2 x3 : IV) : W F3 1 [x0, x1, x2, x3] =
(O.proj 3 x3).bind fun x4 =>
(O.len x4).bind fun x5 =>
(O.lt x2 x5).bind fun x6 =>
(cnd x6 (
(O.ge x0 (.int 0)).bind fun x7 =>
some x7) (some (.bool false))).bind fun x7 =>
cnd x7 (
(O.index x4 x2).bind fun x8 =>
(O.sub .i64 x1 (.int 1)).bind fun x9 =>
calls (W F3 0 [x8, x0, x9]) 1 fun x10 =>
(O.add .i64 x2 (.int 1)).bind fun x11 =>
W F3 1 [x10, x1, x11, x3]) (
W F3 2 [x0, x1, (.int 0), x3]) := V_is rfl (by kernel_rfl)
theorem e_F3_2 (x0 x1 x2 x3 : IV) : W F3 2 [x0, x1, x2, x3] =
(O.proj 4 x3).bind fun x4 =>
(O.len x4).bind fun x5 =>
(O.lt x2 x5).bind fun x6 =>
(cnd x6 (
(O.ge x0 (.int 0)).bind fun x7 =>
some x7) (some (.bool false))).bind fun x7 =>
cnd x7 (
(O.index x4 x2).bind fun x8 =>
(O.proj 0 x8).bind fun x9 =>
(O.slen x9).bind fun x10 =>
(O.gt x10 (.int 1000)).bind fun x11 =>
cnd x11 (
some [(.int (-1))]) (
(O.projs 1 5 x8).bind fun x12 =>
(O.sub .i64 x1 (.int 1)).bind fun x13 =>
calls (W F3 0 [x12, x0, x13]) 1 fun x14 =>
(O.add .i64 x2 (.int 1)).bind fun x15 =>
W F3 2 [x14, x1, x15, x3])) (
some [x0]) := V_is rfl (by kernel_rfl)
theorem e_F10_0 (x0 : IV) : W F10 0 [x0] =
calls (W F11 0 [x0, (.int 12)]) 1 fun x1 =>
some [x1] := V_is rfl (by kernel_rfl)
theorem e_F11_0 (x0 x1 : IV) : W F11 0 [x0, x1] =
(O.eq x1 (.int 0)).bind fun x2 =>
(cnd x2 (some (.bool true)) (
(O.proj 0 x0).bind fun x3 =>
(O.ne x3 (.int 3)).bind fun x4 =>
(cnd x4 (
(O.proj 3 x0).bind fun x5 =>
(O.len x5).bind fun x6 =>
(O.gt x6 (.int 0)).bind fun x7 =>
some x7) (some (.bool false))).bind fun x5 =>
some x5)).bind fun x3 =>
(cnd x3 (some (.bool true)) (
(O.proj 0 x0).bind fun x4 =>
(O.ne x4 (.int 4)).bind fun x5 =>
(cnd x5 (
(O.proj 4 x0).bind fun x6 =>
(O.sNe x6 (.str ⟨#[]⟩)).bind fun x7 =>
some x7) (some (.bool false))).bind fun x6 =>
some x6)).bind fun x4 =>
(cnd x4 (some (.bool true)) (
(O.proj 0 x0).bind fun x5 =>
(O.ne x5 (.int 5)).bind fun x6 =>
(cnd x6 (
(O.proj 6 x0).bind fun x7 =>
(O.len x7).bind fun x8 =>
(O.gt x8 (.int 0)).bind fun x9 =>
some x9) (some (.bool false))).bind fun x7 =>
some x7)).bind fun x5 =>
(cnd x5 (some (.bool true)) (
(O.proj 0 x0).bind fun x6 =>
(O.ne x6 (.int 5)).bind fun x7 =>
(cnd x7 (
(O.ne x6 (.int 4)).bind fun x8 =>
some x8) (some (.bool false))).bind fun x8 =>
(cnd x8 (
(O.proj 5 x0).bind fun x9 =>
(O.len x9).bind fun x10 =>
(O.gt x10 (.int 0)).bind fun x11 =>
some x11) (some (.bool false))).bind fun x9 =>
some x9)).bind fun x6 =>
cnd x6 (
some [(.bool false)]) (
(O.proj 0 x0).bind fun x7 =>
(O.eq x7 (.int 1)).bind fun x8 =>
cnd x8 (
(O.proj 1 x0).bind fun x9 =>
(O.eq x9 (.int 0)).bind fun x10 =>
(cnd x10 (
(O.proj 2 x0).bind fun x11 =>
(O.eq x11 (.int 0)).bind fun x12 =>
some x12) (some (.bool false))).bind fun x11 =>
some [x11]) (
(O.eq x7 (.int 2)).bind fun x9 =>
cnd x9 (
(O.proj 1 x0).bind fun x10 =>
(O.le (.int (-1000000000000000)) x10).bind fun x11 =>
(cnd x11 (
(O.proj 2 x0).bind fun x12 =>
(O.le x10 x12).bind fun x13 =>
some x13) (some (.bool false))).bind fun x12 =>
(cnd x12 (
(O.proj 2 x0).bind fun x13 =>
(O.le x13 (.int 1000000000000000)).bind fun x14 =>
some x14) (some (.bool false))).bind fun x13 =>
some [x13]) (
(O.eq x7 (.int 3)).bind fun x10 =>
cnd x10 (
calls (W F12 0 [x0, (.int 200)]) 1 fun x11 =>
(cnd x11 (
calls (W F13 0 [x0]) 1 fun x12 =>
some x12) (some (.bool false))).bind fun x12 =>
some [x12]) (
(O.eq x7 (.int 4)).bind fun x11 =>
cnd x11 (
calls (W F12 0 [x0, (.int 64)]) 1 fun x12 =>
(cnd x12 (
(O.proj 5 x0).bind fun x13 =>
(O.len x13).bind fun x14 =>
(O.eq x14 (.int 1)).bind fun x15 =>
some x15) (some (.bool false))).bind fun x13 =>
(cnd x13 (
(O.proj 5 x0).bind fun x14 =>
(O.index x14 (.int 0)).bind fun x15 =>
(O.sub .i64 x1 (.int 1)).bind fun x16 =>
calls (W F11 0 [x15, x16]) 1 fun x17 =>
some x17) (some (.bool false))).bind fun x14 =>
(cnd x14 (
calls (W F21 0 [x0]) 1 fun x15 =>
some x15) (some (.bool false))).bind fun x15 =>
some [x15]) (
(O.eq x7 (.int 5)).bind fun x12 =>
cnd x12 (
(O.proj 1 x0).bind fun x13 =>
(O.ne x13 (.int 0)).bind fun x14 =>
(cnd x14 (some (.bool true)) (
(O.proj 2 x0).bind fun x15 =>
(O.ne x15 (.int 0)).bind fun x16 =>
some x16)).bind fun x15 =>
(cnd x15 (some (.bool true)) (
(O.proj 5 x0).bind fun x16 =>
(O.len x16).bind fun x17 =>
(O.gt x17 (.int 1)).bind fun x18 =>
some x18)).bind fun x16 =>
(cnd x16 (some (.bool true)) (
(O.proj 5 x0).bind fun x17 =>
(O.len x17).bind fun x18 =>
(O.eq x18 (.int 1)).bind fun x19 =>
(cnd x19 (
(O.proj 6 x0).bind fun x20 =>
(O.len x20).bind fun x21 =>
(O.gt x21 (.int 0)).bind fun x22 =>
some x22) (some (.bool false))).bind fun x20 =>
some x20)).bind fun x17 =>
(cnd x17 (some (.bool true)) (
(O.proj 6 x0).bind fun x18 =>
(O.len x18).bind fun x19 =>
(O.gt x19 (.int 64)).bind fun x20 =>
some x20)).bind fun x18 =>
cnd x18 (
some [(.bool false)]) (
(O.proj 5 x0).bind fun x19 =>
calls (W F26 0 [x19, x1]) 1 fun x20 =>
(O.not x20).bind fun x21 =>
(cnd x21 (
(O.sub .i64 x1 (.int 1)).bind fun x22 =>
calls (W F29 0 [x0, x22]) 1 fun x23 =>
some x23) (some (.bool false))).bind fun x22 =>
some [x22])) (
some [(.bool false)])))))) := V_is rfl (by kernel_rfl)
theorem e_F12_0 (x0 x1 : IV) : W F12 0 [x0, x1] =
(O.proj 1 x0).bind fun x2 =>
(O.le (.int 0) x2).bind fun x3 =>
(cnd x3 (
(O.proj 2 x0).bind fun x4 =>
(O.le x2 x4).bind fun x5 =>
some x5) (some (.bool false))).bind fun x4 =>
(cnd x4 (
(O.proj 2 x0).bind fun x5 =>
(O.le x5 x1).bind fun x6 =>
some x6) (some (.bool false))).bind fun x5 =>
some [x5] := V_is rfl (by kernel_rfl)
theorem e_F13_0 (x0 : IV) : W F13 0 [x0] =
(O.proj 3 x0).bind fun x1 =>
(O.len x1).bind fun x2 =>
W F13 1 [x1, x2, (.int 0), x0] := V_is rfl (by kernel_rfl)
theorem e_F13_1 (x0 x1 x2 x3 : IV) : W F13 1 [x0, x1, x2, x3] =
(O.lt x2 x1).bind fun x4 =>
cnd x4 (
(O.index x0 x2).bind fun x5 =>
(O.slen x5).bind fun x6 =>
(O.proj 1 x3).bind fun x7 =>
(O.lt x6 x7).bind fun x8 =>
(cnd x8 (some (.bool true)) (
(O.proj 2 x3).bind fun x9 =>
(O.gt x6 x9).bind fun x10 =>
some x10)).bind fun x9 =>
(cnd x9 (some (.bool true)) (
(O.gt x2 (.int 0)).bind fun x10 =>
(cnd x10 (
(O.proj 3 x3).bind fun x11 =>
(O.sub .i64 x2 (.int 1)).bind fun x12 =>
(O.index x11 x12).bind fun x13 =>
(O.sGe x13 x5).bind fun x14 =>
some x14) (some (.bool false))).bind fun x11 =>
some x11)).bind fun x10 =>
(cnd x10 (some (.bool true)) (
calls (W F14 0 [x5]) 5 fun x11 x12 x13 x14 x15 =>
(O.mkagg [x11, x12, x13, x14, x15]).bind fun x16 =>
calls (W F15 0 [x16]) 1 fun x17 =>
(O.not x17).bind fun x18 =>
some x18)).bind fun x11 =>
cnd x11 (
some [(.bool false)]) (
(O.add .i64 x2 (.int 1)).bind fun x12 =>
W F13 1 [x0, x1, x12, x3])) (
(O.proj 3 x3).bind fun x5 =>
(O.len x5).bind fun x6 =>
(O.le x6 (.int 64)).bind fun x7 =>
some [x7]) := V_is rfl (by kernel_rfl)
theorem e_F14_0 (x0 : IV) : W F14 0 [x0] =
some [(.int 3), (.int 0), x0, (.list []), (.list [])] := V_is rfl (by kernel_rfl)
theorem e_F15_0 (x0 : IV) : W F15 0 [x0] =
calls (W F16 0 [x0, (.int 12)]) 1 fun x1 =>
(cnd x1 (
calls (W F20 0 [x0]) 1 fun x2 =>
(O.le x2 (.int 600)).bind fun x3 =>
some x3) (some (.bool false))).bind fun x2 =>
some [x2] := V_is rfl (by kernel_rfl)
theorem e_F16_0 (x0 x1 : IV) : W F16 0 [x0, x1] =
(O.eq x1 (.int 0)).bind fun x2 =>
(cnd x2 (some (.bool true)) (
calls (W F17 0 [x0]) 1 fun x3 =>
(O.not x3).bind fun x4 =>
some x4)).bind fun x3 =>
(cnd x3 (some (.bool true)) (
(O.proj 0 x0).bind fun x4 =>
(O.ne x4 (.int 4)).bind fun x5 =>
(cnd x5 (
(O.proj 3 x0).bind fun x6 =>
(O.len x6).bind fun x7 =>
(O.gt x7 (.int 0)).bind fun x8 =>
some x8) (some (.bool false))).bind fun x6 =>
some x6)).bind fun x4 =>
(cnd x4 (some (.bool true)) (
(O.proj 0 x0).bind fun x5 =>
(O.ne x5 (.int 5)).bind fun x6 =>
(cnd x6 (
(O.proj 4 x0).bind fun x7 =>
(O.len x7).bind fun x8 =>
(O.gt x8 (.int 0)).bind fun x9 =>
some x9) (some (.bool false))).bind fun x7 =>
some x7)).bind fun x5 =>
(cnd x5 (some (.bool true)) (
(O.proj 3 x0).bind fun x6 =>
(O.len x6).bind fun x7 =>
(O.gt x7 (.int 64)).bind fun x8 =>
some x8)).bind fun x6 =>
(cnd x6 (some (.bool true)) (
(O.proj 4 x0).bind fun x7 =>
(O.len x7).bind fun x8 =>
(O.gt x8 (.int 64)).bind fun x9 =>
some x9)).bind fun x7 =>
cnd x7 (
some [(.bool false)]) (
(O.proj 3 x0).bind fun x8 =>
(O.len x8).bind fun x9 =>
W F16 1 [x1, x8, x9, (.int 0), x0]) := V_is rfl (by kernel_rfl)
theorem e_F16_1 (x0 x1 x2 x3 x4 : IV) : W F16 1 [x0, x1, x2, x3, x4] =
(O.lt x3 x2).bind fun x5 =>
cnd x5 (
(O.index x1 x3).bind fun x6 =>
(O.sub .i64 x0 (.int 1)).bind fun x7 =>
calls (W F16 0 [x6, x7]) 1 fun x8 =>
(O.not x8).bind fun x9 =>
cnd x9 (
some [(.bool false)]) (
(O.add .i64 x3 (.int 1)).bind fun x10 =>
W F16 1 [x0, x1, x2, x10, x4])) (
(O.proj 4 x4).bind fun x6 =>
(O.len x6).bind fun x7 =>
W F16 2 [x0, x6, x7, (.int 0), x4]) := V_is rfl (by kernel_rfl)
theorem e_F16_2 (x0 x1 x2 x3 x4 : IV) : W F16 2 [x0, x1, x2, x3, x4] =
(O.lt x3 x2).bind fun x5 =>
cnd x5 (
(O.index x1 x3).bind fun x6 =>
(O.proj 0 x6).bind fun x7 =>
calls (W F19 0 [x7]) 1 fun x8 =>
(O.not x8).bind fun x9 =>
(cnd x9 (some (.bool true)) (
(O.gt x3 (.int 0)).bind fun x10 =>
(cnd x10 (
(O.proj 4 x4).bind fun x11 =>
(O.sub .i64 x3 (.int 1)).bind fun x12 =>
(O.index x11 x12).bind fun x13 =>
(O.proj 0 x13).bind fun x14 =>
(O.sGe x14 x7).bind fun x15 =>
some x15) (some (.bool false))).bind fun x11 =>
some x11)).bind fun x10 =>
(cnd x10 (some (.bool true)) (
(O.projs 1 5 x6).bind fun x11 =>
(O.sub .i64 x0 (.int 1)).bind fun x12 =>
calls (W F16 0 [x11, x12]) 1 fun x13 =>
(O.not x13).bind fun x14 =>
some x14)).bind fun x11 =>
cnd x11 (
some [(.bool false)]) (
(O.add .i64 x3 (.int 1)).bind fun x12 =>
W F16 2 [x0, x1, x2, x12, x4])) (
some [(.bool true)]) := V_is rfl (by kernel_rfl)
theorem e_F17_0 (x0 : IV) : W F17 0 [x0] =
(O.proj 0 x0).bind fun x1 =>
(O.eq x1 (.int 1)).bind fun x2 =>
cnd x2 (
(O.proj 2 x0).bind fun x3 =>
(O.sEq x3 (.str ⟨#[]⟩)).bind fun x4 =>
(cnd x4 (
(O.proj 1 x0).bind fun x5 =>
(O.eq x5 (.int 0)).bind fun x6 =>
(cnd x6 (some (.bool true)) (
(O.eq x5 (.int 1)).bind fun x7 =>
some x7)).bind fun x7 =>
some x7) (some (.bool false))).bind fun x5 =>
some [x5]) (
(O.eq x1 (.int 2)).bind fun x3 =>
cnd x3 (
(O.proj 2 x0).bind fun x4 =>
(O.sEq x4 (.str ⟨#[]⟩)).bind fun x5 =>
(cnd x5 (
(O.proj 1 x0).bind fun x6 =>
(O.ge x6 (.int (-1000000000000000))).bind fun x7 =>
some x7) (some (.bool false))).bind fun x6 =>
(cnd x6 (
(O.proj 1 x0).bind fun x7 =>
(O.le x7 (.int 1000000000000000)).bind fun x8 =>
some x8) (some (.bool false))).bind fun x7 =>
some [x7]) (
(O.eq x1 (.int 3)).bind fun x4 =>
cnd x4 (
(O.proj 1 x0).bind fun x5 =>
(O.eq x5 (.int 0)).bind fun x6 =>
(cnd x6 (
(O.proj 2 x0).bind fun x7 =>
calls (W F18 0 [x7]) 1 fun x8 =>
some x8) (some (.bool false))).bind fun x7 =>
some [x7]) (
(O.eq x1 (.int 0)).bind fun x5 =>
cnd x5 (
W F17 1 [x5, x0]) (
(O.eq x1 (.int 4)).bind fun x6 =>
cnd x6 (
W F17 1 [x6, x0]) (
(O.eq x1 (.int 5)).bind fun x7 =>
W F17 1 [x7, x0]))))) := V_is rfl (by kernel_rfl)
theorem e_F17_1 (x0 x1 : IV) : W F17 1 [x0, x1] =
cnd x0 (
(O.proj 1 x1).bind fun x2 =>
(O.eq x2 (.int 0)).bind fun x3 =>
(cnd x3 (
(O.proj 2 x1).bind fun x4 =>
(O.sEq x4 (.str ⟨#[]⟩)).bind fun x5 =>
some x5) (some (.bool false))).bind fun x4 =>
some [x4]) (
some [(.bool false)]) := V_is rfl (by kernel_rfl)
theorem e_F18_0 (x0 : IV) : W F18 0 [x0] =
(O.slen x0).bind fun x1 =>
W F18 1 [x0, x1, (.int 0)] := V_is rfl (by kernel_rfl)
theorem e_F18_1 (x0 x1 x2 : IV) : W F18 1 [x0, x1, x2] =
(O.lt x2 x1).bind fun x3 =>
cnd x3 (
(O.sindex x0 x2).bind fun x4 =>
(O.ne x4 (.int 10)).bind fun x5 =>
(cnd x5 (
(O.lt x4 (.int 32)).bind fun x6 =>
(cnd x6 (some (.bool true)) (
(O.gt x4 (.int 126)).bind fun x7 =>
some x7)).bind fun x7 =>
some x7) (some (.bool false))).bind fun x6 =>
cnd x6 (
some [(.bool false)]) (
(O.add .i64 x2 (.int 1)).bind fun x7 =>
W F18 1 [x0, x1, x7])) (
(O.slen x0).bind fun x4 =>
(O.le x4 (.int 200)).bind fun x5 =>
some [x5]) := V_is rfl (by kernel_rfl)
theorem e_F19_0 (x0 : IV) : W F19 0 [x0] =
(O.slen x0).bind fun x1 =>
W F19 1 [x0, x1, (.int 0)] := V_is rfl (by kernel_rfl)
theorem e_F19_1 (x0 x1 x2 : IV) : W F19 1 [x0, x1, x2] =
(O.lt x2 x1).bind fun x3 =>
cnd x3 (
(O.sindex x0 x2).bind fun x4 =>
(O.ge x4 (.int 97)).bind fun x5 =>
(cnd x5 (
(O.le x4 (.int 122)).bind fun x6 =>
some x6) (some (.bool false))).bind fun x6 =>
(cnd x6 (some (.bool true)) (
(O.ge x4 (.int 65)).bind fun x7 =>
(cnd x7 (
(O.le x4 (.int 90)).bind fun x8 =>
some x8) (some (.bool false))).bind fun x8 =>
some x8)).bind fun x7 =>
(cnd x7 (some (.bool true)) (
(O.ge x4 (.int 48)).bind fun x8 =>
(cnd x8 (
(O.le x4 (.int 57)).bind fun x9 =>
some x9) (some (.bool false))).bind fun x9 =>
some x9)).bind fun x8 =>
(cnd x8 (some (.bool true)) (
(O.eq x4 (.int 45)).bind fun x9 =>
some x9)).bind fun x9 =>
(cnd x9 (some (.bool true)) (
(O.eq x4 (.int 95)).bind fun x10 =>
some x10)).bind fun x10 =>
(cnd x10 (some (.bool true)) (
(O.eq x4 (.int 47)).bind fun x11 =>
some x11)).bind fun x11 =>
(O.not x11).bind fun x12 =>
cnd x12 (
some [(.bool false)]) (
(O.add .i64 x2 (.int 1)).bind fun x13 =>
W F19 1 [x0, x1, x13])) (
(O.slen x0).bind fun x4 =>
(O.ge x4 (.int 1)).bind fun x5 =>
(cnd x5 (
(O.le x4 (.int 40)).bind fun x6 =>
some x6) (some (.bool false))).bind fun x6 =>
some [x6]) := V_is rfl (by kernel_rfl)
theorem e_F20_0 (x0 : IV) : W F20 0 [x0] =
(O.proj 3 x0).bind fun x1 =>
(O.len x1).bind fun x2 =>
W F20 1 [(.int 1), x1, x2, (.int 0), x0] := V_is rfl (by kernel_rfl)
theorem e_F20_1 (x0 x1 x2 x3 x4 : IV) : W F20 1 [x0, x1, x2, x3, x4] =
(O.lt x3 x2).bind fun x5 =>
cnd x5 (
(O.index x1 x3).bind fun x6 =>
calls (W F20 0 [x6]) 1 fun x7 =>
(O.add .i64 x0 x7).bind fun x8 =>
(O.add .i64 x3 (.int 1)).bind fun x9 =>
W F20 1 [x8, x1, x2, x9, x4]) (
(O.proj 4 x4).bind fun x6 =>
(O.len x6).bind fun x7 =>
W F20 2 [x0, x6, x7, (.int 0)]) := V_is rfl (by kernel_rfl)
theorem e_F20_2 (x0 x1 x2 x3 : IV) : W F20 2 [x0, x1, x2, x3] =
(O.lt x3 x2).bind fun x4 =>
cnd x4 (
(O.index x1 x3).bind fun x5 =>
(O.projs 1 5 x5).bind fun x6 =>
calls (W F20 0 [x6]) 1 fun x7 =>
(O.add .i64 x0 x7).bind fun x8 =>
(O.add .i64 x3 (.int 1)).bind fun x9 =>
W F20 2 [x8, x1, x2, x9]) (
some [x0]) := V_is rfl (by kernel_rfl)
theorem e_F21_0 (x0 : IV) : W F21 0 [x0] =
(O.proj 5 x0).bind fun x1 =>
(O.index x1 (.int 0)).bind fun x2 =>
(O.proj 4 x0).bind fun x3 =>
calls (W F22 0 [x2, x3]) 2 fun x4 x5 =>
(O.sEq x3 (.str ⟨#[]⟩)).bind fun x6 =>
(cnd x6 (some (.bool true)) (
(cnd x5 (
(O.proj 1 x4).bind fun x7 =>
some x7) (some (.bool false))).bind fun x7 =>
(cnd x7 (
(O.proj 4 x4).bind fun x8 =>
(O.eq x8 (.int 3)).bind fun x9 =>
some x9) (some (.bool false))).bind fun x8 =>
some x8)).bind fun x7 =>
some [x7] := V_is rfl (by kernel_rfl)
theorem e_F22_0 (x0 x1 : IV) : W F22 0 [x0, x1] =
(O.proj 6 x0).bind fun x2 =>
calls (W F23 0 [x2, x1]) 1 fun x3 =>
(O.lt x3 (.int 0)).bind fun x4 =>
(cnd x4 (some (.bool true)) (
calls (W F25 0 [x0]) 1 fun x5 =>
(O.not x5).bind fun x6 =>
some x6)).bind fun x5 =>
cnd x5 (
(O.mkagg [(.str ⟨#[]⟩), (.bool false), (.bool false), (.list []), (.int 0), (.int 0), (.int 0), (.list []), (.str ⟨#[]⟩), (.list []), (.list [])]).bind fun x6 =>
some [x6, (.bool false)]) (
(O.index x2 x3).bind fun x6 =>
some [x6, (.bool true)]) := V_is rfl (by kernel_rfl)
theorem e_F23_0 (x0 x1 : IV) : W F23 0 [x0, x1] =
(O.len x0).bind fun x2 =>
W F23 1 [x0, x1, x2, (.int 0)] := V_is rfl (by kernel_rfl)
theorem e_F23_1 (x0 x1 x2 x3 : IV) : W F23 1 [x0, x1, x2, x3] =
(O.lt x3 x2).bind fun x4 =>
cnd x4 (
(O.index x0 x3).bind fun x5 =>
calls (W F24 0 [x5, x1]) 1 fun x6 =>
cnd x6 (
some [x3]) (
(O.add .i64 x3 (.int 1)).bind fun x7 =>
W F23 1 [x0, x1, x2, x7])) (
some [(.int (-1))]) := V_is rfl (by kernel_rfl)
theorem e_F24_0 (x0 x1 : IV) : W F24 0 [x0, x1] =
(O.proj 0 x0).bind fun x2 =>
(O.sEq x2 x1).bind fun x3 =>
some [x3] := V_is rfl (by kernel_rfl)
theorem e_F25_0 (x0 : IV) : W F25 0 [x0] =
(O.proj 0 x0).bind fun x1 =>
(O.eq x1 (.int 5)).bind fun x2 =>
(cnd x2 (
(O.proj 5 x0).bind fun x3 =>
(O.len x3).bind fun x4 =>
(O.eq x4 (.int 0)).bind fun x5 =>
some x5) (some (.bool false))).bind fun x3 =>
some [x3] := V_is rfl (by kernel_rfl)
theorem e_F26_0 (x0 x1 : IV) : W F26 0 [x0, x1] =
calls (W F27 0 [x0, x1]) 1 fun x2 =>
(O.ge x2 (.int 0)).bind fun x3 =>
some [x3] := V_is rfl (by kernel_rfl)
theorem e_F27_0 (x0 x1 : IV) : W F27 0 [x0, x1] =
(O.len x0).bind fun x2 =>
W F27 1 [x0, x1, x2, (.int 0)] := V_is rfl (by kernel_rfl)
theorem e_F27_1 (x0 x1 x2 x3 : IV) : W F27 1 [x0, x1, x2, x3] =
(O.lt x3 x2).bind fun x4 =>
cnd x4 (
(O.index x0 x3).bind fun x5 =>
calls (W F28 0 [x5, x1]) 1 fun x6 =>
cnd x6 (
some [x3]) (
(O.add .i64 x3 (.int 1)).bind fun x7 =>
W F27 1 [x0, x1, x2, x7])) (
some [(.int (-1))]) := V_is rfl (by kernel_rfl)
theorem e_F28_0 (x0 x1 : IV) : W F28 0 [x0, x1] =
(O.sub .i64 x1 (.int 1)).bind fun x2 =>
calls (W F11 0 [x0, x2]) 1 fun x3 =>
(O.not x3).bind fun x4 =>
some [x4] := V_is rfl (by kernel_rfl)
theorem e_F29_0 (x0 x1 : IV) : W F29 0 [x0, x1] =
(O.proj 6 x0).bind fun x2 =>
(O.len x2).bind fun x3 =>
W F29 1 [x1, x2, x3, (.int 0), x0] := V_is rfl (by kernel_rfl)
theorem e_F29_1 (x0 x1 x2 x3 x4 : IV) : W F29 1 [x0, x1, x2, x3, x4] =
(O.lt x3 x2).bind fun x5 =>
cnd x5 (
(O.index x1 x3).bind fun x6 =>
(O.proj 0 x6).bind fun x7 =>
(O.mkagg [x7, (.int 0), (.int 0), (.str ⟨#[]⟩), (.list []), (.list [])]).bind fun x8 =>
(O.mklist [x8]).bind fun x9 =>
calls (W F30 0 [x9]) 5 fun x10 x11 x12 x13 x14 =>
(O.mkagg [x10, x11, x12, x13, x14]).bind fun x15 =>
calls (W F15 0 [x15]) 1 fun x16 =>
(O.not x16).bind fun x17 =>
(cnd x17 (some (.bool true)) (
(O.gt x3 (.int 0)).bind fun x18 =>
(cnd x18 (
(O.proj 6 x4).bind fun x19 =>
(O.sub .i64 x3 (.int 1)).bind fun x20 =>
(O.index x19 x20).bind fun x21 =>
(O.proj 0 x21).bind fun x22 =>
(O.sGe x22 x7).bind fun x23 =>
some x23) (some (.bool false))).bind fun x19 =>
some x19)).bind fun x18 =>
(cnd x18 (some (.bool true)) (
(O.projs 4 7 x6).bind fun x19 =>
calls (W F11 0 [x19, x0]) 1 fun x20 =>
(O.not x20).bind fun x21 =>
some x21)).bind fun x19 =>
(cnd x19 (some (.bool true)) (
(O.proj 3 x6).bind fun x20 =>
(O.len x20).bind fun x21 =>
(O.gt x21 (.int 1)).bind fun x22 =>
some x22)).bind fun x20 =>
cnd x20 (
some [(.bool false)]) (
(O.proj 3 x6).bind fun x21 =>
(O.len x21).bind fun x22 =>
W F29 2 [x0, x1, x2, x3, x21, x22, (.int 0), x4, x6])) (
some [(.bool true)]) := V_is rfl (by kernel_rfl)
theorem e_F29_2 (x0 x1 x2 x3 x4 x5 x6 x7 x8 : IV) : W F29 2 [x0, x1, x2, x3, x4, x5, x6, x7, x8] =
(O.lt x6 x5).bind fun x9 =>
cnd x9 (
(O.index x4 x6).bind fun x10 =>
(O.proj 0 x10).bind fun x11 =>
(O.eq x11 (.int 0)).bind fun x12 =>
(cnd x12 (some (.bool true)) (
calls (W F15 0 [x10]) 1 fun x13 =>
(O.not x13).bind fun x14 =>
some x14)).bind fun x13 =>
(cnd x13 (some (.bool true)) (
(O.projs 4 7 x8).bind fun x14 =>
calls (W F44 0 [x14, x10]) 1 fun x15 =>
(O.len x15).bind fun x16 =>
(O.gt x16 (.int 0)).bind fun x17 =>
some x17)).bind fun x14 =>
cnd x14 (
some [(.bool false)]) (
(O.add .i64 x6 (.int 1)).bind fun x15 =>
W F29 2 [x0, x1, x2, x3, x4, x5, x15, x7, x8])) (
(O.add .i64 x3 (.int 1)).bind fun x10 =>
W F29 1 [x0, x1, x2, x10, x7]) := V_is rfl (by kernel_rfl)
theorem e_F30_0 (x0 : IV) : W F30 0 [x0] =
calls (W F31 0 [x0]) 1 fun x1 =>
calls (W F32 0 [x1]) 1 fun x2 =>
(O.len x2).bind fun x3 =>
W F30 1 [x3, (.int 0), (.int 0), (.int 0), (.str ⟨#[]⟩), x2, (.int 5), (.int 0), (.str ⟨#[]⟩), (.list [])] := V_is rfl (by kernel_rfl)
theorem e_F35 (x0 x1 x2 x3 x4 x5 x6 x7 x8 x9 : IV) : W F30 1 [x0, x1, x2, x3, x4, x5, x6, x7, x8, x9] =
(O.lt x1 x0).bind fun x10 =>
cnd x10 (
(O.index x5 x1).bind fun x11 =>
(O.add .i64 x1 (.int 1)).bind fun x12 =>
(O.len x5).bind fun x13 =>
(O.eq x12 x13).bind fun x14 =>
(cnd x14 (some (.bool true)) (
(O.add .i64 x1 (.int 1)).bind fun x15 =>
(O.index x5 x15).bind fun x16 =>
(O.proj 0 x16).bind fun x17 =>
(O.proj 0 x11).bind fun x18 =>
(O.sNe x17 x18).bind fun x19 =>
some x19)).bind fun x15 =>
cnd x15 (
(O.mklist [x11]).bind fun x16 =>
(O.append 96 x9 x16).bind fun x17 =>
W F30 2 [x0, x1, x2, x3, x4, x5, x6, x7, x8, x17]) (
W F30 2 [x0, x1, x2, x3, x4, x5, x6, x7, x8, x9])) (
(O.mkagg [x6, x7, x8, (.list []), x9]).bind fun x11 =>
calls (W F42 0 [x11]) 5 fun x12 x13 x14 x15 x16 =>
some [x12, x13, x14, x15, x16]) := V_is rfl (by kernel_rfl)
theorem e_F30_2 (x0 x1 x2 x3 x4 x5 x6 x7 x8 x9 : IV) : W F30 2 [x0, x1, x2, x3, x4, x5, x6, x7, x8, x9] =
(O.add .i64 x1 (.int 1)).bind fun x10 =>
W F30 1 [x0, x10, x2, x3, x4, x5, x6, x7, x8, x9] := V_is rfl (by kernel_rfl)
theorem e_F31 (xs : List IV) : W F31 0 xs = O.cloneF xs := V_eq _ _ _ _
theorem e_F35_0 (x0 x1 : IV) : W F35 0 [x0, x1] =
(O.proj 0 x0).bind fun x2 =>
(O.proj 0 x1).bind fun x3 =>
calls (W F36 0 [x2, x3]) 1 fun x4 =>
some [x4] := V_is rfl (by kernel_rfl)
theorem e_F36_0 (x0 x1 : IV) : W F36 0 [x0, x1] =
calls (W F37 0 [x0, x1]) 1 fun x2 =>
some [x2] := V_is rfl (by kernel_rfl)
theorem e_F37_0 (x0 x1 : IV) : W F37 0 [x0, x1] =
calls (W F38 0 [x0, x1]) 1 fun x2 =>
some [x2] := V_is rfl (by kernel_rfl)
theorem e_F38 (xs : List IV) : W F38 0 xs = O.compareF xs := V_eq _ _ _ _
theorem e_F42_0 (x0 : IV) : W F42 0 [x0] =
(O.proj 3 x0).bind fun x1 =>
calls (W F43 0 [x1]) 1 fun x2 =>
(O.proj 0 x0).bind fun x3 =>
(O.proj 1 x0).bind fun x4 =>
(O.proj 2 x0).bind fun x5 =>
(O.proj 4 x0).bind fun x6 =>
(O.len x2).bind fun x7 =>
W F42 1 [x7, (.int 0), x3, x4, x5, x6, (.int 0), (.int 0), (.str ⟨#[]⟩), x2] := V_is rfl (by kernel_rfl)
theorem e_F42_1 (x0 x1 x2 x3 x4 x5 x6 x7 x8 x9 : IV) : W F42 1 [x0, x1, x2, x3, x4, x5, x6, x7, x8, x9] =
(O.lt x1 x0).bind fun x10 =>
cnd x10 (
(O.index x9 x1).bind fun x11 =>
calls (W F42 0 [x11]) 5 fun x12 x13 x14 x15 x16 =>
(O.mkagg [x12, x13, x14, x15, x16]).bind fun x17 =>
(O.setAt 0 5 true true x9 x1 x17).bind fun x18 =>
(O.add .i64 x1 (.int 1)).bind fun x19 =>
W F42 1 [x0, x19, x2, x3, x4, x5, x6, x7, x8, x18]) (
calls (W F31 0 [x5]) 1 fun x11 =>
(O.len x11).bind fun x12 =>
W F42 2 [x12, (.int 0), x2, x3, x4, x6, x7, x8, x11, x9]) := V_is rfl (by kernel_rfl)
theorem e_F42_2 (x0 x1 x2 x3 x4 x5 x6 x7 x8 x9 : IV) : W F42 2 [x0, x1, x2, x3, x4, x5, x6, x7, x8, x9] =
(O.lt x1 x0).bind fun x10 =>
cnd x10 (
(O.index x8 x1).bind fun x11 =>
(O.projs 1 5 x11).bind fun x12 =>
calls (W F42 0 [x12]) 5 fun x13 x14 x15 x16 x17 =>
(O.mkagg [x13, x14, x15, x16, x17]).bind fun x18 =>
(O.setAt 1 5 true false x8 x1 x18).bind fun x19 =>
(O.add .i64 x1 (.int 1)).bind fun x20 =>
W F42 2 [x0, x20, x2, x3, x4, x5, x6, x7, x19, x9]) (
some [x2, x3, x4, x9, x8]) := V_is rfl (by kernel_rfl)
theorem e_F43 (xs : List IV) : W F43 0 xs = O.cloneF xs := V_eq _ _ _ _
theorem e_F44_0 (x0 x1 : IV) : W F44 0 [x0, x1] =
calls (W F45 0 [(.list []), x0, x1, (.list [])]) 1 fun x2 =>
some [x2] := V_is rfl (by kernel_rfl)
theorem e_F45_0 (x0 x1 x2 x3 : IV) : W F45 0 [x0, x1, x2, x3] =
(O.proj 0 x2).bind fun x4 =>
(O.proj 0 x1).bind fun x5 =>
(O.ne x4 x5).bind fun x6 =>
cnd x6 (
calls (W F46 0 [x0, x3, (.int 6)]) 1 fun x7 =>
some [x7]) (
(O.eq x4 (.int 2)).bind fun x7 =>
cnd x7 (
(O.proj 1 x2).bind fun x8 =>
(O.proj 1 x1).bind fun x9 =>
(O.lt x8 x9).bind fun x10 =>
(cnd x10 (some (.bool true)) (
(O.proj 2 x1).bind fun x11 =>
(O.gt x8 x11).bind fun x12 =>
some x12)).bind fun x11 =>
cnd x11 (
calls (W F46 0 [x0, x3, (.int 5)]) 1 fun x12 =>
some [x12]) (
some [x0])) (
(O.eq x4 (.int 3)).bind fun x8 =>
cnd x8 (
(O.proj 2 x2).bind fun x9 =>
(O.slen x9).bind fun x10 =>
(O.proj 1 x1).bind fun x11 =>
(O.lt x10 x11).bind fun x12 =>
(cnd x12 (some (.bool true)) (
(O.proj 2 x1).bind fun x13 =>
(O.gt x10 x13).bind fun x14 =>
some x14)).bind fun x13 =>
cnd x13 (
calls (W F46 0 [x0, x3, (.int 5)]) 1 fun x14 =>
some [x14]) (
(O.proj 3 x1).bind fun x14 =>
(O.len x14).bind fun x15 =>
(O.gt x15 (.int 0)).bind fun x16 =>
(cnd x16 (
calls (W F64 0 [x14, x9]) 1 fun x17 =>
(O.not x17).bind fun x18 =>
some x18) (some (.bool false))).bind fun x17 =>
cnd x17 (
calls (W F46 0 [x0, x3, (.int 1)]) 1 fun x18 =>
some [x18]) (
some [x0]))) (
(O.eq x4 (.int 4)).bind fun x9 =>
cnd x9 (
calls (W F66 0 [x0, x1, x2, x3]) 1 fun x10 =>
some [x10]) (
calls (W F73 0 [x1]) 1 fun x10 =>
cnd x10 (
(O.proj 4 x2).bind fun x11 =>
(O.len x11).bind fun x12 =>
W F45 1 [x3, x11, x12, (.int 0), x1, x0]) (
(O.eq x4 (.int 5)).bind fun x11 =>
cnd x11 (
calls (W F74 0 [x0, x1, x2, x3]) 1 fun x12 =>
some [x12]) (
some [x0])))))) := V_is rfl (by kernel_rfl)
theorem e_F45_1 (x0 x1 x2 x3 x4 x5 : IV) : W F45 1 [x0, x1, x2, x3, x4, x5] =
(O.lt x3 x2).bind fun x6 =>
cnd x6 (
(O.index x1 x3).bind fun x7 =>
(O.proj 1 x7).bind fun x8 =>
(O.ne x8 (.int 0)).bind fun x9 =>
cnd x9 (
(O.proj 5 x4).bind fun x10 =>
(O.index x10 (.int 0)).bind fun x11 =>
(O.projs 1 5 x7).bind fun x12 =>
(O.proj 0 x7).bind fun x13 =>
calls (W F75 0 [x13]) 1 fun x14 =>
calls (W F70 0 [x0, x14]) 1 fun x15 =>
calls (W F45 0 [x5, x11, x12, x15]) 1 fun x16 =>
W F45 2 [x0, x1, x2, x3, x4, x16]) (
W F45 2 [x0, x1, x2, x3, x4, x5])) (
some [x5]) := V_is rfl (by kernel_rfl)
theorem e_F45_2 (x0 x1 x2 x3 x4 x5 : IV) : W F45 2 [x0, x1, x2, x3, x4, x5] =
(O.add .i64 x3 (.int 1)).bind fun x6 =>
W F45 1 [x0, x1, x2, x6, x4, x5] := V_is rfl (by kernel_rfl)
theorem e_F46_0 (x0 x1 x2 : IV) : W F46 0 [x0, x1, x2] =
calls (W F47 0 [x1]) 2 fun x3 x4 =>
(O.mkagg [x3, x2]).bind fun x5 =>
(O.mklist [x5]).bind fun x6 =>
(O.append 24 x0 x6).bind fun x7 =>
some [x7] := V_is rfl (by kernel_rfl)
theorem e_F47_0 (x0 : IV) : W F47 0 [x0] =
calls (W F48 0 [x0]) 1 fun x1 =>
(O.not x1).bind fun x2 =>
cnd x2 (
some [(.str ⟨#[]⟩), (.int 1)]) (
(O.len x0).bind fun x3 =>
W F47 1 [x0, x3, (.int 0), (.list [])]) := V_is rfl (by kernel_rfl)
theorem e_F47_1 (x0 x1 x2 x3 : IV) : W F47 1 [x0, x1, x2, x3] =
(O.lt x2 x1).bind fun x4 =>
cnd x4 (
(O.index x0 x2).bind fun x5 =>
(O.proj 0 x5).bind fun x6 =>
(O.eq x6 (.int 1)).bind fun x7 =>
cnd x7 (
(O.gt x2 (.int 0)).bind fun x8 =>
cnd x8 (
calls (W F55 0 [x3, (.int 46)]) 1 fun x9 =>
W F47 2 [x0, x1, x2, x5, x9]) (
W F47 2 [x0, x1, x2, x5, x3])) (
(O.eq x6 (.int 2)).bind fun x8 =>
cnd x8 (
(O.proj 2 x5).bind fun x9 =>
calls (W F57 0 [x9]) 1 fun x10 =>
(O.cat (.str ⟨#[91]⟩) x10).bind fun x11 =>
(O.cat x11 (.str ⟨#[93]⟩)).bind fun x12 =>
calls (W F58 0 [x3, x12]) 2 fun x13 x14 =>
W F47 3 [x0, x1, x2, x14]) (
(O.eq x6 (.int 3)).bind fun x9 =>
cnd x9 (
(O.proj 1 x5).bind fun x10 =>
(O.cat (.str ⟨#[91]⟩) x10).bind fun x11 =>
(O.cat x11 (.str ⟨#[61]⟩)).bind fun x12 =>
(O.proj 3 x5).bind fun x13 =>
calls (W F59 0 [x13]) 1 fun x14 =>
(O.cat x12 x14).bind fun x15 =>
(O.cat x15 (.str ⟨#[93]⟩)).bind fun x16 =>
calls (W F58 0 [x3, x16]) 2 fun x17 x18 =>
W F47 3 [x0, x1, x2, x18]) (
W F47 3 [x0, x1, x2, x3])))) (
calls (W F60 0 [x3]) 1 fun x5 =>
some [x5, (.int 0)]) := V_is rfl (by kernel_rfl)
theorem e_F47_2 (x0 x1 x2 x3 x4 : IV) : W F47 2 [x0, x1, x2, x3, x4] =
(O.proj 1 x3).bind fun x5 =>
calls (W F58 0 [x4, x5]) 2 fun x6 x7 =>
W F47 3 [x0, x1, x2, x7] := V_is rfl (by kernel_rfl)
theorem e_F47_3 (x0 x1 x2 x3 : IV) : W F47 3 [x0, x1, x2, x3] =
(O.add .i64 x2 (.int 1)).bind fun x4 =>
W F47 1 [x0, x1, x4, x3] := V_is rfl (by kernel_rfl)
theorem e_F48_0 (x0 : IV) : W F48 0 [x0] =
(O.len x0).bind fun x1 =>
(O.le x1 (.int 16)).bind fun x2 =>
(cnd x2 (
calls (W F49 0 [x0]) 1 fun x3 =>
(O.not x3).bind fun x4 =>
some x4) (some (.bool false))).bind fun x3 =>
some [x3] := V_is rfl (by kernel_rfl)
theorem e_F49_0 (x0 : IV) : W F49 0 [x0] =
calls (W F50 0 [x0]) 1 fun x1 =>
(O.ge x1 (.int 0)).bind fun x2 =>
some [x2] := V_is rfl (by kernel_rfl)
theorem e_F50_0 (x0 : IV) : W F50 0 [x0] =
(O.len x0).bind fun x1 =>
W F50 1 [x0, x1, (.int 0)] := V_is rfl (by kernel_rfl)
theorem e_F50_1 (x0 x1 x2 : IV) : W F50 1 [x0, x1, x2] =
(O.lt x2 x1).bind fun x3 =>
cnd x3 (
(O.index x0 x2).bind fun x4 =>
calls (W F51 0 [x4]) 1 fun x5 =>
cnd x5 (
some [x2]) (
(O.add .i64 x2 (.int 1)).bind fun x6 =>
W F50 1 [x0, x1, x6])) (
some [(.int (-1))]) := V_is rfl (by kernel_rfl)
theorem e_F51_0 (x0 : IV) : W F51 0 [x0] =
calls (W F52 0 [x0]) 1 fun x1 =>
(O.not x1).bind fun x2 =>
some [x2] := V_is rfl (by kernel_rfl)
theorem e_F52_0 (x0 : IV) : W F52 0 [x0] =
(O.proj 0 x0).bind fun x1 =>
(O.eq x1 (.int 1)).bind fun x2 =>
cnd x2 (
(O.proj 1 x0).bind fun x3 =>
calls (W F53 0 [x3]) 1 fun x4 =>
(cnd x4 (
(O.proj 2 x0).bind fun x5 =>
(O.eq x5 (.int 0)).bind fun x6 =>
some x6) (some (.bool false))).bind fun x5 =>
(cnd x5 (
(O.proj 3 x0).bind fun x6 =>
(O.sEq x6 (.str ⟨#[]⟩)).bind fun x7 =>
some x7) (some (.bool false))).bind fun x6 =>
some [x6]) (
(O.eq x1 (.int 2)).bind fun x3 =>
cnd x3 (
(O.proj 2 x0).bind fun x4 =>
(O.ge x4 (.int 0)).bind fun x5 =>
(cnd x5 (
(O.le x4 (.int 64)).bind fun x6 =>
some x6) (some (.bool false))).bind fun x6 =>
(cnd x6 (
(O.proj 1 x0).bind fun x7 =>
(O.sEq x7 (.str ⟨#[]⟩)).bind fun x8 =>
some x8) (some (.bool false))).bind fun x7 =>
(cnd x7 (
(O.proj 3 x0).bind fun x8 =>
(O.sEq x8 (.str ⟨#[]⟩)).bind fun x9 =>
some x9) (some (.bool false))).bind fun x8 =>
some [x8]) (
(O.eq x1 (.int 3)).bind fun x4 =>
cnd x4 (
(O.proj 1 x0).bind fun x5 =>
calls (W F53 0 [x5]) 1 fun x6 =>
(cnd x6 (
(O.proj 2 x0).bind fun x7 =>
(O.eq x7 (.int 0)).bind fun x8 =>
some x8) (some (.bool false))).bind fun x7 =>
(cnd x7 (
(O.proj 3 x0).bind fun x8 =>
calls (W F14 0 [x8]) 5 fun x9 x10 x11 x12 x13 =>
(O.mkagg [x9, x10, x11, x12, x13]).bind fun x14 =>
calls (W F15 0 [x14]) 1 fun x15 =>
some x15) (some (.bool false))).bind fun x8 =>
some [x8]) (
some [(.bool false)]))) := V_is rfl (by kernel_rfl)
theorem e_F53_0 (x0 : IV) : W F53 0 [x0] =
W F53 1 [x0, x0, (.int 0)] := V_is rfl (by kernel_rfl)
theorem e_F53_1 (x0 x1 x2 : IV) : W F53 1 [x0, x1, x2] =
(O.iterOk x1 x2).bind fun x3 =>
(O.runeAt x1 x2).bind fun x4 =>
(O.iterNext x1 x2).bind fun x5 =>
cnd x3 (
(O.need x3).bind fun x6 =>
calls (W F54 0 [x4]) 1 fun x7 =>
(O.not x7).bind fun x8 =>
cnd x8 (
some [(.bool false)]) (
W F53 1 [x0, x1, x5])) (
(O.sNe x0 (.str ⟨#[]⟩)).bind fun x6 =>
(cnd x6 (
(O.slen x0).bind fun x7 =>
(O.le x7 (.int 40)).bind fun x8 =>
some x8) (some (.bool false))).bind fun x7 =>
some [x7]) := V_is rfl (by kernel_rfl)
theorem e_F54_0 (x0 : IV) : W F54 0 [x0] =
(O.ge x0 (.int 97)).bind fun x1 =>
(cnd x1 (
(O.le x0 (.int 122)).bind fun x2 =>
some x2) (some (.bool false))).bind fun x2 =>
(cnd x2 (some (.bool true)) (
(O.ge x0 (.int 65)).bind fun x3 =>
(cnd x3 (
(O.le x0 (.int 90)).bind fun x4 =>
some x4) (some (.bool false))).bind fun x4 =>
some x4)).bind fun x3 =>
(cnd x3 (some (.bool true)) (
(O.ge x0 (.int 48)).bind fun x4 =>
(cnd x4 (
(O.le x0 (.int 57)).bind fun x5 =>
some x5) (some (.bool false))).bind fun x5 =>
some x5)).bind fun x4 =>
(cnd x4 (some (.bool true)) (
(O.eq x0 (.int 45)).bind fun x5 =>
some x5)).bind fun x5 =>
(cnd x5 (some (.bool true)) (
(O.eq x0 (.int 95)).bind fun x6 =>
some x6)).bind fun x6 =>
(cnd x6 (some (.bool true)) (
(O.eq x0 (.int 47)).bind fun x7 =>
some x7)).bind fun x7 =>
some [x7] := V_is rfl (by kernel_rfl)
theorem e_F55_0 (x0 x1 : IV) : W F55 0 [x0, x1] =
calls (W F56 0 [x0]) 1 fun x2 =>
(O.mklist [x1]).bind fun x3 =>
(O.append 1 x2 x3).bind fun x4 =>
some [x4] := V_is rfl (by kernel_rfl)
theorem e_F56 (xs : List IV) : W F56 0 xs = O.copyCheckF xs := V_eq _ _ _ _
theorem e_F57 (xs : List IV) : W F57 0 xs = O.itoaF xs := V_eq _ _ _ _
theorem e_F58_0 (x0 x1 : IV) : W F58 0 [x0, x1] =
calls (W F56 0 [x0]) 1 fun x2 =>
(O.appendS x2 x1).bind fun x3 =>
(O.slen x1).bind fun x4 =>
some [x4, x3] := V_is rfl (by kernel_rfl)
theorem e_F59_0 (x0 : IV) : W F59 0 [x0] =
calls (W F55 0 [(.list []), (.int 34)]) 1 fun x1 =>
W F59 1 [x0, (.int 0), x1] := V_is rfl (by kernel_rfl)
theorem e_F59_1 (x0 x1 x2 : IV) : W F59 1 [x0, x1, x2] =
(O.iterOk x0 x1).bind fun x3 =>
(O.runeAt x0 x1).bind fun x4 =>
(O.iterNext x0 x1).bind fun x5 =>
cnd x3 (
(O.need x3).bind fun x6 =>
(O.eq x4 (.int 34)).bind fun x7 =>
cnd x7 (
W F59 2 [x4, x4, x7, x0, x5, x2]) (
(O.eq x4 (.int 92)).bind fun x8 =>
W F59 2 [x4, x4, x8, x0, x5, x2])) (
calls (W F55 0 [x2, (.int 34)]) 1 fun x6 =>
calls (W F60 0 [x6]) 1 fun x7 =>
some [x7]) := V_is rfl (by kernel_rfl)
theorem e_F59_2 (x0 x1 x2 x3 x4 x5 : IV) : W F59 2 [x0, x1, x2, x3, x4, x5] =
cnd x2 (
calls (W F55 0 [x5, (.int 92)]) 1 fun x6 =>
calls (W F61 0 [x6, x0]) 2 fun x7 x8 =>
W F59 3 [x3, x4, x8]) (
(O.eq x1 (.int 10)).bind fun x6 =>
cnd x6 (
calls (W F58 0 [x5, (.str ⟨#[92, 110]⟩)]) 2 fun x7 x8 =>
W F59 3 [x3, x4, x8]) (
calls (W F61 0 [x5, x0]) 2 fun x7 x8 =>
W F59 3 [x3, x4, x8])) := V_is rfl (by kernel_rfl)
theorem e_F59_3 (x0 x1 x2 : IV) : W F59 3 [x0, x1, x2] =
W F59 1 [x0, x1, x2] := V_is rfl (by kernel_rfl)
theorem e_F60 (xs : List IV) : W F60 0 xs = O.stringF xs := V_eq _ _ _ _
theorem e_F61_0 (x0 x1 : IV) : W F61 0 [x0, x1] =
calls (W F56 0 [x0]) 1 fun x2 =>
(O.len x2).bind fun x3 =>
calls (W F62 0 [x2, x1]) 1 fun x4 =>
(O.len x4).bind fun x5 =>
(O.sub .i64 x5 x3).bind fun x6 =>
some [x6, x4] := V_is rfl (by kernel_rfl)
theorem e_F62_0 (x0 x1 : IV) : W F62 0 [x0, x1] =
(O.conv .u32 x1).bind fun x2 =>
(O.le x2 (.int 127)).bind fun x3 =>
cnd x3 (
(O.conv .u8 x1).bind fun x4 =>
(O.mklist [x4]).bind fun x5 =>
(O.append 1 x0 x5).bind fun x6 =>
some [x6]) (
calls (W F63 0 [x0, x1]) 1 fun x4 =>
some [x4]) := V_is rfl (by kernel_rfl)
theorem e_F64_0 (x0 x1 : IV) : W F64 0 [x0, x1] =
calls (W F65 0 [x0, x1]) 1 fun x2 =>
(O.ge x2 (.int 0)).bind fun x3 =>
some [x3] := V_is rfl (by kernel_rfl)
theorem e_F65_0 (x0 x1 : IV) : W F65 0 [x0, x1] =
(O.len x0).bind fun x2 =>
W F65 1 [x0, x1, x2, (.int 0)] := V_is rfl (by kernel_rfl)
theorem e_F65_1 (x0 x1 x2 x3 : IV) : W F65 1 [x0, x1, x2, x3] =
(O.lt x3 x2).bind fun x4 =>
cnd x4 (
(O.index x0 x3).bind fun x5 =>
(O.sEq x1 x5).bind fun x6 =>
cnd x6 (
some [x3]) (
(O.add .i64 x3 (.int 1)).bind fun x7 =>
W F65 1 [x0, x1, x2, x7])) (
some [(.int (-1))]) := V_is rfl (by kernel_rfl)
theorem e_F66_0 (x0 x1 x2 x3 : IV) : W F66 0 [x0, x1, x2, x3] =
(O.proj 3 x2).bind fun x4 =>
(O.len x4).bind fun x5 =>
(O.proj 1 x1).bind fun x6 =>
(O.lt x5 x6).bind fun x7 =>
(cnd x7 (some (.bool true)) (
(O.proj 2 x1).bind fun x8 =>
(O.gt x5 x8).bind fun x9 =>
some x9)).bind fun x8 =>
cnd x8 (
calls (W F46 0 [x0, x3, (.int 5)]) 1 fun x9 =>
W F66 1 [x3, x1, x2, x9]) (
W F66 1 [x3, x1, x2, x0]) := V_is rfl (by kernel_rfl)
theorem e_F66_1 (x0 x1 x2 x3 : IV) : W F66 1 [x0, x1, x2, x3] =
(O.proj 3 x2).bind fun x4 =>
(O.len x4).bind fun x5 =>
W F66 2 [x0, x4, x5, (.int 0), x1, (.list []), x3] := V_is rfl (by kernel_rfl)
theorem e_F66_2 (x0 x1 x2 x3 x4 x5 x6 : IV) : W F66 2 [x0, x1, x2, x3, x4, x5, x6] =
(O.lt x3 x2).bind fun x7 =>
cnd x7 (
(O.index x1 x3).bind fun x8 =>
calls (W F67 0 [x4, x3, x8]) 1 fun x9 =>
calls (W F70 0 [x0, x9]) 1 fun x10 =>
(O.proj 5 x4).bind fun x11 =>
(O.index x11 (.int 0)).bind fun x12 =>
calls (W F45 0 [x6, x12, x8, x10]) 1 fun x13 =>
(O.proj 4 x4).bind fun x14 =>
calls (W F68 0 [x8, x14]) 2 fun x15 x16 =>
(cnd x16 (
(O.sNe x14 (.str ⟨#[]⟩)).bind fun x17 =>
some x17) (some (.bool false))).bind fun x17 =>
cnd x17 (
(O.mget (.bool false) x5 x15).bind fun x18 =>
(O.mhas x5 x15).bind fun x19 =>
cnd x18 (
calls (W F46 0 [x13, x10, (.int 8)]) 1 fun x20 =>
W F66 3 [x0, x15, x1, x2, x3, x4, x5, x20]) (
W F66 3 [x0, x15, x1, x2, x3, x4, x5, x13])) (
W F66 4 [x0, x1, x2, x3, x4, x5, x13])) (
some [x6]) := V_is rfl (by kernel_rfl)
theorem e_F66_3 (x0 x1 x2 x3 x4 x5 x6 x7 : IV) : W F66 3 [x0, x1, x2, x3, x4, x5, x6, x7] =
(O.mset x6 x1 (.bool true)).bind fun x8 =>
W F66 4 [x0, x2, x3, x4, x5, x8, x7] := V_is rfl (by kernel_rfl)
theorem e_F66_4 (x0 x1 x2 x3 x4 x5 x6 : IV) : W F66 4 [x0, x1, x2, x3, x4, x5, x6] =
(O.add .i64 x3 (.int 1)).bind fun x7 =>
W F66 2 [x0, x1, x2, x7, x4, x5, x6] := V_is rfl (by kernel_rfl)
theorem e_F67_0 (x0 x1 x2 : IV) : W F67 0 [x0, x1, x2] =
(O.proj 4 x0).bind fun x3 =>
calls (W F68 0 [x2, x3]) 2 fun x4 x5 =>
(cnd x5 (
(O.sNe x3 (.str ⟨#[]⟩)).bind fun x6 =>
some x6) (some (.bool false))).bind fun x6 =>
cnd x6 (
(O.mkagg [(.int 3), x3, (.int 0), x4]).bind fun x7 =>
some [x7]) (
(O.mkagg [(.int 2), (.str ⟨#[]⟩), x1, (.str ⟨#[]⟩)]).bind fun x7 =>
some [x7]) := V_is rfl (by kernel_rfl)
theorem e_F68_0 (x0 x1 : IV) : W F68 0 [x0, x1] =
calls (W F69 0 [x0, x1]) 6 fun x2 x3 x4 x5 x6 x7 =>
(cnd x7 (
(O.eq x2 (.int 3)).bind fun x8 =>
some x8) (some (.bool false))).bind fun x8 =>
some [x4, x8] := V_is rfl (by kernel_rfl)
theorem e_F69_0 (x0 x1 : IV) : W F69 0 [x0, x1] =
(O.proj 0 x0).bind fun x2 =>
(O.eq x2 (.int 5)).bind fun x3 =>
cnd x3 (
(O.proj 4 x0).bind fun x4 =>
(O.len x4).bind fun x5 =>
W F69 1 [x1, x4, x5, (.int 0), (.int 0), (.int 0), (.str ⟨#[]⟩)]) (
some [(.int 0), (.int 0), (.str ⟨#[]⟩), (.list []), (.list []), (.bool false)]) := V_is rfl (by kernel_rfl)
theorem e_F69_1 (x0 x1 x2 x3 x4 x5 x6 : IV) : W F69 1 [x0, x1, x2, x3, x4, x5, x6] =
(O.lt x3 x2).bind fun x7 =>
cnd x7 (
(O.index x1 x3).bind fun x8 =>
(O.proj 0 x8).bind fun x9 =>
(O.sEq x9 x0).bind fun x10 =>
cnd x10 (
(O.projs 1 5 x8).bind fun x11 =>
calls (W F42 0 [x11]) 5 fun x12 x13 x14 x15 x16 =>
some [x12, x13, x14, x15, x16, (.bool true)]) (
(O.add .i64 x3 (.int 1)).bind fun x11 =>
W F69 1 [x0, x1, x2, x11, x4, x5, x6])) (
some [(.int 0), (.int 0), (.str ⟨#[]⟩), (.list []), (.list []), (.bool false)]) := V_is rfl (by kernel_rfl)
theorem e_F70_0 (x0 x1 : IV) : W F70 0 [x0, x1] =
calls (W F71 0 [x0]) 1 fun x2 =>
calls (W F72 0 [x2]) 1 fun x3 =>
(O.mklist [x1]).bind fun x4 =>
(O.appendN 48 x3 x4).bind fun x5 =>
some [x5] := V_is rfl (by kernel_rfl)
theorem e_F71 (xs : List IV) : W F71 0 xs = O.cloneF xs := V_eq _ _ _ _
theorem e_F72 (xs : List IV) : W F72 0 xs = O.clipF xs := V_eq _ _ _ _
theorem e_F73_0 (x0 : IV) : W F73 0 [x0] =
(O.proj 0 x0).bind fun x1 =>
(O.eq x1 (.int 5)).bind fun x2 =>
(cnd x2 (
(O.proj 5 x0).bind fun x3 =>
(O.len x3).bind fun x4 =>
(O.gt x4 (.int 0)).bind fun x5 =>
some x5) (some (.bool false))).bind fun x3 =>
some [x3] := V_is rfl (by kernel_rfl)
theorem e_F74_0 (x0 x1 x2 x3 : IV) : W F74 0 [x0, x1, x2, x3] =
(O.proj 4 x2).bind fun x4 =>
(O.len x4).bind fun x5 =>
W F74 1 [x3, x4, x5, (.int 0), x1, x2, x0] := V_is rfl (by kernel_rfl)
theorem e_F74_1 (x0 x1 x2 x3 x4 x5 x6 : IV) : W F74 1 [x0, x1, x2, x3, x4, x5, x6] =
(O.lt x3 x2).bind fun x7 =>
cnd x7 (
(O.index x1 x3).bind fun x8 =>
(O.proj 0 x8).bind fun x9 =>
calls (W F75 0 [x9]) 1 fun x10 =>
calls (W F70 0 [x0, x10]) 1 fun x11 =>
calls (W F22 0 [x4, x9]) 2 fun x12 x13 =>
(O.not x13).bind fun x14 =>
cnd x14 (
calls (W F46 0 [x6, x11, (.int 1)]) 1 fun x15 =>
W F74 2 [x0, x1, x2, x3, x4, x5, x15]) (
(O.proj 1 x8).bind fun x15 =>
(O.ne x15 (.int 0)).bind fun x16 =>
cnd x16 (
(O.projs 4 7 x12).bind fun x17 =>
(O.projs 1 5 x8).bind fun x18 =>
calls (W F45 0 [x6, x17, x18, x11]) 1 fun x19 =>
W F74 2 [x0, x1, x2, x3, x4, x5, x19]) (
W F74 2 [x0, x1, x2, x3, x4, x5, x6]))) (
(O.proj 6 x4).bind fun x8 =>
(O.len x8).bind fun x9 =>
W F74 3 [x0, x8, x9, (.int 0), x5, x6]) := V_is rfl (by kernel_rfl)
theorem e_F74_2 (x0 x1 x2 x3 x4 x5 x6 : IV) : W F74 2 [x0, x1, x2, x3, x4, x5, x6] =
(O.add .i64 x3 (.int 1)).bind fun x7 =>
W F74 1 [x0, x1, x2, x7, x4, x5, x6] := V_is rfl (by kernel_rfl)
theorem e_F74_3 (x0 x1 x2 x3 x4 x5 : IV) : W F74 3 [x0, x1, x2, x3, x4, x5] =
(O.lt x3 x2).bind fun x6 =>
cnd x6 (
(O.index x1 x3).bind fun x7 =>
(O.proj 0 x7).bind fun x8 =>
calls (W F76 0 [x4, x8]) 6 fun x9 x10 x11 x12 x13 x14 =>
(O.proj 1 x7).bind fun x15 =>
(cnd x15 (
(O.not x14).bind fun x16 =>
some x16) (some (.bool false))).bind fun x16 =>
cnd x16 (
calls (W F75 0 [x8]) 1 fun x17 =>
calls (W F70 0 [x0, x17]) 1 fun x18 =>
calls (W F46 0 [x5, x18, (.int 7)]) 1 fun x19 =>
W F74 4 [x0, x1, x2, x3, x4, x19]) (
W F74 4 [x0, x1, x2, x3, x4, x5])) (
some [x5]) := V_is rfl (by kernel_rfl)
theorem e_F74_4 (x0 x1 x2 x3 x4 x5 : IV) : W F74 4 [x0, x1, x2, x3, x4, x5] =
(O.add .i64 x3 (.int 1)).bind fun x6 =>
W F74 3 [x0, x1, x2, x6, x4, x5] := V_is rfl (by kernel_rfl)
theorem e_F75_0 (x0 : IV) : W F75 0 [x0] =
(O.mkagg [(.int 1), x0, (.int 0), (.str ⟨#[]⟩)]).bind fun x1 =>
some [x1] := V_is rfl (by kernel_rfl)
theorem e_F76_0 (x0 x1 : IV) : W F76 0 [x0, x1] =
calls (W F69 0 [x0, x1]) 6 fun x2 x3 x4 x5 x6 x7 =>
(cnd x7 (
(O.ne x2 (.int 0)).bind fun x8 =>
some x8) (some (.bool false))).bind fun x8 =>
some [x2, x3, x4, x5, x6, x8] := V_is rfl (by kernel_rfl)
theorem e_F105_0 (x0 : IV) : W F105 0 [x0] =
W F105 1 [x0, (.int 0)] := V_is rfl (by kernel_rfl)
theorem e_F105_1 (x0 x1 : IV) : W F105 1 [x0, x1] =
(O.len x0).bind fun x2 =>
(O.lt x1 x2).bind fun x3 =>
cnd x3 (
(O.index x0 x1).bind fun x4 =>
calls (W F106 0 [x4]) 1 fun x5 =>
(O.not x5).bind fun x6 =>
cnd x6 (
some [(.bool false)]) (
(O.add .i64 x1 (.int 1)).bind fun x7 =>
W F105 1 [x0, x7])) (
(O.le x2 (.int 16)).bind fun x4 =>
some [x4]) := V_is rfl (by kernel_rfl)
theorem e_F106_0 (x0 : IV) : W F106 0 [x0] =
(O.proj 0 x0).bind fun x1 =>
(O.eq x1 (.int 1)).bind fun x2 =>
cnd x2 (
(O.proj 1 x0).bind fun x3 =>
calls (W F107 0 [x3]) 1 fun x4 =>
(cnd x4 (
(O.proj 2 x0).bind fun x5 =>
(O.eq x5 (.int 0)).bind fun x6 =>
some x6) (some (.bool false))).bind fun x5 =>
(cnd x5 (
(O.proj 3 x0).bind fun x6 =>
(O.sEq x6 (.str ⟨#[]⟩)).bind fun x7 =>
some x7) (some (.bool false))).bind fun x6 =>
some [x6]) (
(O.eq x1 (.int 2)).bind fun x3 =>
cnd x3 (
(O.proj 2 x0).bind fun x4 =>
(O.ge x4 (.int 0)).bind fun x5 =>
(cnd x5 (
(O.le x4 (.int 64)).bind fun x6 =>
some x6) (some (.bool false))).bind fun x6 =>
(cnd x6 (
(O.proj 1 x0).bind fun x7 =>
(O.sEq x7 (.str ⟨#[]⟩)).bind fun x8 =>
some x8) (some (.bool false))).bind fun x7 =>
(cnd x7 (
(O.proj 3 x0).bind fun x8 =>
(O.sEq x8 (.str ⟨#[]⟩)).bind fun x9 =>
some x9) (some (.bool false))).bind fun x8 =>
some [x8]) (
(O.eq x1 (.int 3)).bind fun x4 =>
(cnd x4 (
(O.proj 1 x0).bind fun x5 =>
calls (W F107 0 [x5]) 1 fun x6 =>
some x6) (some (.bool false))).bind fun x5 =>
(cnd x5 (
(O.proj 3 x0).bind fun x6 =>
calls (W F109 0 [x6]) 1 fun x7 =>
some x7) (some (.bool false))).bind fun x6 =>
(cnd x6 (
(O.proj 2 x0).bind fun x7 =>
(O.eq x7 (.int 0)).bind fun x8 =>
some x8) (some (.bool false))).bind fun x7 =>
some [x7])) := V_is rfl (by kernel_rfl)
theorem e_F107_0 (x0 : IV) : W F107 0 [x0] =
W F107 1 [x0, (.int 0)] := V_is rfl (by kernel_rfl)
theorem e_F107_1 (x0 x1 : IV) : W F107 1 [x0, x1] =
(O.slen x0).bind fun x2 =>
(O.lt x1 x2).bind fun x3 =>
cnd x3 (
(O.sindex x0 x1).bind fun x4 =>
calls (W F108 0 [x4]) 1 fun x5 =>
(O.not x5).bind fun x6 =>
cnd x6 (
some [(.bool false)]) (
(O.add .i64 x1 (.int 1)).bind fun x7 =>
W F107 1 [x0, x7])) (
(O.gt x2 (.int 0)).bind fun x4 =>
(cnd x4 (
(O.le x2 (.int 40)).bind fun x5 =>
some x5) (some (.bool false))).bind fun x5 =>
some [x5]) := V_is rfl (by kernel_rfl)
theorem e_F108_0 (x0 : IV) : W F108 0 [x0] =
(O.ge x0 (.int 97)).bind fun x1 =>
(cnd x1 (
(O.le x0 (.int 122)).bind fun x2 =>
some x2) (some (.bool false))).bind fun x2 =>
(cnd x2 (some (.bool true)) (
(O.ge x0 (.int 65)).bind fun x3 =>
(cnd x3 (
(O.le x0 (.int 90)).bind fun x4 =>
some x4) (some (.bool false))).bind fun x4 =>
some x4)).bind fun x3 =>
(cnd x3 (some (.bool true)) (
(O.ge x0 (.int 48)).bind fun x4 =>
(cnd x4 (
(O.le x0 (.int 57)).bind fun x5 =>
some x5) (some (.bool false))).bind fun x5 =>
some x5)).bind fun x4 =>
(cnd x4 (some (.bool true)) (
(O.eq x0 (.int 45)).bind fun x5 =>
some x5)).bind fun x5 =>
(cnd x5 (some (.bool true)) (
(O.eq x0 (.int 95)).bind fun x6 =>
some x6)).bind fun x6 =>
(cnd x6 (some (.bool true)) (
(O.eq x0 (.int 47)).bind fun x7 =>
some x7)).bind fun x7 =>
some [x7] := V_is rfl (by kernel_rfl)
theorem e_F109_0 (x0 : IV) : W F109 0 [x0] =
W F109 1 [x0, (.int 0)] := V_is rfl (by kernel_rfl)
theorem e_F109_1 (x0 x1 : IV) : W F109 1 [x0, x1] =
(O.slen x0).bind fun x2 =>
(O.lt x1 x2).bind fun x3 =>
cnd x3 (
(O.sindex x0 x1).bind fun x4 =>
(O.ne x4 (.int 10)).bind fun x5 =>
(cnd x5 (
(O.lt x4 (.int 32)).bind fun x6 =>
(cnd x6 (some (.bool true)) (
(O.gt x4 (.int 126)).bind fun x7 =>
some x7)).bind fun x7 =>
some x7) (some (.bool false))).bind fun x6 =>
cnd x6 (
some [(.bool false)]) (
(O.add .i64 x1 (.int 1)).bind fun x7 =>
W F109 1 [x0, x7])) (
(O.le x2 (.int 200)).bind fun x4 =>
some [x4]) := V_is rfl (by kernel_rfl)
theorem e_F120_0 (x0 x1 x2 : IV) : W F120 0 [x0, x1, x2] =
calls (W F1 0 [x0, (.int 60)]) 1 fun x3 =>
(O.ge x3 (.int 0)).bind fun x4 =>
(cnd x4 (
calls (W F2 0 [x1, (.int 150)]) 1 fun x5 =>
some x5) (some (.bool false))).bind fun x5 =>
(cnd x5 (
calls (W F2 0 [x2, (.int 150)]) 1 fun x6 =>
some x6) (some (.bool false))).bind fun x6 =>
some [x6] := V_is rfl (by kernel_rfl)
theorem e_F125_0 (x0 x1 : IV) : W F125 0 [x0, x1] =
calls (W F126 0 [x0, x1]) 1 fun x2 =>
(O.eq x2 (.int 0)).bind fun x3 =>
some [x3] := V_is rfl (by kernel_rfl)
theorem e_F126_0 (x0 x1 : IV) : W F126 0 [x0, x1] =
(O.proj 0 x0).bind fun x2 =>
(O.proj 0 x1).bind fun x3 =>
(O.lt x2 x3).bind fun x4 =>
(O.gt x2 x3).bind fun x5 =>
calls (W F127 0 [x4, x5]) 1 fun x6 =>
(O.eq x6 (.int 0)).bind fun x7 =>
cnd x7 (
(O.proj 1 x0).bind fun x8 =>
(O.proj 1 x1).bind fun x9 =>
(O.lt x8 x9).bind fun x10 =>
(O.gt x8 x9).bind fun x11 =>
calls (W F127 0 [x10, x11]) 1 fun x12 =>
W F126 1 [x12, x0, x1]) (
W F126 1 [x6, x0, x1]) := V_is rfl (by kernel_rfl)
theorem e_F126_1 (x0 x1 x2 : IV) : W F126 1 [x0, x1, x2] =
(O.eq x0 (.int 0)).bind fun x3 =>
cnd x3 (
(O.proj 2 x1).bind fun x4 =>
(O.proj 2 x2).bind fun x5 =>
(O.sLt x4 x5).bind fun x6 =>
(O.sGt x4 x5).bind fun x7 =>
calls (W F127 0 [x6, x7]) 1 fun x8 =>
W F126 2 [x8, x1, x2]) (
W F126 2 [x0, x1, x2]) := V_is rfl (by kernel_rfl)
theorem e_F126_2 (x0 x1 x2 : IV) : W F126 2 [x0, x1, x2] =
W F126 3 [x0, (.int 0), x1, x2] := V_is rfl (by kernel_rfl)
theorem e_F126_3 (x0 x1 x2 x3 : IV) : W F126 3 [x0, x1, x2, x3] =
(O.proj 3 x2).bind fun x4 =>
(O.len x4).bind fun x5 =>
(O.lt x1 x5).bind fun x6 =>
(cnd x6 (
(O.proj 3 x3).bind fun x7 =>
(O.len x7).bind fun x8 =>
(O.lt x1 x8).bind fun x9 =>
some x9) (some (.bool false))).bind fun x7 =>
(cnd x7 (
(O.eq x0 (.int 0)).bind fun x8 =>
some x8) (some (.bool false))).bind fun x8 =>
cnd x8 (
(O.index x4 x1).bind fun x9 =>
(O.proj 3 x3).bind fun x10 =>
(O.index x10 x1).bind fun x11 =>
calls (W F126 0 [x9, x11]) 1 fun x12 =>
(O.add .i64 x1 (.int 1)).bind fun x13 =>
W F126 3 [x12, x13, x2, x3]) (
(O.eq x0 (.int 0)).bind fun x9 =>
cnd x9 (
(O.proj 3 x3).bind fun x10 =>
(O.len x10).bind fun x11 =>
(O.lt x5 x11).bind fun x12 =>
(O.gt x5 x11).bind fun x13 =>
calls (W F127 0 [x12, x13]) 1 fun x14 =>
W F126 4 [x14, x2, x3]) (
W F126 4 [x0, x2, x3])) := V_is rfl (by kernel_rfl)
theorem e_F126_4 (x0 x1 x2 : IV) : W F126 4 [x0, x1, x2] =
W F126 5 [x0, (.int 0), x1, x2] := V_is rfl (by kernel_rfl)
theorem e_F126_5 (x0 x1 x2 x3 : IV) : W F126 5 [x0, x1, x2, x3] =
(O.proj 4 x2).bind fun x4 =>
(O.len x4).bind fun x5 =>
(O.lt x1 x5).bind fun x6 =>
(cnd x6 (
(O.proj 4 x3).bind fun x7 =>
(O.len x7).bind fun x8 =>
(O.lt x1 x8).bind fun x9 =>
some x9) (some (.bool false))).bind fun x7 =>
(cnd x7 (
(O.eq x0 (.int 0)).bind fun x8 =>
some x8) (some (.bool false))).bind fun x8 =>
cnd x8 (
(O.index x4 x1).bind fun x9 =>
(O.proj 0 x9).bind fun x10 =>
(O.proj 4 x3).bind fun x11 =>
(O.index x11 x1).bind fun x12 =>
(O.proj 0 x12).bind fun x13 =>
(O.sLt x10 x13).bind fun x14 =>
(O.sGt x10 x13).bind fun x15 =>
calls (W F127 0 [x14, x15]) 1 fun x16 =>
(O.eq x16 (.int 0)).bind fun x17 =>
cnd x17 (
(O.projs 1 5 x9).bind fun x18 =>
(O.projs 1 5 x12).bind fun x19 =>
calls (W F126 0 [x18, x19]) 1 fun x20 =>
W F126 6 [x20, x1, x2, x3]) (
W F126 6 [x16, x1, x2, x3])) (
(O.eq x0 (.int 0)).bind fun x9 =>
cnd x9 (
(O.proj 4 x3).bind fun x10 =>
(O.len x10).bind fun x11 =>
(O.lt x5 x11).bind fun x12 =>
(O.gt x5 x11).bind fun x13 =>
calls (W F127 0 [x12, x13]) 1 fun x14 =>
some [x14]) (
some [x0])) := V_is rfl (by kernel_rfl)
theorem e_F126_6 (x0 x1 x2 x3 : IV) : W F126 6 [x0, x1, x2, x3] =
(O.add .i64 x1 (.int 1)).bind fun x4 =>
W F126 5 [x0, x4, x2, x3] := V_is rfl (by kernel_rfl)
theorem e_F127_0 (x0 x1 : IV) : W F127 0 [x0, x1] =
cnd x0 (
some [(.int (-1))]) (
cnd x1 (
some [(.int 1)]) (
some [(.int 0)])) := V_is rfl (by kernel_rfl)
theorem e_F129_0 (x0 x1 : IV) : W F129 0 [x0, x1] =
calls (W F105 0 [x1]) 1 fun x2 =>
(O.not x2).bind fun x3 =>
cnd x3 (
(O.mkagg [(.int 0), (.int 0), (.str ⟨#[]⟩), (.list []), (.list [])]).bind fun x4 =>
some [x4, (.bool false)]) (
W F129 1 [x1, (.int 0), x0, (.int 0), (.int 0), (.str ⟨#[]⟩)]) := V_is rfl (by kernel_rfl)
theorem e_F129_1 (x0 x1 x2 x3 x4 x5 : IV) : W F129 1 [x0, x1, x2, x3, x4, x5] =
(O.len x0).bind fun x6 =>
(O.lt x1 x6).bind fun x7 =>
cnd x7 (
(O.index x0 x1).bind fun x8 =>
calls (W F130 0 [x2, x8]) 1 fun x9 =>
(O.lt x9 (.int 0)).bind fun x10 =>
cnd x10 (
(O.mkagg [(.int 0), (.int 0), (.str ⟨#[]⟩), (.list []), (.list [])]).bind fun x11 =>
some [x11, (.bool false)]) (
(O.proj 0 x8).bind fun x11 =>
(O.eq x11 (.int 1)).bind fun x12 =>
cnd x12 (
(O.proj 4 x2).bind fun x13 =>
(O.index x13 x9).bind fun x14 =>
(O.projs 1 5 x14).bind fun x15 =>
W F129 2 [x0, x1, x15, x3, x4, x5]) (
(O.proj 3 x2).bind fun x13 =>
(O.index x13 x9).bind fun x14 =>
W F129 2 [x0, x1, x14, x3, x4, x5]))) (
some [x2, (.bool true)]) := V_is rfl (by kernel_rfl)
theorem e_F129_2 (x0 x1 x2 x3 x4 x5 : IV) : W F129 2 [x0, x1, x2, x3, x4, x5] =
(O.add .i64 x1 (.int 1)).bind fun x6 =>
W F129 1 [x0, x6, x2, x3, x4, x5] := V_is rfl (by kernel_rfl)
theorem e_F130_0 (x0 x1 : IV) : W F130 0 [x0, x1] =
(O.proj 0 x1).bind fun x2 =>
(O.eq x2 (.int 1)).bind fun x3 =>
cnd x3 (
(O.proj 1 x1).bind fun x4 =>
calls (W F131 0 [x0, x4]) 1 fun x5 =>
some [x5]) (
(O.proj 0 x0).bind fun x4 =>
(O.ne x4 (.int 4)).bind fun x5 =>
cnd x5 (
some [(.int (-1))]) (
(O.eq x2 (.int 2)).bind fun x6 =>
cnd x6 (
(O.proj 2 x1).bind fun x7 =>
(O.proj 3 x0).bind fun x8 =>
(O.len x8).bind fun x9 =>
(O.lt x7 x9).bind fun x10 =>
cnd x10 (
some [x7]) (
some [(.int (-1))])) (
W F130 1 [(.int 0), x0, x1]))) := V_is rfl (by kernel_rfl)
theorem e_F130_1 (x0 x1 x2 : IV) : W F130 1 [x0, x1, x2] =
(O.proj 3 x1).bind fun x3 =>
(O.len x3).bind fun x4 =>
(O.lt x0 x4).bind fun x5 =>
cnd x5 (
(O.index x3 x0).bind fun x6 =>
(O.proj 1 x2).bind fun x7 =>
(O.proj 3 x2).bind fun x8 =>
calls (W F132 0 [x6, x7, x8]) 1 fun x9 =>
cnd x9 (
some [x0]) (
(O.add .i64 x0 (.int 1)).bind fun x10 =>
W F130 1 [x10, x1, x2])) (
some [(.int (-1))]) := V_is rfl (by kernel_rfl)
theorem e_F131_0 (x0 x1 : IV) : W F131 0 [x0, x1] =
W F131 1 [x1, (.int 0), x0] := V_is rfl (by kernel_rfl)
theorem e_F131_1 (x0 x1 x2 : IV) : W F131 1 [x0, x1, x2] =
(O.proj 4 x2).bind fun x3 =>
(O.len x3).bind fun x4 =>
(O.lt x1 x4).bind fun x5 =>
cnd x5 (
(O.proj 0 x2).bind fun x6 =>
(O.eq x6 (.int 5)).bind fun x7 =>
(cnd x7 (
(O.index x3 x1).bind fun x8 =>
(O.proj 0 x8).bind fun x9 =>
(O.sEq x9 x0).bind fun x10 =>
some x10) (some (.bool false))).bind fun x8 =>
cnd x8 (
some [x1]) (
(O.add .i64 x1 (.int 1)).bind fun x9 =>
W F131 1 [x0, x9, x2])) (
some [(.int (-1))]) := V_is rfl (by kernel_rfl)
theorem e_F132_0 (x0 x1 x2 : IV) : W F132 0 [x0, x1, x2] =
calls (W F131 0 [x0, x1]) 1 fun x3 =>
(O.ge x3 (.int 0)).bind fun x4 =>
(cnd x4 (
(O.proj 4 x0).bind fun x5 =>
(O.index x5 x3).bind fun x6 =>
(O.proj 1 x6).bind fun x7 =>
(O.eq x7 (.int 3)).bind fun x8 =>
some x8) (some (.bool false))).bind fun x5 =>
(cnd x5 (
(O.proj 4 x0).bind fun x6 =>
(O.index x6 x3).bind fun x7 =>
(O.proj 3 x7).bind fun x8 =>
(O.sEq x8 x2).bind fun x9 =>
some x9) (some (.bool false))).bind fun x6 =>
some [x6] := V_is rfl (by kernel_rfl)
theorem e_F150_0 (x0 x1 x2 : IV) : W F150 0 [x0, x1, x2] =
calls (W F10 0 [x0]) 1 fun x3 =>
(O.not x3).bind fun x4 =>
(cnd x4 (some (.bool true)) (
calls (W F15 0 [x1]) 1 fun x5 =>
(O.not x5).bind fun x6 =>
some x6)).bind fun x5 =>
(cnd x5 (some (.bool true)) (
calls (W F15 0 [x2]) 1 fun x6 =>
(O.not x6).bind fun x7 =>
some x7)).bind fun x6 =>
cnd x6 (
some [(.list [])]) (
calls (W F151 0 [(.list []), x0, x1, x2, (.list [])]) 1 fun x7 =>
calls (W F162 0 [x7]) 1 fun x8 =>
some [x8]) := V_is rfl (by kernel_rfl)
theorem e_F151_0 (x0 x1 x2 x3 x4 : IV) : W F151 0 [x0, x1, x2, x3, x4] =
(O.proj 0 x2).bind fun x5 =>
(O.proj 0 x1).bind fun x6 =>
(O.ne x5 x6).bind fun x7 =>
(cnd x7 (some (.bool true)) (
(O.proj 0 x3).bind fun x8 =>
(O.ne x8 x6).bind fun x9 =>
some x9)).bind fun x8 =>
cnd x8 (
some [x0]) (
(O.proj 4 x2).bind fun x9 =>
(O.len x9).bind fun x10 =>
W F151 1 [x4, x9, x10, (.int 0), x1, x2, x3, x0]) := V_is rfl (by kernel_rfl)
theorem e_F161 (x0 x1 x2 x3 x4 x5 x6 x7 : IV) : W F151 1 [x0, x1, x2, x3, x4, x5, x6, x7] =
(O.lt x3 x2).bind fun x8 =>
cnd x8 (
(O.index x1 x3).bind fun x9 =>
(O.proj 0 x9).bind fun x10 =>
calls (W F76 0 [x5, x10]) 6 fun x11 x12 x13 x14 x15 x16 =>
(O.not x16).bind fun x17 =>
cnd x17 (
W F151 2 [x0, x1, x2, x3, x4, x5, x6, x7]) (
calls (W F76 0 [x6, x10]) 6 fun x18 x19 x20 x21 x22 x23 =>
calls (W F75 0 [x10]) 1 fun x24 =>
calls (W F70 0 [x0, x24]) 1 fun x25 =>
calls (W F22 0 [x4, x10]) 2 fun x26 x27 =>
(cnd x27 (
(O.proj 2 x26).bind fun x28 =>
some x28) (some (.bool false))).bind fun x28 =>
cnd x28 (
(O.not x23).bind fun x29 =>
(cnd x29 (some (.bool true)) (
(O.mkagg [x11, x12, x13, x14, x15]).bind fun x30 =>
(O.mkagg [x18, x19, x20, x21, x22]).bind fun x31 =>
calls (W F152 0 [x30, x31]) 1 fun x32 =>
(O.not x32).bind fun x33 =>
some x33)).bind fun x30 =>
cnd x30 (
calls (W F46 0 [x7, x25, (.int 13)]) 1 fun x31 =>
W F151 3 [x0, x1, x2, x3, x4, x5, x6, x31]) (
W F151 3 [x0, x1, x2, x3, x4, x5, x6, x7])) (
(O.pick x23 x27 (.bool false)).bind fun x29 =>
cnd x29 (
(O.projs 4 7 x26).bind fun x30 =>
(O.mkagg [x11, x12, x13, x14, x15]).bind fun x31 =>
(O.mkagg [x18, x19, x20, x21, x22]).bind fun x32 =>
calls (W F151 0 [x7, x30, x31, x32, x25]) 1 fun x33 =>
W F151 3 [x0, x1, x2, x3, x4, x5, x6, x33]) (
(cnd x23 (
calls (W F73 0 [x4]) 1 fun x30 =>
some x30) (some (.bool false))).bind fun x30 =>
cnd x30 (
(O.proj 5 x4).bind fun x31 =>
(O.index x31 (.int 0)).bind fun x32 =>
(O.mkagg [x11, x12, x13, x14, x15]).bind fun x33 =>
(O.mkagg [x18, x19, x20, x21, x22]).bind fun x34 =>
calls (W F151 0 [x7, x32, x33, x34, x25]) 1 fun x35 =>
W F151 3 [x0, x1, x2, x3, x4, x5, x6, x35]) (
W F151 3 [x0, x1, x2, x3, x4, x5, x6, x7]))))) (
(O.proj 0 x4).bind fun x9 =>
(O.ne x9 (.int 4)).bind fun x10 =>
(cnd x10 (some (.bool true)) (
(O.proj 4 x4).bind fun x11 =>
(O.sEq x11 (.str ⟨#[]⟩)).bind fun x12 =>
some x12)).bind fun x11 =>
cnd x11 (
some [x7]) (
(O.proj 3 x5).bind fun x12 =>
(O.len x12).bind fun x13 =>
W F151 4 [x0, x12, x13, (.int 0), x4, x6, (.list []), x7])) := V_is rfl (by kernel_rfl)
theorem e_F151_2 (x0 x1 x2 x3 x4 x5 x6 x7 : IV) : W F151 2 [x0, x1, x2, x3, x4, x5, x6, x7] =
(O.add .i64 x3 (.int 1)).bind fun x8 =>
W F151 1 [x0, x1, x2, x8, x4, x5, x6, x7] := V_is rfl (by kernel_rfl)
theorem e_F151_3 (x0 x1 x2 x3 x4 x5 x6 x7 : IV) : W F151 3 [x0, x1, x2, x3, x4, x5, x6, x7] =
W F151 2 [x0, x1, x2, x3, x4, x5, x6, x7] := V_is rfl (by kernel_rfl)
theorem e_F151_4 (x0 x1 x2 x3 x4 x5 x6 x7 : IV) : W F151 4 [x0, x1, x2, x3, x4, x5, x6, x7] =
(O.lt x3 x2).bind fun x8 =>
cnd x8 (
(O.index x1 x3).bind fun x9 =>
(O.proj 4 x4).bind fun x10 =>
calls (W F68 0 [x9, x10]) 2 fun x11 x12 =>
(O.mget (.bool false) x6 x11).bind fun x13 =>
(O.mhas x6 x11).bind fun x14 =>
cnd x13 (
W F151 5 [x0, x1, x2, x3, x4, x5, x6, x7]) (
(O.mget (.bool false) x6 x11).bind fun x15 =>
(O.mhas x6 x11).bind fun x16 =>
(O.pick x15 (.bool true) x12).bind fun x17 =>
(O.mset x6 x11 x17).bind fun x18 =>
(O.proj 3 x5).bind fun x19 =>
calls (W F160 0 [x19, x4, x11]) 1 fun x20 =>
(cnd x12 (
(O.ge x20 (.int 0)).bind fun x21 =>
some x21) (some (.bool false))).bind fun x21 =>
cnd x21 (
(O.proj 5 x4).bind fun x22 =>
(O.index x22 (.int 0)).bind fun x23 =>
(O.index x19 x20).bind fun x24 =>
calls (W F67 0 [x4, x3, x9]) 1 fun x25 =>
calls (W F70 0 [x0, x25]) 1 fun x26 =>
calls (W F151 0 [x7, x23, x9, x24, x26]) 1 fun x27 =>
W F151 6 [x0, x1, x2, x3, x4, x5, x18, x27]) (
W F151 6 [x0, x1, x2, x3, x4, x5, x18, x7]))) (
some [x7]) := V_is rfl (by kernel_rfl)
theorem e_F151_5 (x0 x1 x2 x3 x4 x5 x6 x7 : IV) : W F151 5 [x0, x1, x2, x3, x4, x5, x6, x7] =
(O.add .i64 x3 (.int 1)).bind fun x8 =>
W F151 4 [x0, x1, x2, x8, x4, x5, x6, x7] := V_is rfl (by kernel_rfl)
theorem e_F151_6 (x0 x1 x2 x3 x4 x5 x6 x7 : IV) : W F151 6 [x0, x1, x2, x3, x4, x5, x6, x7] =
W F151 5 [x0, x1, x2, x3, x4, x5, x6, x7] := V_is rfl (by kernel_rfl)
theorem e_F152_0 (x0 x1 : IV) : W F152 0 [x0, x1] =
calls (W F153 0 [x0, x1]) 1 fun x2 =>
(O.eq x2 (.int 0)).bind fun x3 =>
some [x3] := V_is rfl (by kernel_rfl)
theorem e_F153_0 (x0 x1 : IV) : W F153 0 [x0, x1] =
(O.proj 0 x0).bind fun x2 =>
(O.proj 0 x1).bind fun x3 =>
calls (W F154 0 [x2, x3]) 1 fun x4 =>
(O.proj 1 x0).bind fun x5 =>
(O.proj 1 x1).bind fun x6 =>
calls (W F154 0 [x5, x6]) 1 fun x7 =>
(O.proj 2 x0).bind fun x8 =>
(O.proj 2 x1).bind fun x9 =>
calls (W F36 0 [x8, x9]) 1 fun x10 =>
(O.proj 3 x0).bind fun x11 =>
(O.proj 3 x1).bind fun x12 =>
calls (W F156 0 [x11, x12]) 1 fun x13 =>
(O.proj 4 x0).bind fun x14 =>
(O.proj 4 x1).bind fun x15 =>
calls (W F157 0 [x14, x15]) 1 fun x16 =>
(O.mklist [x4, x7, x10, x13, x16]).bind fun x17 =>
calls (W F159 0 [x17]) 1 fun x18 =>
some [x18] := V_is rfl (by kernel_rfl)
theorem e_F154_0 (x0 x1 : IV) : W F154 0 [x0, x1] =
calls (W F155 0 [x0]) 1 fun x2 =>
calls (W F155 0 [x1]) 1 fun x3 =>
cnd x2 (
cnd x3 (
some [(.int 0)]) (
some [(.int (-1))])) (
cnd x3 (
some [(.int 1)]) (
(O.lt x0 x1).bind fun x4 =>
cnd x4 (
some [(.int (-1))]) (
(O.gt x0 x1).bind fun x5 =>
cnd x5 (
some [(.int 1)]) (
some [(.int 0)])))) := V_is rfl (by kernel_rfl)
theorem e_F155_0 (x0 : IV) : W F155 0 [x0] =
(O.ne x0 x0).bind fun x1 =>
some [x1] := V_is rfl (by kernel_rfl)
theorem e_F156_0 (x0 x1 : IV) : W F156 0 [x0, x1] =
(O.len x0).bind fun x2 =>
W F156 1 [x0, x1, x0, x2, (.int 0)] := V_is rfl (by kernel_rfl)
theorem e_F156_1 (x0 x1 x2 x3 x4 : IV) : W F156 1 [x0, x1, x2, x3, x4] =
(O.lt x4 x3).bind fun x5 =>
cnd x5 (
(O.index x2 x4).bind fun x6 =>
(O.len x1).bind fun x7 =>
(O.ge x4 x7).bind fun x8 =>
cnd x8 (
some [(.int 1)]) (
(O.index x1 x4).bind fun x9 =>
calls (W F153 0 [x6, x9]) 1 fun x10 =>
(O.ne x10 (.int 0)).bind fun x11 =>
cnd x11 (
some [x10]) (
(O.add .i64 x4 (.int 1)).bind fun x12 =>
W F156 1 [x0, x1, x2, x3, x12]))) (
(O.len x0).bind fun x6 =>
(O.len x1).bind fun x7 =>
(O.lt x6 x7).bind fun x8 =>
cnd x8 (
some [(.int (-1))]) (
some [(.int 0)])) := V_is rfl (by kernel_rfl)
theorem e_F157_0 (x0 x1 : IV) : W F157 0 [x0, x1] =
(O.len x0).bind fun x2 =>
W F157 1 [x0, x1, x0, x2, (.int 0)] := V_is rfl (by kernel_rfl)
theorem e_F157_1 (x0 x1 x2 x3 x4 : IV) : W F157 1 [x0, x1, x2, x3, x4] =
(O.lt x4 x3).bind fun x5 =>
cnd x5 (
(O.index x2 x4).bind fun x6 =>
(O.len x1).bind fun x7 =>
(O.ge x4 x7).bind fun x8 =>
cnd x8 (
some [(.int 1)]) (
(O.index x1 x4).bind fun x9 =>
calls (W F158 0 [x6, x9]) 1 fun x10 =>
(O.ne x10 (.int 0)).bind fun x11 =>
cnd x11 (
some [x10]) (
(O.add .i64 x4 (.int 1)).bind fun x12 =>
W F157 1 [x0, x1, x2, x3, x12]))) (
(O.len x0).bind fun x6 =>
(O.len x1).bind fun x7 =>
(O.lt x6 x7).bind fun x8 =>
cnd x8 (
some [(.int (-1))]) (
some [(.int 0)])) := V_is rfl (by kernel_rfl)
theorem e_F158_0 (x0 x1 : IV) : W F158 0 [x0, x1] =
(O.proj 0 x0).bind fun x2 =>
(O.proj 0 x1).bind fun x3 =>
calls (W F36 0 [x2, x3]) 1 fun x4 =>
(O.projs 1 5 x0).bind fun x5 =>
(O.projs 1 5 x1).bind fun x6 =>
calls (W F153 0 [x5, x6]) 1 fun x7 =>
(O.mklist [x4, x7]).bind fun x8 =>
calls (W F159 0 [x8]) 1 fun x9 =>
some [x9] := V_is rfl (by kernel_rfl)
theorem e_F159_0 (x0 : IV) : W F159 0 [x0] =
(O.len x0).bind fun x1 =>
W F159 1 [(.int 0), x0, x1, (.int 0)] := V_is rfl (by kernel_rfl)
theorem e_F159_1 (x0 x1 x2 x3 : IV) : W F159 1 [x0, x1, x2, x3] =
(O.lt x3 x2).bind fun x4 =>
cnd x4 (
(O.index x1 x3).bind fun x5 =>
(O.ne x5 x0).bind fun x6 =>
cnd x6 (
some [x5]) (
(O.add .i64 x3 (.int 1)).bind fun x7 =>
W F159 1 [x0, x1, x2, x7])) (
some [x0]) := V_is rfl (by kernel_rfl)
theorem e_F160_0 (x0 x1 x2 : IV) : W F160 0 [x0, x1, x2] =
(O.len x0).bind fun x3 =>
W F160 1 [x0, x1, x2, x3, (.int 0)] := V_is rfl (by kernel_rfl)
theorem e_F160_1 (x0 x1 x2 x3 x4 : IV) : W F160 1 [x0, x1, x2, x3, x4] =
(O.lt x4 x3).bind fun x5 =>
cnd x5 (
(O.index x0 x4).bind fun x6 =>
calls (W F161 0 [x6, x1, x2]) 1 fun x7 =>
cnd x7 (
some [x4]) (
(O.add .i64 x4 (.int 1)).bind fun x8 =>
W F160 1 [x0, x1, x2, x3, x8])) (
some [(.int (-1))]) := V_is rfl (by kernel_rfl)
theorem e_F161_0 (x0 x1 x2 : IV) : W F161 0 [x0, x1, x2] =
(O.proj 4 x1).bind fun x3 =>
calls (W F68 0 [x0, x3]) 2 fun x4 x5 =>
(cnd x5 (
(O.sEq x4 x2).bind fun x6 =>
some x6) (some (.bool false))).bind fun x6 =>
some [x6] := V_is rfl (by kernel_rfl)
theorem e_F165_0 (x0 x1 : IV) : W F165 0 [x0, x1] =
(O.proj 0 x0).bind fun x2 =>
(O.proj 0 x1).bind fun x3 =>
calls (W F36 0 [x2, x3]) 1 fun x4 =>
some [x4] := V_is rfl (by kernel_rfl)
theorem e_F172_0 (x0 x1 x2 : IV) : W F172 0 [x0, x1, x2] =
calls (W F120 0 [x0, x1, x2]) 1 fun x3 =>
(O.not x3).bind fun x4 =>
cnd x4 (
calls (W F4 0 []) 1 fun x5 =>
some [x5]) (
calls (W F150 0 [x0, x1, x1]) 1 fun x5 =>
(O.len x5).bind fun x6 =>
(O.gt x6 (.int 0)).bind fun x7 =>
cnd x7 (
some [(.bool false)]) (
calls (W F150 0 [x0, x1, x2]) 1 fun x8 =>
W F172 1 [(.int 0), x1, x2, x8])) := V_is rfl (by kernel_rfl)
theorem e_F172_1 (x0 x1 x2 x3 : IV) : W F172 1 [x0, x1, x2, x3] =
(O.len x3).bind fun x4 =>
(O.lt x0 x4).bind fun x5 =>
cnd x5 (
(O.index x3 x0).bind fun x6 =>
(O.proj 0 x6).bind fun x7 =>
calls (W F173 0 [x7]) 2 fun x8 x9 =>
calls (W F129 0 [x1, x8]) 2 fun x10 x11 =>
calls (W F129 0 [x2, x8]) 2 fun x12 x13 =>
(O.proj 1 x6).bind fun x14 =>
(O.ne x14 (.int 13)).bind fun x15 =>
(cnd x15 (some (.bool true)) (
(O.ne x9 (.int 0)).bind fun x16 =>
some x16)).bind fun x16 =>
(cnd x16 (some (.bool true)) (
(O.not x11).bind fun x17 =>
some x17)).bind fun x17 =>
(cnd x17 (some (.bool true)) (
(cnd x13 (
calls (W F125 0 [x10, x12]) 1 fun x18 =>
some x18) (some (.bool false))).bind fun x18 =>
some x18)).bind fun x18 =>
cnd x18 (
some [(.bool false)]) (
(O.add .i64 x0 (.int 1)).bind fun x19 =>
W F172 1 [x19, x1, x2, x3])) (
calls (W F4 0 []) 1 fun x6 =>
some [x6]) := V_is rfl (by kernel_rfl)
theorem e_F173_0 (x0 : IV) : W F173 0 [x0] =
(O.slen x0).bind fun x1 =>
(O.gt x1 (.int 20000)).bind fun x2 =>
cnd x2 (
some [(.list []), (.int 4)]) (
W F173 1 [x0, (.int 0), (.list [])]) := V_is rfl (by kernel_rfl)
theorem e_F173_1 (x0 x1 x2 : IV) : W F173 1 [x0, x1, x2] =
(O.slen x0).bind fun x3 =>
(O.lt x1 x3).bind fun x4 =>
cnd x4 (
calls (W F174 0 [x0, x1]) 1 fun x5 =>
(O.proj 5 x5).bind fun x6 =>
cnd x6 (
some [(.list []), (.int 2)]) (
(O.projs 0 4 x5).bind fun x7 =>
(O.mklist [x7]).bind fun x8 =>
(O.append 48 x2 x8).bind fun x9 =>
(O.proj 4 x5).bind fun x10 =>
W F173 1 [x0, x10, x9])) (
calls (W F105 0 [x2]) 1 fun x5 =>
(O.not x5).bind fun x6 =>
cnd x6 (
some [(.list []), (.int 1)]) (
some [x2, (.int 0)])) := V_is rfl (by kernel_rfl)
theorem e_F174_0 (x0 x1 : IV) : W F174 0 [x0, x1] =
(O.sindex x0 x1).bind fun x2 =>
(O.eq x2 (.int 91)).bind fun x3 =>
cnd x3 (
calls (W F175 0 [x0, x1]) 1 fun x4 =>
some [x4]) (
(O.gt x1 (.int 0)).bind fun x4 =>
cnd x4 (
(O.ne x2 (.int 46)).bind fun x5 =>
cnd x5 (
(O.mkagg [(.int 0), (.str ⟨#[]⟩), (.int 0), (.str ⟨#[]⟩), (.int 0), (.bool true)]).bind fun x6 =>
some [x6]) (
(O.add .i64 x1 (.int 1)).bind fun x6 =>
W F174 1 [x0, x6, (.int 0), (.str ⟨#[]⟩), (.int 0), (.str ⟨#[]⟩), (.int 0), (.bool false)])) (
W F174 1 [x0, x1, (.int 0), (.str ⟨#[]⟩), (.int 0), (.str ⟨#[]⟩), (.int 0), (.bool false)])) := V_is rfl (by kernel_rfl)
theorem e_F174_1 (x0 x1 x2 x3 x4 x5 x6 x7 : IV) : W F174 1 [x0, x1, x2, x3, x4, x5, x6, x7] =
calls (W F176 0 [x0, x1]) 1 fun x8 =>
(O.sslice x0 x1 x8).bind fun x9 =>
(O.eq x8 x1).bind fun x10 =>
(O.mkagg [(.int 1), x9, (.int 0), (.str ⟨#[]⟩), x8, x10]).bind fun x11 =>
some [x11] := V_is rfl (by kernel_rfl)
theorem e_F175_0 (x0 x1 : IV) : W F175 0 [x0, x1] =
(O.add .i64 x1 (.int 1)).bind fun x2 =>
calls (W F176 0 [x0, x2]) 1 fun x3 =>
(O.slen x0).bind fun x4 =>
(O.ge x3 x4).bind fun x5 =>
(cnd x5 (some (.bool true)) (
(O.add .i64 x1 (.int 1)).bind fun x6 =>
(O.eq x3 x6).bind fun x7 =>
some x7)).bind fun x6 =>
cnd x6 (
(O.mkagg [(.int 0), (.str ⟨#[]⟩), (.int 0), (.str ⟨#[]⟩), (.int 0), (.bool true)]).bind fun x7 =>
some [x7]) (
(O.add .i64 x1 (.int 1)).bind fun x7 =>
(O.sslice x0 x7 x3).bind fun x8 =>
(O.sindex x0 x3).bind fun x9 =>
(O.eq x9 (.int 93)).bind fun x10 =>
cnd x10 (
calls (W F177 0 [x8]) 1 fun x11 =>
(O.add .i64 x3 (.int 1)).bind fun x12 =>
calls (W F178 0 [x8]) 1 fun x13 =>
(O.not x13).bind fun x14 =>
(O.mkagg [(.int 2), (.str ⟨#[]⟩), x11, (.str ⟨#[]⟩), x12, x14]).bind fun x15 =>
some [x15]) (
(O.ne x9 (.int 61)).bind fun x11 =>
cnd x11 (
(O.mkagg [(.int 0), (.str ⟨#[]⟩), (.int 0), (.str ⟨#[]⟩), (.int 0), (.bool true)]).bind fun x12 =>
some [x12]) (
(O.add .i64 x3 (.int 1)).bind fun x12 =>
calls (W F179 0 [x0, x12]) 3 fun x13 x14 x15 =>
(O.not x15).bind fun x16 =>
(cnd x16 (some (.bool true)) (
(O.ge x14 x4).bind fun x17 =>
some x17)).bind fun x17 =>
(cnd x17 (some (.bool true)) (
(O.sindex x0 x14).bind fun x18 =>
(O.ne x18 (.int 93)).bind fun x19 =>
some x19)).bind fun x18 =>
cnd x18 (
(O.mkagg [(.int 0), (.str ⟨#[]⟩), (.int 0), (.str ⟨#[]⟩), (.int 0), (.bool true)]).bind fun x19 =>
some [x19]) (
(O.add .i64 x14 (.int 1)).bind fun x19 =>
(O.mkagg [(.int 3), x8, (.int 0), x13, x19, (.bool false)]).bind fun x20 =>
some [x20])))) := V_is rfl (by kernel_rfl)
theorem e_F176_0 (x0 x1 : IV) : W F176 0 [x0, x1] =
W F176 1 [x0, x1] := V_is rfl (by kernel_rfl)
theorem e_F176_1 (x0 x1 : IV) : W F176 1 [x0, x1] =
(O.slen x0).bind fun x2 =>
(O.lt x1 x2).bind fun x3 =>
(cnd x3 (
(O.sindex x0 x1).bind fun x4 =>
calls (W F108 0 [x4]) 1 fun x5 =>
some x5) (some (.bool false))).bind fun x4 =>
cnd x4 (
(O.add .i64 x1 (.int 1)).bind fun x5 =>
W F176 1 [x0, x5]) (
some [x1]) := V_is rfl (by kernel_rfl)
theorem e_F177_0 (x0 : IV) : W F177 0 [x0] =
W F177 1 [x0, (.int 0), (.int 0)] := V_is rfl (by kernel_rfl)
theorem e_F177_1 (x0 x1 x2 : IV) : W F177 1 [x0, x1, x2] =
(O.slen x0).bind fun x3 =>
(O.lt x2 x3).bind fun x4 =>
(cnd x4 (
(O.lt x1 (.int 65)).bind fun x5 =>
some x5) (some (.bool false))).bind fun x5 =>
cnd x5 (
(O.mul .i64 (.int 10) x1).bind fun x6 =>
(O.sindex x0 x2).bind fun x7 =>
(O.sub .u8 x7 (.int 48)).bind fun x8 =>
(O.conv .i64 x8).bind fun x9 =>
(O.add .i64 x6 x9).bind fun x10 =>
(O.add .i64 x2 (.int 1)).bind fun x11 =>
W F177 1 [x0, x10, x11]) (
(O.gt x1 (.int 65)).bind fun x6 =>
cnd x6 (
some [(.int 65)]) (
some [x1])) := V_is rfl (by kernel_rfl)
theorem e_F178_0 (x0 : IV) : W F178 0 [x0] =
W F178 1 [x0, (.int 0)] := V_is rfl (by kernel_rfl)
theorem e_F178_1 (x0 x1 : IV) : W F178 1 [x0, x1] =
(O.slen x0).bind fun x2 =>
(O.lt x1 x2).bind fun x3 =>
cnd x3 (
(O.sindex x0 x1).bind fun x4 =>
(O.lt x4 (.int 48)).bind fun x5 =>
(cnd x5 (some (.bool true)) (
(O.gt x4 (.int 57)).bind fun x6 =>
some x6)).bind fun x6 =>
cnd x6 (
some [(.bool false)]) (
(O.add .i64 x1 (.int 1)).bind fun x7 =>
W F178 1 [x0, x7])) (
(O.eq x2 (.int 1)).bind fun x4 =>
(cnd x4 (some (.bool true)) (
(O.gt x2 (.int 1)).bind fun x5 =>
(cnd x5 (
(O.sindex x0 (.int 0)).bind fun x6 =>
(O.ne x6 (.int 48)).bind fun x7 =>
some x7) (some (.bool false))).bind fun x6 =>
some x6)).bind fun x5 =>
some [x5]) := V_is rfl (by kernel_rfl)
theorem e_F179_0 (x0 x1 : IV) : W F179 0 [x0, x1] =
(O.slen x0).bind fun x2 =>
(O.ge x1 x2).bind fun x3 =>
(cnd x3 (some (.bool true)) (
(O.sindex x0 x1).bind fun x4 =>
(O.ne x4 (.int 34)).bind fun x5 =>
some x5)).bind fun x4 =>
cnd x4 (
some [(.str ⟨#[]⟩), (.int 0), (.bool false)]) (
(O.add .i64 x1 (.int 1)).bind fun x5 =>
W F179 1 [x0, x5, (.str ⟨#[]⟩)]) := V_is rfl (by kernel_rfl)
theorem e_F179_1 (x0 x1 x2 : IV) : W F179 1 [x0, x1, x2] =
(O.slen x0).bind fun x3 =>
(O.lt x1 x3).bind fun x4 =>
(cnd x4 (
(O.sindex x0 x1).bind fun x5 =>
(O.ne x5 (.int 34)).bind fun x6 =>
some x6) (some (.bool false))).bind fun x5 =>
cnd x5 (
(O.sindex x0 x1).bind fun x6 =>
(O.lt x6 (.int 32)).bind fun x7 =>
(cnd x7 (some (.bool true)) (
(O.gt x6 (.int 126)).bind fun x8 =>
some x8)).bind fun x8 =>
cnd x8 (
some [(.str ⟨#[]⟩), (.int 0), (.bool false)]) (
(O.ne x6 (.int 92)).bind fun x9 =>
cnd x9 (
(O.add .i64 x1 (.int 1)).bind fun x10 =>
(O.sslice x0 x1 x10).bind fun x11 =>
(O.cat x2 x11).bind fun x12 =>
(O.add .i64 x1 (.int 1)).bind fun x13 =>
W F179 2 [x0, x13, x12]) (
(O.add .i64 x1 (.int 1)).bind fun x10 =>
(O.ge x10 x3).bind fun x11 =>
(cnd x11 (some (.bool true)) (
(O.add .i64 x1 (.int 1)).bind fun x12 =>
(O.sindex x0 x12).bind fun x13 =>
(O.ne x13 (.int 34)).bind fun x14 =>
(cnd x14 (
(O.add .i64 x1 (.int 1)).bind fun x15 =>
(O.sindex x0 x15).bind fun x16 =>
(O.ne x16 (.int 92)).bind fun x17 =>
some x17) (some (.bool false))).bind fun x15 =>
(cnd x15 (
(O.add .i64 x1 (.int 1)).bind fun x16 =>
(O.sindex x0 x16).bind fun x17 =>
(O.ne x17 (.int 110)).bind fun x18 =>
some x18) (some (.bool false))).bind fun x16 =>
some x16)).bind fun x12 =>
cnd x12 (
some [(.str ⟨#[]⟩), (.int 0), (.bool false)]) (
(O.add .i64 x1 (.int 1)).bind fun x13 =>
(O.sindex x0 x13).bind fun x14 =>
(O.eq x14 (.int 110)).bind fun x15 =>
cnd x15 (
(O.cat x2 (.str ⟨#[10]⟩)).bind fun x16 =>
W F179 3 [x0, x1, x16]) (
(O.add .i64 x1 (.int 1)).bind fun x16 =>
(O.add .i64 x1 (.int 2)).bind fun x17 =>
(O.sslice x0 x16 x17).bind fun x18 =>
(O.cat x2 x18).bind fun x19 =>
W F179 3 [x0, x1, x19]))))) (
(O.add .i64 x1 (.int 1)).bind fun x6 =>
(O.lt x1 x3).bind fun x7 =>
some [x2, x6, x7]) := V_is rfl (by kernel_rfl)
theorem e_F179_2 (x0 x1 x2 : IV) : W F179 2 [x0, x1, x2] =
W F179 1 [x0, x1, x2] := V_is rfl (by kernel_rfl)
theorem e_F179_3 (x0 x1 x2 : IV) : W F179 3 [x0, x1, x2] =
(O.add .i64 x1 (.int 2)).bind fun x3 =>
W F179 2 [x0, x3, x2] := V_is rfl (by kernel_rfl)
theorem mixed : Tryz.prog.follows .mixedOrders = true := by kernel_rfl
theorem numbers : numbersOk specs = true := by kernel_rfl
theorem pr_ok : ∀ i s f, (i, s) ∈ specs → pr i = some f → PrimOk Tryz.prog f s := by
 intro i s f hm hp
 have hs := lookS_mem numbers hm
 unfold pr at hp
 split at hp
 ·injection hp with hp; subst hp; have he := hs.symm.trans (show lookS 31 specs = some ⟨135, [.data 31], [.cells 31 [true]], true⟩ by kernel_rfl); injection he with he; subst he
  exact clone_ok mixed (e := 70) (fn := fnAt Tryz.prog 135) (root := rootAt Tryz.prog 135) (rest := restAt Tryz.prog 135) ⟨by kernel_rfl, by kernel_rfl, by kernel_rfl, by kernel_rfl, by kernel_rfl, of_decide_eq_true (by kernel_rfl), by kernel_rfl, by kernel_rfl, by kernel_rfl, by kernel_rfl, 96, by kernel_rfl, of_decide_eq_true (by kernel_rfl)⟩
 ·injection hp with hp; subst hp; have he := hs.symm.trans (show lookS 38 specs = some ⟨199, [.data 9, .data 9], [.whole 3], false⟩ by kernel_rfl); injection he with he; subst he
  exact compare_ok (fn := fnAt Tryz.prog 199) (ts := 9) (ti := 3) (by kernel_rfl) (by kernel_rfl) (by kernel_rfl) (by kernel_rfl) (by kernel_rfl) (by kernel_rfl) (by kernel_rfl)
 ·injection hp with hp; subst hp; have he := hs.symm.trans (show lookS 43 specs = some ⟨190, [.data 30], [.cells 30 [true]], true⟩ by kernel_rfl); injection he with he; subst he
  exact clone_ok mixed (e := 33) (fn := fnAt Tryz.prog 190) (root := rootAt Tryz.prog 190) (rest := restAt Tryz.prog 190) ⟨by kernel_rfl, by kernel_rfl, by kernel_rfl, by kernel_rfl, by kernel_rfl, of_decide_eq_true (by kernel_rfl), by kernel_rfl, by kernel_rfl, by kernel_rfl, by kernel_rfl, 80, by kernel_rfl, of_decide_eq_true (by kernel_rfl)⟩
 ·injection hp with hp; subst hp; have he := hs.symm.trans (show lookS 56 specs = some ⟨233, [.bld 176 true], [], false⟩ by kernel_rfl); injection he with he; subst he
  exact copyCheck_ok chkLays chkExtra (by kernel_rfl) (by kernel_rfl)
 ·injection hp with hp; subst hp; have he := hs.symm.trans (show lookS 57 specs = some ⟨209, [.data 3], [.whole 9], false⟩ by kernel_rfl); injection he with he; subst he
  exact itoa_ok Tryz.lays171 (by kernel_rfl) (by kernel_rfl) (by kernel_rfl)
 ·injection hp with hp; subst hp; have he := hs.symm.trans (show lookS 60 specs = some ⟨211, [.bld 176 false], [.whole 9], false⟩ by kernel_rfl); injection he with he; subst he
  exact string_ok Tryz.lays169 Tryz.extra (by kernel_rfl) (by kernel_rfl) (by kernel_rfl) (by kernel_rfl)
 ·injection hp with hp; subst hp; have he := hs.symm.trans (show lookS 63 specs = some ⟨262, [.data 174, .data 21], [.cells 174 [true]], false⟩ by kernel_rfl); injection he with he; subst he
  exact none_ok
 ·injection hp with hp; subst hp; have he := hs.symm.trans (show lookS 71 specs = some ⟨195, [.data 39], [.cells 39 [true]], false⟩ by kernel_rfl); injection he with he; subst he
  exact clone_ok mixed (e := 74) (fn := fnAt Tryz.prog 195) (root := rootAt Tryz.prog 195) (rest := restAt Tryz.prog 195) ⟨by kernel_rfl, by kernel_rfl, by kernel_rfl, by kernel_rfl, by kernel_rfl, of_decide_eq_true (by kernel_rfl), by kernel_rfl, by kernel_rfl, by kernel_rfl, by kernel_rfl, 48, by kernel_rfl, of_decide_eq_true (by kernel_rfl)⟩
 ·injection hp with hp; subst hp; have he := hs.symm.trans (show lookS 72 specs = some ⟨194, [.own 39], [.clip 39], true⟩ by kernel_rfl); injection he with he; subst he
  exact clip_ok (fn := fnAt Tryz.prog 194) (e := 74) (by kernel_rfl) (by kernel_rfl) (by kernel_rfl) (by kernel_rfl) clip_walk194
 ·injection hp with hp; subst hp; have he := hs.symm.trans (show lookS 84 specs = some ⟨126, [.data 22], [.cells 22 [true]], false⟩ by kernel_rfl); injection he with he; subst he
  exact clone_ok mixed (e := 9) (fn := fnAt Tryz.prog 126) (root := rootAt Tryz.prog 126) (rest := restAt Tryz.prog 126) ⟨by kernel_rfl, by kernel_rfl, by kernel_rfl, by kernel_rfl, by kernel_rfl, of_decide_eq_true (by kernel_rfl), by kernel_rfl, by kernel_rfl, by kernel_rfl, by kernel_rfl, 16, by kernel_rfl, of_decide_eq_true (by kernel_rfl)⟩
 ·injection hp with hp; subst hp; have he := hs.symm.trans (show lookS 85 specs = some ⟨127, [.data 23], [.cells 23 [true]], true⟩ by kernel_rfl); injection he with he; subst he
  exact clone_ok mixed (e := 26) (fn := fnAt Tryz.prog 127) (root := rootAt Tryz.prog 127) (rest := restAt Tryz.prog 127) ⟨by kernel_rfl, by kernel_rfl, by kernel_rfl, by kernel_rfl, by kernel_rfl, of_decide_eq_true (by kernel_rfl), by kernel_rfl, by kernel_rfl, by kernel_rfl, by kernel_rfl, 112, by kernel_rfl, of_decide_eq_true (by kernel_rfl)⟩
 ·injection hp with hp; subst hp; have he := hs.symm.trans (show lookS 86 specs = some ⟨128, [.data 24], [.cells 24 [true]], true⟩ by kernel_rfl); injection he with he; subst he
  exact clone_ok mixed (e := 64) (fn := fnAt Tryz.prog 128) (root := rootAt Tryz.prog 128) (rest := restAt Tryz.prog 128) ⟨by kernel_rfl, by kernel_rfl, by kernel_rfl, by kernel_rfl, by kernel_rfl, of_decide_eq_true (by kernel_rfl), by kernel_rfl, by kernel_rfl, by kernel_rfl, by kernel_rfl, 160, by kernel_rfl, of_decide_eq_true (by kernel_rfl)⟩
 ·cases hp
theorem soundW : ∀ k, Sound Tryz.prog specs (run (tab Tryz.prog specs blks 3000) pr k) := sound_tab mixed numbers (by kernel_rfl) pr_ok
end Go.CT.Sch
