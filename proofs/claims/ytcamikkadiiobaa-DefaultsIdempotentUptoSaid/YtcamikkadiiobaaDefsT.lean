import Derived.Test.YtcamikkadiiobaaCtC
import Derived.Test.YtcamikkadiiobaaRows
namespace Go.CT.Defs
open Go.Proofs
/-- orchestrator/orchestratorlaw08.DefaultsFill [.data 53, .data 57] → [.whole 4] -/
def f_law08_DefaultsFill : Nat := 0
/-- orchestrator/orchestratorlaw08.fits [.data 53, .data 57] → [.whole 4] -/
def f_law08_fits : Nat := 1
/-- orchestrator/orchestratorref08.Size [.data 53, .data 3] → [.whole 3] -/
def f_ref08_Size : Nat := 2
/-- orchestrator/orchestratorref07.Valid [.data 53] → [.whole 4] -/
def f_ref07_Valid : Nat := 3
/-- orchestrator/orchestratorref07.valid [.data 53, .data 3] → [.whole 4] -/
def f_ref07_valid : Nat := 4
/-- orchestrator/orchestratorref07.plain [.data 53] → [.whole 4] -/
def f_ref07_plain : Nat := 5
/-- orchestrator/orchestratorref07.text [.data 53] → [.whole 4] -/
def f_ref07_text : Nat := 6
/-- orchestrator/orchestratorref04.ValidString [.data 9] → [.whole 4] -/
def f_ref04_ValidString : Nat := 7
/-- orchestrator/orchestratorref07.list [.data 53, .data 3] → [.whole 4] -/
def f_ref07_list : Nat := 8
/-- orchestrator/orchestratorref07.field [.data 53, .data 9] → [.whole 109, .whole 4] -/
def f_ref07_field : Nat := 9
/-- orchestrator/orchestratorref07.structure [.data 53, .data 3] → [.whole 4] -/
def f_ref07_structure : Nat := 10
/-- orchestrator/orchestratorref04.ValidField [.data 9] → [.whole 4] -/
def f_ref04_ValidField : Nat := 11
/-- orchestrator/orchestratorref04.Valid [.data 57] → [.whole 4] -/
def f_ref04_Valid : Nat := 12
/-- orchestrator/orchestratorref04.valid [.data 57, .data 3] → [.whole 4] -/
def f_ref04_valid : Nat := 13
/-- orchestrator/orchestratorref04.scalar [.data 57] → [.whole 4] -/
def f_ref04_scalar : Nat := 14
/-- orchestrator/orchestratorref04.Size [.data 57] → [.whole 3] -/
def f_ref04_Size : Nat := 15
/-- orchestrator/orchestratorref07.errors [.data 53, .data 57, .data 171] → [.cells 165 [true]] -/
def f_ref07_errors : Nat := 16
/-- orchestrator/orchestratorref07.at [.data 171, .data 69] → [.cells 165 [true]] -/
def f_ref07_at : Nat := 17
/-- orchestrator/orchestratorref06.Print [.data 171] → [.whole 9, .whole 69] -/
def f_ref06_Print : Nat := 18
/-- orchestrator/orchestratorref06.Valid [.data 171] → [.whole 4] -/
def f_ref06_Valid : Nat := 19
/-- orchestrator/orchestratorref06.validStep [.data 180] → [.whole 4] -/
def f_ref06_validStep : Nat := 20
/-- orchestrator/orchestratorref06.validName [.data 9] → [.whole 4] -/
def f_ref06_validName : Nat := 21
/-- orchestrator/orchestratorref06.NameChar [.data 5] → [.whole 4] -/
def f_ref06_NameChar : Nat := 22
/-- orchestrator/orchestratorref06.validString [.data 9] → [.whole 4] -/
def f_ref06_validString : Nat := 23
/-- orchestrator/orchestratorref06.decimal [.data 3] → [.whole 9] -/
def f_ref06_decimal : Nat := 24
/-- orchestrator/orchestratorref06.quote [.data 9] → [.whole 9] -/
def f_ref06_quote : Nat := 25
/-- orchestrator/orchestratorref07.elements [.data 53, .data 57, .data 171] → [.cells 165 [true]] -/
def f_ref07_elements : Nat := 26
/-- orchestrator/orchestratorref07.Element [.data 53, .data 54, .data 3] → [.whole 180] -/
def f_ref07_Element : Nat := 27
/-- orchestrator/orchestratorref07.KeyOf [.data 57, .data 9] → [.whole 9, .whole 4] -/
def f_ref07_KeyOf : Nat := 28
/-- orchestrator/orchestratorref04.Get [.data 57, .data 9] → [.cells 57 [false, false, false, true, true], .whole 4] -/
def f_ref04_Get : Nat := 29
/-- orchestrator/orchestratorref04.Copy [.data 57] → [.cells 57 [false, false, false, true, true]] -/
def f_ref04_Copy : Nat := 30
/-- orchestrator/orchestratorref07.Then [.data 171, .data 180] → [.cells 171 [true]] -/
def f_ref07_Then : Nat := 31
/-- orchestrator/orchestratorref07.members [.data 53, .data 57, .data 171] → [.cells 165 [true]] -/
def f_ref07_members : Nat := 32
/-- orchestrator/orchestratorref07.Present [.data 57, .data 9] → [.cells 57 [false, false, false, true, true], .whole 4] -/
def f_ref07_Present : Nat := 33
/-- orchestrator/orchestratorref04.Small [.data 57, .data 3] → [.whole 4] -/
def f_ref04_Small : Nat := 34
/-- orchestrator/orchestratorref04.count [.data 57, .data 3, .data 3] → [.whole 3] -/
def f_ref04_count : Nat := 35
/-- orchestrator/orchestratorlaw08.lives [] → [.whole 4] -/
def f_law08_lives : Nat := 36
/-- orchestrator/orchestratorref04.Map [.data 55] → [.cells 57 [false, false, false, true, true]] -/
def f_ref04_Map : Nat := 37
/-- orchestrator/orchestratorref04.put [.data 55, .data 101] → [.cells 55 [true]] -/
def f_ref04_put : Nat := 38
/-- orchestrator/orchestratorref04.Int [.data 3] → [.cells 57 [false, false, false, true, true]] -/
def f_ref04_Int : Nat := 39
/-- orchestrator/orchestratorref04.String [.data 9] → [.cells 57 [false, false, false, true, true]] -/
def f_ref04_String : Nat := 40
/-- orchestrator/orchestratorlaw08.example [] → [.cells 53 [false, false, false, true, false, true, true]] -/
def f_law08_example : Nat := 41
/-- orchestrator/defaults.Fill [.data 53, .data 57] → [.whole 57] -/
def f_defaults_Fill : Nat := 42
/-- orchestrator/defaults.clone [.data 57] → [.whole 57] -/
def f_defaults_clone : Nat := 43
/-- orchestrator/value.List [.data 54] → [.cells 57 [false, false, false, true, true]] -/
def f_value_List : Nat := 44
/-- orchestrator/value.clone [.data 57] → [.cells 57 [false, false, false, true, true]] -/
def f_value_clone : Nat := 45
/-- slices.Clone[[]orchestrator/api.Value,orchestrator/api.Value] [.data 54] → [.cells 54 [true]] -/
def f_slices_Clone : Nat := 46
/-- slices.Clone[[]orchestrator/api.Field,orchestrator/api.Field] [.data 55] → [.cells 55 [true]] -/
def f_slices_Clone_v2 : Nat := 47
/-- orchestrator/defaults.elements [.data 53, .data 57, .fn 36 []] → [.whole 57] -/
def f_defaults_elements : Nat := 48
/-- orchestrator/value.Get [.data 57, .data 9] → [.cells 57 [false, false, false, true, true], .whole 4] -/
def f_value_Get : Nat := 49
/-- orchestrator/value.With [.data 57, .data 9, .data 57] → [.cells 57 [false, false, false, true, true]] -/
def f_value_With : Nat := 50
/-- orchestrator/value.others [.data 57, .data 9] → [.cells 55 [true]] -/
def f_value_others : Nat := 51
/-- slices.DeleteFunc[[]orchestrator/api.Field,orchestrator/api.Field] [.own 55, .fn 149 [9]] → [.cells 55 [true]] -/
def f_slices_DeleteFunc : Nat := 52
/-- slices.IndexFunc[[]orchestrator/api.Field,orchestrator/api.Field] [.data 55, .fn 149 [9]] → [.whole 3] -/
def f_slices_IndexFunc : Nat := 53
/-- orchestrator/value.others$1 [.data 101, .rd 9] → [.whole 4] -/
def f_value_others_1 : Nat := 54
/-- orchestrator/value.Map [.data 55] → [.cells 57 [false, false, false, true, true]] -/
def f_value_Map : Nat := 55
/-- slices.SortStableFunc[[]orchestrator/api.Field,orchestrator/api.Field] [.arr 55, .fn 110 []] → [] -/
def f_slices_SortStableFunc : Nat := 56
/-- slices.stableCmpFunc[orchestrator/api.Field] [.arr 55, .data 3, .fn 110 []] → [] -/
def f_slices_stableCmpFunc : Nat := 57
/-- slices.insertionSortCmpFunc[orchestrator/api.Field] [.arr 55, .data 3, .data 3, .fn 110 []] → [] -/
def f_slices_insertionSortCmpFunc : Nat := 58
/-- orchestrator/value.Map$1 [.data 101, .data 101] → [.whole 3] -/
def f_value_Map_1 : Nat := 59
/-- strings.Compare [.data 9, .data 9] → [.whole 3] -/
def f_strings_Compare : Nat := 60
/-- internal/bytealg.CompareString [.data 9, .data 9] → [.whole 3] -/
def f_internal_bytealg_CompareString : Nat := 61
/-- internal/bytealg.abigen_runtime_cmpstring [.data 9, .data 9] → [.whole 3] -/
def f_internal_bytealg_abigen_runtime_cmpstring : Nat := 62
/-- slices.symMergeCmpFunc[orchestrator/api.Field] [.arr 55, .data 3, .data 3, .data 3, .fn 110 []] → [] -/
def f_slices_symMergeCmpFunc : Nat := 63
/-- slices.rotateCmpFunc[orchestrator/api.Field] [.arr 55, .data 3, .data 3, .data 3, .fn 110 []] → [] -/
def f_slices_rotateCmpFunc : Nat := 64
/-- slices.swapRangeCmpFunc[orchestrator/api.Field] [.arr 55, .data 3, .data 3, .data 3, .fn 110 []] → [] -/
def f_slices_swapRangeCmpFunc : Nat := 65
/-- orchestrator/defaults.under [.data 53, .data 9] → [.whole 53, .whole 4] -/
def f_defaults_under : Nat := 66
/-- orchestrator/orchestratorref04.Equal [.data 57, .data 57] → [.whole 4] -/
def f_ref04_Equal : Nat := 67
/-- orchestrator/orchestratorref04.Compare [.data 57, .data 57] → [.whole 3] -/
def f_ref04_Compare : Nat := 68
/-- orchestrator/orchestratorref04.order [.data 4, .data 4] → [.whole 3] -/
def f_ref04_order : Nat := 69
/-- orchestrator/defaults.Prune [.data 53, .data 57] → [.whole 57] -/
def f_defaults_Prune : Nat := 70
/-- orchestrator/defaults.elements [.data 53, .data 57, .fn 38 []] → [.whole 57] -/
def f_defaults_elements_v2 : Nat := 71
/-- orchestrator/orchestratorref08.Fill [.data 53, .data 57] → [.whole 57] -/
def f_ref08_Fill : Nat := 72
/-- orchestrator/orchestratorref08.dictionary [.data 53] → [.whole 4] -/
def f_ref08_dictionary : Nat := 73
/-- orchestrator/orchestratorref04.With [.data 57, .data 9, .data 57] → [.cells 57 [false, false, false, true, true]] -/
def f_ref04_With : Nat := 74
/-- orchestrator/orchestratorref04.others [.data 57, .data 9] → [.cells 55 [true]] -/
def f_ref04_others : Nat := 75
/-- orchestrator/orchestratorlaw08.DefaultsPrune [.data 53, .data 57] → [.whole 4] -/
def f_law08_DefaultsPrune : Nat := 76
/-- orchestrator/orchestratorref08.Prune [.data 53, .data 57] → [.whole 57] -/
def f_ref08_Prune : Nat := 77
/-- orchestrator/orchestratorref08.find [.data 53, .data 9] → [.whole 53, .whole 4] -/
def f_ref08_find : Nat := 78
/-- orchestrator/orchestratorlaw08.DefaultsIdempotent [.data 53, .data 57] → [.whole 4] -/
def f_law08_DefaultsIdempotent : Nat := 79
/-- orchestrator/orchestratorlaw08.within [.data 57, .data 57] → [.whole 4] -/
def f_law08_within : Nat := 80
/-- orchestrator/orchestratorref08.Clean [.data 53] → [.whole 4] -/
def f_ref08_Clean : Nat := 81
/-- orchestrator/orchestratorref08.Nulls [.data 57] → [.whole 4] -/
def f_ref08_Nulls : Nat := 82
def specs : List (Nat × Spec) := [
  (0, ⟨7, [.data 53, .data 57], [.whole 4], false⟩),
  (1, ⟨33, [.data 53, .data 57], [.whole 4], false⟩),
  (2, ⟨60, [.data 53, .data 3], [.whole 3], false⟩),
  (3, ⟨61, [.data 53], [.whole 4], false⟩),
  (4, ⟨98, [.data 53, .data 3], [.whole 4], false⟩),
  (5, ⟨141, [.data 53], [.whole 4], false⟩),
  (6, ⟨142, [.data 53], [.whole 4], false⟩),
  (7, ⟨165, [.data 9], [.whole 4], false⟩),
  (8, ⟨143, [.data 53, .data 3], [.whole 4], false⟩),
  (9, ⟨166, [.data 53, .data 9], [.whole 109, .whole 4], true⟩),
  (10, ⟨144, [.data 53, .data 3], [.whole 4], false⟩),
  (11, ⟨146, [.data 9], [.whole 4], false⟩),
  (12, ⟨63, [.data 57], [.whole 4], false⟩),
  (13, ⟨100, [.data 57, .data 3], [.whole 4], false⟩),
  (14, ⟨145, [.data 57], [.whole 4], false⟩),
  (15, ⟨101, [.data 57], [.whole 3], false⟩),
  (16, ⟨167, [.data 53, .data 57, .data 171], [.cells 165 [true]], false⟩),
  (17, ⟨175, [.data 171, .data 69], [.cells 165 [true]], false⟩),
  (18, ⟨180, [.data 171], [.whole 9, .whole 69], false⟩),
  (19, ⟨186, [.data 171], [.whole 4], false⟩),
  (20, ⟨189, [.data 180], [.whole 4], false⟩),
  (21, ⟨190, [.data 9], [.whole 4], false⟩),
  (22, ⟨192, [.data 5], [.whole 4], false⟩),
  (23, ⟨191, [.data 9], [.whole 4], false⟩),
  (24, ⟨187, [.data 3], [.whole 9], false⟩),
  (25, ⟨188, [.data 9], [.whole 9], false⟩),
  (26, ⟨176, [.data 53, .data 57, .data 171], [.cells 165 [true]], false⟩),
  (27, ⟨182, [.data 53, .data 54, .data 3], [.whole 180], false⟩),
  (28, ⟨183, [.data 57, .data 9], [.whole 9, .whole 4], false⟩),
  (29, ⟨76, [.data 57, .data 9], [.cells 57 [false, false, false, true, true], .whole 4], true⟩),
  (30, ⟨103, [.data 57], [.cells 57 [false, false, false, true, true]], true⟩),
  (31, ⟨181, [.data 171, .data 180], [.cells 171 [true]], false⟩),
  (32, ⟨177, [.data 53, .data 57, .data 171], [.cells 165 [true]], false⟩),
  (33, ⟨184, [.data 57, .data 9], [.cells 57 [false, false, false, true, true], .whole 4], true⟩),
  (34, ⟨62, [.data 57, .data 3], [.whole 4], false⟩),
  (35, ⟨99, [.data 57, .data 3, .data 3], [.whole 3], false⟩),
  (36, ⟨34, [], [.whole 4], false⟩),
  (37, ⟨64, [.data 55], [.cells 57 [false, false, false, true, true]], true⟩),
  (38, ⟨102, [.data 55, .data 101], [.cells 55 [true]], true⟩),
  (39, ⟨65, [.data 3], [.cells 57 [false, false, false, true, true]], true⟩),
  (40, ⟨66, [.data 9], [.cells 57 [false, false, false, true, true]], true⟩),
  (41, ⟨67, [], [.cells 53 [false, false, false, true, false, true, true]], true⟩),
  (42, ⟨36, [.data 53, .data 57], [.whole 57], true⟩),
  (43, ⟨69, [.data 57], [.whole 57], true⟩),
  (44, ⟨105, [.data 54], [.cells 57 [false, false, false, true, true]], true⟩),
  (45, ⟨106, [.data 57], [.cells 57 [false, false, false, true, true]], true⟩),
  (46, ⟨147, [.data 54], [.cells 54 [true]], true⟩),
  (47, ⟨108, [.data 55], [.cells 55 [true]], true⟩),
  (48, ⟨70, [.data 53, .data 57, .fn 36 []], [.whole 57], true⟩),
  (49, ⟨71, [.data 57, .data 9], [.cells 57 [false, false, false, true, true], .whole 4], true⟩),
  (50, ⟨72, [.data 57, .data 9, .data 57], [.cells 57 [false, false, false, true, true]], true⟩),
  (51, ⟨107, [.data 57, .data 9], [.cells 55 [true]], true⟩),
  (52, ⟨148, [.own 55, .fn 149 [9]], [.cells 55 [true]], true⟩),
  (53, ⟨168, [.data 55, .fn 149 [9]], [.whole 3], false⟩),
  (54, ⟨149, [.data 101, .rd 9], [.whole 4], false⟩),
  (55, ⟨74, [.data 55], [.cells 57 [false, false, false, true, true]], true⟩),
  (56, ⟨109, [.arr 55, .fn 110 []], [], false⟩),
  (57, ⟨150, [.arr 55, .data 3, .fn 110 []], [], false⟩),
  (58, ⟨169, [.arr 55, .data 3, .data 3, .fn 110 []], [], false⟩),
  (59, ⟨110, [.data 101, .data 101], [.whole 3], false⟩),
  (60, ⟨111, [.data 9, .data 9], [.whole 3], false⟩),
  (61, ⟨151, [.data 9, .data 9], [.whole 3], false⟩),
  (62, ⟨171, [.data 9, .data 9], [.whole 3], false⟩),
  (63, ⟨170, [.arr 55, .data 3, .data 3, .data 3, .fn 110 []], [], false⟩),
  (64, ⟨178, [.arr 55, .data 3, .data 3, .data 3, .fn 110 []], [], false⟩),
  (65, ⟨185, [.arr 55, .data 3, .data 3, .data 3, .fn 110 []], [], false⟩),
  (66, ⟨73, [.data 53, .data 9], [.whole 53, .whole 4], true⟩),
  (67, ⟨35, [.data 57, .data 57], [.whole 4], false⟩),
  (68, ⟨68, [.data 57, .data 57], [.whole 3], false⟩),
  (69, ⟨104, [.data 4, .data 4], [.whole 3], false⟩),
  (70, ⟨38, [.data 53, .data 57], [.whole 57], true⟩),
  (71, ⟨70, [.data 53, .data 57, .fn 38 []], [.whole 57], true⟩),
  (72, ⟨37, [.data 53, .data 57], [.whole 57], true⟩),
  (73, ⟨75, [.data 53], [.whole 4], false⟩),
  (74, ⟨77, [.data 57, .data 9, .data 57], [.cells 57 [false, false, false, true, true]], true⟩),
  (75, ⟨112, [.data 57, .data 9], [.cells 55 [true]], true⟩),
  (76, ⟨8, [.data 53, .data 57], [.whole 4], false⟩),
  (77, ⟨39, [.data 53, .data 57], [.whole 57], true⟩),
  (78, ⟨78, [.data 53, .data 9], [.whole 53, .whole 4], true⟩),
  (79, ⟨9, [.data 53, .data 57], [.whole 4], false⟩),
  (80, ⟨40, [.data 57, .data 57], [.whole 4], false⟩),
  (81, ⟨41, [.data 53], [.whole 4], false⟩),
  (82, ⟨79, [.data 57], [.whole 4], false⟩)]
def b2 : List Blk := [
  ⟨[(0, 0, [false, false, true, false, true, true]), (2, 0, [false, false, true, false, true, true]), (1, 0, []), (0, 0, [true, true, true])], ⟨4, 1, [(1, ⟨[], .one (.leaf (.at (.v 0) 3))⟩), (2, ⟨[], .one (.leaf (.ptr (.p 0 0)))⟩), (5, ⟨[], .one (.leaf (.at (.v 1) 3))⟩), (6, ⟨[], .one (.leaf (.at (.v 2) 3))⟩)], [(0, .box 53 (.leaf (.at (.v 3) 53)))]⟩⟩,
  ⟨[(0, 0, [false, false, true, false, true, true, true]), (2, 0, [false, false, true, false, true, true, true]), (1, 2, []), (0, 0, [true, true, true, true])], ⟨4, 1, [(1, ⟨[], .one (.leaf (.at (.v 0) 3))⟩), (2, ⟨[], .one (.leaf (.ptr (.p 0 0)))⟩), (5, ⟨[], .one (.leaf (.at (.v 1) 3))⟩), (7, ⟨[], .one (.leaf (.at (.v 2) 3))⟩)], [(0, .box 53 (.leaf (.at (.v 3) 53)))]⟩⟩]
def b6 : List Blk := [
  ⟨[(0, 0, [false, false, true, false, true]), (2, 0, [false, false, true, false, true]), (1, 0, []), (0, 0, [true, true])], ⟨2, 1, [(1, ⟨[], .one (.leaf (.ptr (.p 0 0)))⟩), (3, ⟨[], .one (.leaf (.at (.v 0) 3))⟩)], [(0, .box 53 (.leaf (.at (.v 1) 53)))]⟩⟩]
def b7 : List Blk := [
  ⟨[(0, 0, [false, false, true, false, true]), (2, 0, [false, false, true, false, true]), (1, 0, []), (0, 0, [true, true])], ⟨2, 0, [(0, ⟨[], .one (.leaf (.at (.v 0) 9))⟩), (3, ⟨[], .one (.leaf (.at (.v 1) 3))⟩)], []⟩⟩]
def b8 : List Blk := [
  ⟨[(0, 0, [true, true, true])], ⟨2, 1, [(1, ⟨[], .one (.leaf (.at (.v 0) 3))⟩), (2, ⟨[], .one (.leaf (.ptr (.p 0 0)))⟩)], [(0, .box 53 (.leaf (.at (.v 1) 53)))]⟩⟩]
def b9 : List Blk := [
  ⟨[(0, 0, [false, false, true, false, true]), (2, 0, [false, false, true, false, true]), (1, 0, []), (0, 0, [true, true])], ⟨10, 2, [(1, ⟨[], .one (.leaf (.at (.v 0) 9))⟩), (2, ⟨[], .one (.leaf (.ptr (.p 0 0)))⟩), (4, ⟨[], .one (.leaf (.ptr (.p 1 0)))⟩), (6, ⟨[], .one (.leaf (.at (.v 1) 3))⟩)], [(0, .box 53 (.leaf (.at (.v 2) 53))), (1, .box 109 (.agg 109 [.at (.v 3) 9, .at (.v 4) 4, .at (.v 5) 4, .nil 54, .at (.v 6) 3, .at (.v 7) 3, .at (.v 8) 3, .nil 49, .at (.v 9) 9, .nil 50, .nil 51]))]⟩⟩]
def b10 : List Blk := [
  ⟨[(0, 0, [false, false, true, false, true, true, true]), (2, 0, [false, false, true, false, true, true, true]), (1, 0, []), (0, 0, [true, true, true, true])], ⟨3, 1, [(1, ⟨[], .one (.leaf (.at (.v 0) 3))⟩), (2, ⟨[], .one (.leaf (.ptr (.p 0 0)))⟩), (5, ⟨[], .one (.leaf (.at (.v 1) 3))⟩)], [(0, .box 53 (.leaf (.at (.v 2) 53)))]⟩⟩]
def b11 : List Blk := [
  ⟨[(0, 0, [false, false, true, false, true]), (2, 0, [false, false, true, false, true]), (1, 0, []), (0, 0, [true, true])], ⟨2, 0, [(0, ⟨[], .one (.leaf (.at (.v 0) 9))⟩), (3, ⟨[], .one (.leaf (.at (.v 1) 3))⟩)], []⟩⟩]
def b13 : List Blk := [
  ⟨[(0, 0, [false, false, true, false, true, true, true]), (2, 0, [false, false, true, false, true, true, true]), (1, 0, []), (0, 0, [true, true, true, true])], ⟨3, 1, [(1, ⟨[], .one (.leaf (.at (.v 0) 3))⟩), (2, ⟨[], .one (.leaf (.ptr (.p 0 0)))⟩), (5, ⟨[], .one (.leaf (.at (.v 1) 3))⟩)], [(0, .box 57 (.leaf (.at (.v 2) 57)))]⟩⟩,
  ⟨[(0, 0, [false, false, true, false, true, true, true, true]), (2, 0, [false, false, true, false, true, true, true, true]), (1, 2, []), (0, 0, [true, true, true, true, true])], ⟨3, 1, [(1, ⟨[], .one (.leaf (.at (.v 0) 3))⟩), (2, ⟨[], .one (.leaf (.ptr (.p 0 0)))⟩), (6, ⟨[], .one (.leaf (.at (.v 1) 3))⟩)], [(0, .box 57 (.leaf (.at (.v 2) 57)))]⟩⟩]
def b14 : List Blk := [
  ⟨[(0, 0, [true, true, true, true, true, true, true, false, true, false, true]), (1, 0, []), (0, 0, [true, true])], ⟨2, 1, [(1, ⟨[], .one (.leaf (.ptr (.p 0 0)))⟩), (45, ⟨[], .one (.leaf (.at (.v 0) 4))⟩)], [(0, .box 57 (.leaf (.at (.v 1) 57)))]⟩⟩]
def b15 : List Blk := [
  ⟨[(0, 0, [false, false, true, false, true, true]), (2, 0, [false, false, true, false, true, true]), (1, 0, []), (0, 0, [true, true, true])], ⟨3, 1, [(1, ⟨[], .one (.leaf (.ptr (.p 0 0)))⟩), (3, ⟨[], .one (.leaf (.at (.v 0) 3))⟩), (4, ⟨[], .one (.leaf (.at (.v 1) 3))⟩)], [(0, .box 57 (.leaf (.at (.v 2) 57)))]⟩⟩,
  ⟨[(0, 0, [false, false, true, false, true, true, true]), (2, 0, [false, false, true, false, true, true, true]), (1, 2, []), (0, 0, [true, true, true, true])], ⟨3, 1, [(1, ⟨[], .one (.leaf (.ptr (.p 0 0)))⟩), (3, ⟨[], .one (.leaf (.at (.v 0) 3))⟩), (5, ⟨[], .one (.leaf (.at (.v 1) 3))⟩)], [(0, .box 57 (.leaf (.at (.v 2) 57)))]⟩⟩]
def b16 : List Blk := [
  ⟨[(0, 0, [false, false, true, false, true, false, true, true, true, false, true, false, true, true]), (2, 0, [false, false, true, false, true, false, true, true, true, false, true, false, true, true]), (1, 1, []), (0, 0, [true, true, false, true, true, true, false, true, false, true, true]), (1, 0, []), (0, 0, [true, true, true])], ⟨4, 2, [(2, ⟨[], .one (.leaf (.at (.v 0) 171))⟩), (3, ⟨[], .one (.leaf (.ptr (.p 0 0)))⟩), (4, ⟨[], .one (.leaf (.ptr (.p 1 0)))⟩), (7, ⟨[], .one (.leaf (.at (.v 1) 3))⟩)], [(0, .box 53 (.leaf (.at (.v 2) 53))), (1, .box 57 (.leaf (.at (.v 3) 57)))]⟩⟩]
def b18 : List Blk := [
  ⟨[(0, 0, [false, false, true, false, true, true, true]), (2, 0, [false, false, true, false, true, true, true]), (1, 0, []), (0, 0, [true, true, true, true])], ⟨3, 0, [(0, ⟨[], .one (.leaf (.at (.v 0) 171))⟩), (4, ⟨[], .one (.leaf (.at (.v 1) 9))⟩), (5, ⟨[], .one (.leaf (.at (.v 2) 3))⟩)], []⟩⟩,
  ⟨[(1, 1, []), (0, 0, [true, true, false, false, true, false, true, true, true]), (2, 0, [false, false, true, false, true, true, true]), (1, 0, []), (0, 0, [true, true, true, true])], ⟨3, 0, [(0, ⟨[], .one (.leaf (.at (.v 0) 171))⟩), (4, ⟨[], .one (.leaf (.at (.v 1) 9))⟩), (5, ⟨[], .one (.leaf (.at (.v 2) 3))⟩)], []⟩⟩]
def b19 : List Blk := [
  ⟨[(0, 0, [false, false, true, false, true]), (2, 0, [false, false, true, false, true]), (1, 0, []), (0, 0, [true, true])], ⟨2, 0, [(0, ⟨[], .one (.leaf (.at (.v 0) 171))⟩), (3, ⟨[], .one (.leaf (.at (.v 1) 3))⟩)], []⟩⟩]
def b21 : List Blk := [
  ⟨[(0, 0, [false, false, true, false, true]), (2, 0, [false, false, true, false, true]), (1, 0, []), (0, 0, [true, true])], ⟨2, 0, [(0, ⟨[], .one (.leaf (.at (.v 0) 9))⟩), (3, ⟨[], .one (.leaf (.at (.v 1) 3))⟩)], []⟩⟩]
def b23 : List Blk := [
  ⟨[(0, 0, [false, false, true, false, true]), (2, 0, [false, false, true, false, true]), (1, 0, []), (0, 0, [true, true])], ⟨2, 0, [(0, ⟨[], .one (.leaf (.at (.v 0) 9))⟩), (3, ⟨[], .one (.leaf (.at (.v 1) 3))⟩)], []⟩⟩]
def b25 : List Blk := [
  ⟨[(0, 0, [false, false, true, false, true, true]), (2, 0, [false, false, true, false, true, true]), (1, 0, []), (0, 0, [true, true, true])], ⟨3, 0, [(0, ⟨[], .one (.leaf (.at (.v 0) 9))⟩), (3, ⟨[], .one (.leaf (.at (.v 1) 9))⟩), (4, ⟨[], .one (.leaf (.at (.v 2) 3))⟩)], []⟩⟩,
  ⟨[(1, 1, []), (0, 0, [true, true, false, false, true, false, true, true]), (2, 0, [false, false, true, false, true, true]), (1, 0, []), (0, 0, [true, true, true])], ⟨3, 0, [(0, ⟨[], .one (.leaf (.at (.v 0) 9))⟩), (3, ⟨[], .one (.leaf (.at (.v 1) 9))⟩), (4, ⟨[], .one (.leaf (.at (.v 2) 3))⟩)], []⟩⟩]
def b26 : List Blk := [
  ⟨[(0, 0, [true, true, true])], ⟨4, 3, [(2, ⟨[], .one (.leaf (.at (.v 0) 171))⟩), (3, ⟨[], .one (.leaf (.ptr (.p 0 0)))⟩), (4, ⟨[], .one (.leaf (.ptr (.p 1 0)))⟩), (7, ⟨[], .one (.leaf (.ref 2 165))⟩)], [(0, .box 53 (.leaf (.at (.v 1) 53))), (1, .box 57 (.leaf (.at (.v 2) 57))), (2, .arr 177 165 (.v 3))]⟩⟩,
  ⟨[(0, 0, [false, false, true, false, true, true, true]), (2, 0, [false, false, true, false, true, true, true]), (1, 0, []), (0, 0, [true, true, true, true])], ⟨5, 3, [(2, ⟨[], .one (.leaf (.at (.v 0) 171))⟩), (3, ⟨[], .one (.leaf (.ptr (.p 0 0)))⟩), (4, ⟨[], .one (.leaf (.ptr (.p 1 0)))⟩), (7, ⟨[], .one (.leaf (.ref 2 165))⟩), (8, ⟨[], .one (.leaf (.at (.v 1) 3))⟩)], [(0, .box 53 (.leaf (.at (.v 2) 53))), (1, .box 57 (.leaf (.at (.v 3) 57))), (2, .arr 177 165 (.v 4))]⟩⟩,
  ⟨[(0, 0, [false, false, true, false, true, true, true, true, false, false, true, false, false, true, false, true, true, true]), (2, 0, [false, false, true, false, true, true, true, true, false, false, true, false, false, true, false, true, true, true]), (1, 2, []), (0, 0, [true, true, true, true, true, false, false, true, false, false, true, false, true, true, true]), (1, 1, []), (0, 0, [true, true, false, false, true, false, true, true, true]), (2, 0, [false, false, true, false, true, true, true]), (1, 0, []), (0, 0, [true, true, true, true])], ⟨10, 4, [(2, ⟨[], .one (.leaf (.at (.v 0) 171))⟩), (3, ⟨[], .one (.leaf (.ptr (.p 0 0)))⟩), (4, ⟨[], .one (.leaf (.ptr (.p 1 0)))⟩), (7, ⟨[], .one (.leaf (.ref 2 165))⟩), (8, ⟨[], .one (.leaf (.at (.v 1) 3))⟩), (9, ⟨[], .one (.leaf (.ref 3 171))⟩), (10, ⟨[], .one (.leaf (.at (.v 2) 9))⟩), (11, ⟨[], .one (.leaf (.at (.v 3) 4))⟩), (12, ⟨[], .one (.leaf (.at (.v 4) 4))⟩), (13, ⟨[], .one (.leaf (.at (.v 5) 3))⟩)], [(0, .box 53 (.leaf (.at (.v 6) 53))), (1, .box 57 (.leaf (.at (.v 7) 57))), (2, .arr 177 165 (.v 8)), (3, .arr 180 171 (.v 9))]⟩⟩,
  ⟨[(1, 1, []), (0, 0, [true, true, false, false, true, false, true, true, true]), (2, 0, [false, false, true, false, true, true, true]), (1, 0, []), (0, 0, [true, true, true, true])], ⟨5, 3, [(2, ⟨[], .one (.leaf (.at (.v 0) 171))⟩), (3, ⟨[], .one (.leaf (.ptr (.p 0 0)))⟩), (4, ⟨[], .one (.leaf (.ptr (.p 1 0)))⟩), (7, ⟨[], .one (.leaf (.ref 2 165))⟩), (8, ⟨[], .one (.leaf (.at (.v 1) 3))⟩)], [(0, .box 53 (.leaf (.at (.v 2) 53))), (1, .box 57 (.leaf (.at (.v 3) 57))), (2, .arr 177 165 (.v 4))]⟩⟩]
def b29 : List Blk := [
  ⟨[(0, 0, [false, false, true, false, true, false, true]), (2, 0, [false, false, true, false, true, false, true]), (1, 0, []), (0, 0, [true, true])], ⟨6, 2, [(1, ⟨[], .one (.leaf (.at (.v 0) 9))⟩), (2, ⟨[], .one (.leaf (.ptr (.p 0 0)))⟩), (4, ⟨[], .one (.leaf (.ptr (.p 1 0)))⟩), (6, ⟨[], .one (.leaf (.at (.v 1) 3))⟩)], [(0, .box 57 (.leaf (.at (.v 2) 57))), (1, .box 57 (.agg 57 [.at (.v 3) 3, .at (.v 4) 3, .at (.v 5) 9, .nil 54, .nil 55]))]⟩⟩]
def b30 : List Blk := [
  ⟨[(0, 0, [false, false, true, false, true, true]), (2, 0, [false, false, true, false, true, true]), (1, 0, []), (0, 0, [true, true, true])], ⟨9, 4, [(1, ⟨[], .one (.leaf (.ptr (.p 0 0)))⟩), (2, ⟨[], .one (.leaf (.ptr (.p 1 0)))⟩), (3, ⟨[], .one (.leaf (.ptr (.p 2 0)))⟩), (4, ⟨[], .one (.leaf (.at (.v 0) 3))⟩)], [(0, .box 57 (.leaf (.at (.v 1) 57))), (1, .box 57 (.agg 57 [.at (.v 2) 3, .at (.v 3) 3, .at (.v 4) 9, .nil 54, .nil 55])), (2, .box 57 (.agg 57 [.at (.v 5) 3, .at (.v 6) 3, .at (.v 7) 9, .ref 3 54, .nil 55])), (3, .arr 57 54 (.v 8))]⟩⟩,
  ⟨[(0, 0, [false, false, true, false, true, true, true]), (2, 0, [false, false, true, false, true, true, true]), (1, 2, []), (0, 0, [true, true, true, true])], ⟨10, 5, [(1, ⟨[], .one (.leaf (.ptr (.p 0 0)))⟩), (2, ⟨[], .one (.leaf (.ptr (.p 1 0)))⟩), (3, ⟨[], .one (.leaf (.ptr (.p 2 0)))⟩), (5, ⟨[], .one (.leaf (.at (.v 0) 3))⟩)], [(0, .box 57 (.leaf (.at (.v 1) 57))), (1, .box 57 (.agg 57 [.at (.v 2) 3, .at (.v 3) 3, .at (.v 4) 9, .nil 54, .nil 55])), (2, .box 57 (.agg 57 [.at (.v 5) 3, .at (.v 6) 3, .at (.v 7) 9, .ref 3 54, .ref 4 55])), (3, .arr 57 54 (.v 8)), (4, .arr 101 55 (.v 9))]⟩⟩]
def b32 : List Blk := [
  ⟨[(0, 0, [false, false, true, false, true, true]), (2, 0, [false, false, true, false, true, true]), (1, 0, []), (0, 0, [true, true, true])], ⟨5, 3, [(2, ⟨[], .one (.leaf (.at (.v 0) 171))⟩), (3, ⟨[], .one (.leaf (.ptr (.p 0 0)))⟩), (4, ⟨[], .one (.leaf (.ptr (.p 1 0)))⟩), (7, ⟨[], .one (.leaf (.ref 2 165))⟩), (8, ⟨[], .one (.leaf (.at (.v 1) 3))⟩)], [(0, .box 53 (.leaf (.at (.v 2) 53))), (1, .box 57 (.leaf (.at (.v 3) 57))), (2, .arr 177 165 (.v 4))]⟩⟩,
  ⟨[(1, 1, []), (0, 0, [true, true, false, false, true, false, true, true]), (2, 0, [false, false, true, false, true, true]), (1, 0, []), (0, 0, [true, true, true])], ⟨5, 3, [(2, ⟨[], .one (.leaf (.at (.v 0) 171))⟩), (3, ⟨[], .one (.leaf (.ptr (.p 0 0)))⟩), (4, ⟨[], .one (.leaf (.ptr (.p 1 0)))⟩), (7, ⟨[], .one (.leaf (.ref 2 165))⟩), (8, ⟨[], .one (.leaf (.at (.v 1) 3))⟩)], [(0, .box 53 (.leaf (.at (.v 2) 53))), (1, .box 57 (.leaf (.at (.v 3) 57))), (2, .arr 177 165 (.v 4))]⟩⟩,
  ⟨[(0, 0, [false, false, true, false, true, true, true]), (2, 0, [false, false, true, false, true, true, true]), (1, 2, []), (0, 0, [true, true, true, true])], ⟨5, 3, [(2, ⟨[], .one (.leaf (.at (.v 0) 171))⟩), (3, ⟨[], .one (.leaf (.ptr (.p 0 0)))⟩), (4, ⟨[], .one (.leaf (.ptr (.p 1 0)))⟩), (7, ⟨[], .one (.leaf (.ref 2 165))⟩), (13, ⟨[], .one (.leaf (.at (.v 1) 3))⟩)], [(0, .box 53 (.leaf (.at (.v 2) 53))), (1, .box 57 (.leaf (.at (.v 3) 57))), (2, .arr 177 165 (.v 4))]⟩⟩,
  ⟨[(1, 3, []), (0, 0, [true, true, false, false, true, false, true, true, true]), (2, 0, [false, false, true, false, true, true, true]), (1, 2, []), (0, 0, [true, true, true, true])], ⟨5, 3, [(2, ⟨[], .one (.leaf (.at (.v 0) 171))⟩), (3, ⟨[], .one (.leaf (.ptr (.p 0 0)))⟩), (4, ⟨[], .one (.leaf (.ptr (.p 1 0)))⟩), (7, ⟨[], .one (.leaf (.ref 2 165))⟩), (13, ⟨[], .one (.leaf (.at (.v 1) 3))⟩)], [(0, .box 53 (.leaf (.at (.v 2) 53))), (1, .box 57 (.leaf (.at (.v 3) 57))), (2, .arr 177 165 (.v 4))]⟩⟩]
def b35 : List Blk := [
  ⟨[(0, 0, [false, false, true, false, true, true, true]), (2, 0, [false, false, true, false, true, true, true]), (1, 0, []), (0, 0, [true, true, true, true])], ⟨4, 1, [(1, ⟨[], .one (.leaf (.at (.v 0) 3))⟩), (2, ⟨[], .one (.leaf (.at (.v 1) 3))⟩), (3, ⟨[], .one (.leaf (.ptr (.p 0 0)))⟩), (7, ⟨[], .one (.leaf (.at (.v 2) 3))⟩)], [(0, .box 57 (.leaf (.at (.v 3) 57)))]⟩⟩,
  ⟨[(0, 0, [false, false, true, false, true, true, true, true]), (2, 0, [false, false, true, false, true, true, true, true]), (1, 2, []), (0, 0, [true, true, true, true, true])], ⟨4, 1, [(1, ⟨[], .one (.leaf (.at (.v 0) 3))⟩), (2, ⟨[], .one (.leaf (.at (.v 1) 3))⟩), (3, ⟨[], .one (.leaf (.ptr (.p 0 0)))⟩), (8, ⟨[], .one (.leaf (.at (.v 2) 3))⟩)], [(0, .box 57 (.leaf (.at (.v 3) 57)))]⟩⟩]
def b37 : List Blk := [
  ⟨[(0, 0, [false, false, true, false, true, true]), (2, 0, [false, false, true, false, true, true]), (1, 0, []), (0, 0, [true, true, true])], ⟨9, 3, [(0, ⟨[], .one (.leaf (.at (.v 0) 55))⟩), (2, ⟨[], .one (.leaf (.ptr (.p 0 0)))⟩), (3, ⟨[], .one (.leaf (.ptr (.p 1 0)))⟩), (4, ⟨[], .one (.leaf (.at (.v 1) 3))⟩)], [(0, .box 57 (.agg 57 [.at (.v 2) 3, .at (.v 3) 3, .at (.v 4) 9, .nil 54, .nil 55])), (1, .box 57 (.agg 57 [.at (.v 5) 3, .at (.v 6) 3, .at (.v 7) 9, .nil 54, .ref 2 55])), (2, .arr 101 55 (.v 8))]⟩⟩]
def b38 : List Blk := [
  ⟨[(0, 0, [false, false, true, false, true, true, true]), (2, 0, [false, false, true, false, true, true, true]), (1, 0, []), (0, 0, [true, true, true, true])], ⟨5, 2, [(0, ⟨[], .one (.leaf (.at (.v 0) 55))⟩), (3, ⟨[], .one (.leaf (.ptr (.p 0 0)))⟩), (5, ⟨[], .one (.leaf (.ref 1 55))⟩), (6, ⟨[], .one (.leaf (.at (.v 1) 4))⟩), (7, ⟨[], .one (.leaf (.at (.v 2) 3))⟩)], [(0, .box 101 (.leaf (.at (.v 3) 101))), (1, .arr 101 55 (.v 4))]⟩⟩,
  ⟨[(0, 0, [true, false, false, true, false, false, true, false, true, true, true]), (1, 1, []), (0, 0, [true, true, false, false, true, false, true, true, true]), (2, 0, [false, false, true, false, true, true, true]), (1, 0, []), (0, 0, [true, true, true, true])], ⟨5, 2, [(0, ⟨[], .one (.leaf (.at (.v 0) 55))⟩), (3, ⟨[], .one (.leaf (.ptr (.p 0 0)))⟩), (5, ⟨[], .one (.leaf (.ref 1 55))⟩), (6, ⟨[], .one (.leaf (.at (.v 1) 4))⟩), (7, ⟨[], .one (.leaf (.at (.v 2) 3))⟩)], [(0, .box 101 (.leaf (.at (.v 3) 101))), (1, .arr 101 55 (.v 4))]⟩⟩,
  ⟨[(1, 1, []), (0, 0, [true, true, false, false, true, false, true, true, true]), (2, 0, [false, false, true, false, true, true, true]), (1, 0, []), (0, 0, [true, true, true, true])], ⟨5, 2, [(0, ⟨[], .one (.leaf (.at (.v 0) 55))⟩), (3, ⟨[], .one (.leaf (.ptr (.p 0 0)))⟩), (5, ⟨[], .one (.leaf (.ref 1 55))⟩), (6, ⟨[], .one (.leaf (.at (.v 1) 4))⟩), (7, ⟨[], .one (.leaf (.at (.v 2) 3))⟩)], [(0, .box 101 (.leaf (.at (.v 3) 101))), (1, .arr 101 55 (.v 4))]⟩⟩]
def b42 : List Blk := [
  ⟨[(0, 0, [false, false, true, false, true, false, true, true]), (2, 0, [false, false, true, false, true, false, true, true]), (1, 1, []), (0, 0, [true, true, true])], ⟨8, 3, [(2, ⟨[], .one (.leaf (.ptr (.p 0 0)))⟩), (3, ⟨[], .one (.leaf (.ptr (.p 1 0)))⟩), (4, ⟨[], .one (.leaf (.ptr (.p 2 0)))⟩), (44, ⟨[], .one (.leaf (.at (.v 0) 51))⟩), (45, ⟨[], .one (.leaf (.at (.v 1) 3))⟩), (46, ⟨[], .one (.leaf (.at (.v 2) 3))⟩)], [(0, .box 53 (.leaf (.at (.v 3) 53))), (1, .box 57 (.leaf (.at (.v 4) 57))), (2, .box 57 (.agg 57 [.at (.v 5) 3, .at (.v 6) 3, .at (.v 7) 9, .nil 54, .nil 55]))]⟩⟩,
  ⟨[(0, 0, [true, true, true])], ⟨5, 3, [(2, ⟨[], .one (.leaf (.ptr (.p 0 0)))⟩), (3, ⟨[], .one (.leaf (.ptr (.p 1 0)))⟩), (4, ⟨[], .one (.leaf (.ptr (.p 2 0)))⟩)], [(0, .box 53 (.leaf (.at (.v 0) 53))), (1, .box 57 (.leaf (.at (.v 1) 57))), (2, .box 57 (.agg 57 [.at (.v 2) 3, .at (.v 3) 3, .at (.v 4) 9, .nil 54, .nil 55]))]⟩⟩,
  ⟨[(1, 2, []), (0, 0, [true, true, true, false, false, true, false, true, false, true, true]), (2, 0, [false, false, true, false, true, false, true, true]), (1, 1, []), (0, 0, [true, true, true])], ⟨8, 3, [(2, ⟨[], .one (.leaf (.ptr (.p 0 0)))⟩), (3, ⟨[], .one (.leaf (.ptr (.p 1 0)))⟩), (4, ⟨[], .one (.leaf (.ptr (.p 2 0)))⟩), (44, ⟨[], .one (.leaf (.at (.v 0) 51))⟩), (45, ⟨[], .one (.leaf (.at (.v 1) 3))⟩), (46, ⟨[], .one (.leaf (.at (.v 2) 3))⟩)], [(0, .box 53 (.leaf (.at (.v 3) 53))), (1, .box 57 (.leaf (.at (.v 4) 57))), (2, .box 57 (.agg 57 [.at (.v 5) 3, .at (.v 6) 3, .at (.v 7) 9, .nil 54, .nil 55]))]⟩⟩,
  ⟨[(0, 0, [false, false, true, false, true, true, true, true]), (2, 0, [false, false, true, false, true, true, true, true]), (1, 3, []), (0, 0, [true, true, true, true, true])], ⟨8, 3, [(2, ⟨[], .one (.leaf (.ptr (.p 0 0)))⟩), (4, ⟨[], .one (.leaf (.ptr (.p 1 0)))⟩), (9, ⟨[], .one (.leaf (.ref 2 55))⟩), (76, ⟨[], .one (.leaf (.at (.v 0) 55))⟩), (77, ⟨[], .one (.leaf (.at (.v 1) 3))⟩), (78, ⟨[], .one (.leaf (.at (.v 2) 3))⟩)], [(0, .box 53 (.leaf (.at (.v 3) 53))), (1, .box 57 (.agg 57 [.at (.v 4) 3, .at (.v 5) 3, .at (.v 6) 9, .nil 54, .nil 55])), (2, .arr 101 55 (.v 7))]⟩⟩,
  ⟨[(0, 0, [true, true, false, false, true, true, false, false, true, false, true, true, true, true]), (1, 4, []), (0, 0, [true, true, true, false, false, true, false, true, true, true, true]), (2, 0, [false, false, true, false, true, true, true, true]), (1, 3, []), (0, 0, [true, true, true, true, true])], ⟨14, 4, [(2, ⟨[], .one (.leaf (.ptr (.p 0 0)))⟩), (4, ⟨[], .one (.leaf (.ptr (.p 1 0)))⟩), (9, ⟨[], .one (.leaf (.ref 2 55))⟩), (11, ⟨[], .one (.leaf (.ptr (.p 3 0)))⟩), (76, ⟨[], .one (.leaf (.at (.v 0) 55))⟩), (77, ⟨[], .one (.leaf (.at (.v 1) 3))⟩), (78, ⟨[], .one (.leaf (.at (.v 2) 3))⟩)], [(0, .box 53 (.leaf (.at (.v 3) 53))), (1, .box 57 (.agg 57 [.at (.v 4) 3, .at (.v 5) 3, .at (.v 6) 9, .nil 54, .nil 55])), (2, .arr 101 55 (.v 7)), (3, .box 101 (.agg 101 [.at (.v 8) 9, .at (.v 9) 3, .at (.v 10) 3, .at (.v 11) 9, .at (.v 12) 54, .at (.v 13) 55]))]⟩⟩]
def b45 : List Blk := [
  ⟨[(0, 0, [false, false, true, false, true, true]), (2, 0, [false, false, true, false, true, true]), (1, 0, []), (0, 0, [true, true, true])], ⟨10, 3, [(1, ⟨[], .one (.leaf (.ptr (.p 0 0)))⟩), (2, ⟨[], .one (.leaf (.ptr (.p 1 0)))⟩), (12, ⟨[], .one (.leaf (.ref 2 54))⟩), (13, ⟨[], .one (.leaf (.at (.v 0) 3))⟩), (14, ⟨[], .one (.leaf (.at (.v 1) 3))⟩)], [(0, .box 57 (.agg 57 [.at (.v 2) 3, .at (.v 3) 3, .at (.v 4) 9, .ref 2 54, .at (.v 5) 55])), (1, .box 57 (.agg 57 [.at (.v 6) 3, .at (.v 7) 3, .at (.v 8) 9, .nil 54, .nil 55])), (2, .arr 57 54 (.v 9))]⟩⟩,
  ⟨[(0, 0, [false, false, true, false, true, true, true, true]), (2, 0, [false, false, true, false, true, true, true, true]), (1, 2, []), (0, 0, [true, true, true, true, true])], ⟨10, 4, [(1, ⟨[], .one (.leaf (.ptr (.p 0 0)))⟩), (2, ⟨[], .one (.leaf (.ptr (.p 1 0)))⟩), (31, ⟨[], .one (.leaf (.ref 2 55))⟩), (32, ⟨[], .one (.leaf (.at (.v 0) 3))⟩), (33, ⟨[], .one (.leaf (.at (.v 1) 3))⟩)], [(0, .box 57 (.agg 57 [.at (.v 2) 3, .at (.v 3) 3, .at (.v 4) 9, .ref 3 54, .ref 2 55])), (1, .box 57 (.agg 57 [.at (.v 5) 3, .at (.v 6) 3, .at (.v 7) 9, .nil 54, .nil 55])), (2, .arr 101 55 (.v 8)), (3, .arr 57 54 (.v 9))]⟩⟩]
def b48 : List Blk := [
  ⟨[(0, 0, [false, false, true, false, true, true, true]), (2, 0, [false, false, true, false, true, true, true]), (1, 0, []), (0, 0, [true, true, true, true])], ⟨8, 3, [(2, ⟨[], .one (.leaf (.fn 36 []))⟩), (3, ⟨[], .one (.leaf (.ptr (.p 0 0)))⟩), (6, ⟨[], .one (.leaf (.ptr (.p 1 0)))⟩), (7, ⟨[], .one (.leaf (.ref 2 54))⟩), (17, ⟨[], .one (.leaf (.at (.v 0) 54))⟩), (18, ⟨[], .one (.leaf (.at (.v 1) 3))⟩), (19, ⟨[], .one (.leaf (.at (.v 2) 3))⟩)], [(0, .box 53 (.leaf (.at (.v 3) 53))), (1, .box 57 (.agg 57 [.at (.v 4) 3, .at (.v 5) 3, .at (.v 6) 9, .nil 54, .nil 55])), (2, .arr 57 54 (.v 7))]⟩⟩]
def b49 : List Blk := [
  ⟨[(0, 0, [false, false, true, false, true, false, true]), (2, 0, [false, false, true, false, true, false, true]), (1, 0, []), (0, 0, [true, true])], ⟨7, 1, [(1, ⟨[], .one (.leaf (.at (.v 0) 9))⟩), (4, ⟨[], .one (.leaf (.ptr (.p 0 0)))⟩), (12, ⟨[], .one (.leaf (.at (.v 1) 55))⟩), (13, ⟨[], .one (.leaf (.at (.v 2) 3))⟩), (14, ⟨[], .one (.leaf (.at (.v 3) 3))⟩)], [(0, .box 57 (.agg 57 [.at (.v 4) 3, .at (.v 5) 3, .at (.v 6) 9, .nil 54, .nil 55]))]⟩⟩]
def b52 : List Blk := [
  ⟨[(0, 0, [false, false, true, false, true, true, true]), (2, 0, [false, false, true, false, true, true, true]), (1, 0, []), (0, 0, [true, true, true, true])], ⟨4, 2, [(0, ⟨[], .one (.leaf (.ref 1 55))⟩), (1, ⟨[], .one (.leaf (.fn 149 [.im (.v 0) 9 0]))⟩), (5, ⟨[], .one (.leaf (.at (.v 1) 3))⟩), (6, ⟨[], .one (.leaf (.at (.v 2) 3))⟩)], [(1, .arr 101 55 (.v 3))]⟩⟩,
  ⟨[(1, 1, []), (0, 0, [true, true, false, false, true, false, true, true, true]), (2, 0, [false, false, true, false, true, true, true]), (1, 0, []), (0, 0, [true, true, true, true])], ⟨4, 2, [(0, ⟨[], .one (.leaf (.ref 1 55))⟩), (1, ⟨[], .one (.leaf (.fn 149 [.im (.v 0) 9 0]))⟩), (5, ⟨[], .one (.leaf (.at (.v 1) 3))⟩), (6, ⟨[], .one (.leaf (.at (.v 2) 3))⟩)], [(1, .arr 101 55 (.v 3))]⟩⟩]
def b53 : List Blk := [
  ⟨[(0, 0, [false, false, true, false, true]), (2, 0, [false, false, true, false, true]), (1, 0, []), (0, 0, [true, true])], ⟨4, 0, [(0, ⟨[], .one (.leaf (.at (.v 0) 55))⟩), (1, ⟨[], .one (.leaf (.fn 149 [.im (.v 1) 9 0]))⟩), (7, ⟨[], .one (.leaf (.at (.v 2) 3))⟩), (8, ⟨[], .one (.leaf (.at (.v 3) 3))⟩)], []⟩⟩]
def b55 : List Blk := [
  ⟨[(0, 0, [false, false, true, false, true, true, true, true]), (2, 0, [false, false, true, false, true, true, true, true]), (1, 0, []), (0, 0, [true, true, true, true, true])], ⟨10, 4, [(2, ⟨[], .one (.leaf (.ptr (.p 0 0)))⟩), (3, ⟨[], .one (.leaf (.ref 1 55))⟩), (4, ⟨[], .one (.leaf (.ptr (.p 2 0)))⟩), (12, ⟨[], .one (.leaf (.ref 1 55))⟩), (13, ⟨[], .one (.leaf (.at (.v 0) 3))⟩), (14, ⟨[], .one (.leaf (.at (.v 1) 3))⟩)], [(0, .box 57 (.agg 57 [.at (.v 2) 3, .at (.v 3) 3, .at (.v 4) 9, .nil 54, .nil 55])), (1, .arr 101 55 (.v 5)), (2, .box 57 (.agg 57 [.at (.v 6) 3, .at (.v 7) 3, .at (.v 8) 9, .nil 54, .ref 3 55])), (3, .arr 101 55 (.v 9))]⟩⟩,
  ⟨[(1, 1, []), (0, 0, [true, true, true, false, false, true, false, true, true, true, true]), (2, 0, [false, false, true, false, true, true, true, true]), (1, 0, []), (0, 0, [true, true, true, true, true])], ⟨10, 4, [(2, ⟨[], .one (.leaf (.ptr (.p 0 0)))⟩), (3, ⟨[], .one (.leaf (.ref 1 55))⟩), (4, ⟨[], .one (.leaf (.ptr (.p 2 0)))⟩), (12, ⟨[], .one (.leaf (.ref 1 55))⟩), (13, ⟨[], .one (.leaf (.at (.v 0) 3))⟩), (14, ⟨[], .one (.leaf (.at (.v 1) 3))⟩)], [(0, .box 57 (.agg 57 [.at (.v 2) 3, .at (.v 3) 3, .at (.v 4) 9, .nil 54, .nil 55])), (1, .arr 101 55 (.v 5)), (2, .box 57 (.agg 57 [.at (.v 6) 3, .at (.v 7) 3, .at (.v 8) 9, .nil 54, .ref 3 55])), (3, .arr 101 55 (.v 9))]⟩⟩]
def b57 : List Blk := [
  ⟨[(0, 0, [false, false, false, true, true]), (2, 0, [false, false, false, true, true]), (1, 0, []), (0, 0, [true, true, true])], ⟨5, 1, [(0, ⟨[], .one (.leaf (.ref 0 55))⟩), (1, ⟨[], .one (.leaf (.at (.v 0) 3))⟩), (2, ⟨[], .one (.leaf (.fn 110 []))⟩), (6, ⟨[], .one (.leaf (.at (.v 1) 3))⟩), (7, ⟨[], .one (.leaf (.at (.v 2) 3))⟩), (8, ⟨[], .one (.leaf (.at (.v 3) 3))⟩)], [(0, .arr 101 55 (.v 4))]⟩⟩,
  ⟨[(0, 0, [false, false, true, true, true, true]), (2, 0, [false, false, true, true, true, true]), (1, 2, [])], ⟨3, 1, [(0, ⟨[], .one (.leaf (.ref 0 55))⟩), (1, ⟨[], .one (.leaf (.at (.v 0) 3))⟩), (2, ⟨[], .one (.leaf (.fn 110 []))⟩), (6, ⟨[], .one (.leaf (.at (.v 1) 3))⟩)], [(0, .arr 101 55 (.v 2))]⟩⟩,
  ⟨[(0, 0, [false, false, false, true, false, true, false, false, true, true, true, true]), (2, 0, [false, false, false, true, false, true, false, false, true, true, true, true]), (1, 4, []), (0, 0, [true, true, false, true, false, false, true, true, true, true]), (1, 3, []), (2, 0, [false, false, true, true, true, true]), (1, 2, [])], ⟨5, 1, [(0, ⟨[], .one (.leaf (.ref 0 55))⟩), (1, ⟨[], .one (.leaf (.at (.v 0) 3))⟩), (2, ⟨[], .one (.leaf (.fn 110 []))⟩), (6, ⟨[], .one (.leaf (.at (.v 1) 3))⟩), (7, ⟨[], .one (.leaf (.at (.v 2) 3))⟩), (8, ⟨[], .one (.leaf (.at (.v 3) 3))⟩)], [(0, .arr 101 55 (.v 4))]⟩⟩,
  ⟨[(0, 0, [true, true, true, false, true, false, false, true, true, true, true]), (1, 3, []), (2, 0, [false, false, true, true, true, true]), (1, 2, [])], ⟨3, 1, [(0, ⟨[], .one (.leaf (.ref 0 55))⟩), (1, ⟨[], .one (.leaf (.at (.v 0) 3))⟩), (2, ⟨[], .one (.leaf (.fn 110 []))⟩), (6, ⟨[], .one (.leaf (.at (.v 1) 3))⟩)], [(0, .arr 101 55 (.v 2))]⟩⟩]
def b58 : List Blk := [
  ⟨[(0, 0, [false, false, true]), (2, 0, [false, false, true]), (1, 0, [])], ⟨4, 1, [(0, ⟨[], .one (.leaf (.ref 0 55))⟩), (1, ⟨[], .one (.leaf (.at (.v 0) 3))⟩), (2, ⟨[], .one (.leaf (.at (.v 1) 3))⟩), (3, ⟨[], .one (.leaf (.fn 110 []))⟩), (8, ⟨[], .one (.leaf (.at (.v 2) 3))⟩)], [(0, .arr 101 55 (.v 3))]⟩⟩,
  ⟨[(0, 0, [false, false, true, false, false, true, false, false, true]), (2, 0, [false, false, true, false, false, true, false, false, true]), (1, 2, []), (1, 1, []), (0, 0, [true, true, false, false, true]), (2, 0, [false, false, true]), (1, 0, [])], ⟨5, 1, [(0, ⟨[], .one (.leaf (.ref 0 55))⟩), (1, ⟨[], .one (.leaf (.at (.v 0) 3))⟩), (2, ⟨[], .one (.leaf (.at (.v 1) 3))⟩), (3, ⟨[], .one (.leaf (.fn 110 []))⟩), (8, ⟨[], .one (.leaf (.at (.v 2) 3))⟩), (9, ⟨[], .one (.leaf (.at (.v 3) 3))⟩)], [(0, .arr 101 55 (.v 4))]⟩⟩]
def b63 : List Blk := [
  ⟨[(0, 0, [false, false, false, true, true, false, true, false]), (2, 0, [false, false, false, true, true, false, true, false]), (1, 0, []), (0, 0, [true, true, true, false, true, false]), (0, 0, [true])], ⟨4, 1, [(0, ⟨[], .one (.leaf (.ref 0 55))⟩), (1, ⟨[], .one (.leaf (.at (.v 0) 3))⟩), (4, ⟨[], .one (.leaf (.fn 110 []))⟩), (10, ⟨[], .one (.leaf (.at (.v 1) 3))⟩), (11, ⟨[], .one (.leaf (.at (.v 2) 3))⟩)], [(0, .arr 101 55 (.v 3))]⟩⟩,
  ⟨[(0, 0, [false, false, false, true, true, false, true, false, true]), (2, 0, [false, false, false, true, true, false, true, false, true]), (1, 4, []), (0, 0, [true, true, true, false, true, false, true]), (0, 0, [true, true])], ⟨4, 1, [(0, ⟨[], .one (.leaf (.ref 0 55))⟩), (2, ⟨[], .one (.leaf (.at (.v 0) 3))⟩), (4, ⟨[], .one (.leaf (.fn 110 []))⟩), (14, ⟨[], .one (.leaf (.at (.v 1) 3))⟩), (15, ⟨[], .one (.leaf (.at (.v 2) 3))⟩)], [(0, .arr 101 55 (.v 3))]⟩⟩,
  ⟨[(0, 0, [true, true, true, true, true, true])], ⟨8, 1, [(0, ⟨[], .one (.leaf (.ref 0 55))⟩), (1, ⟨[], .one (.leaf (.at (.v 0) 3))⟩), (2, ⟨[], .one (.leaf (.at (.v 1) 3))⟩), (3, ⟨[], .one (.leaf (.at (.v 2) 3))⟩), (4, ⟨[], .one (.leaf (.fn 110 []))⟩), (18, ⟨[], .one (.leaf (.at (.v 3) 3))⟩), (19, ⟨[], .one (.leaf (.at (.v 4) 3))⟩), (20, ⟨[], .one (.leaf (.at (.v 5) 3))⟩), (21, ⟨[], .one (.leaf (.at (.v 6) 3))⟩)], [(0, .arr 101 55 (.v 7))]⟩⟩,
  ⟨[(1, 1, []), (2, 0, [false, false, false, true, true, false, true, false]), (1, 0, []), (0, 0, [true, true, true, false, true, false]), (0, 0, [true])], ⟨4, 1, [(0, ⟨[], .one (.leaf (.ref 0 55))⟩), (1, ⟨[], .one (.leaf (.at (.v 0) 3))⟩), (4, ⟨[], .one (.leaf (.fn 110 []))⟩), (10, ⟨[], .one (.leaf (.at (.v 1) 3))⟩), (11, ⟨[], .one (.leaf (.at (.v 2) 3))⟩)], [(0, .arr 101 55 (.v 3))]⟩⟩,
  ⟨[(0, 0, [false, false, true, false, true, true, true, false, true, false]), (2, 0, [false, false, true, false, true, true, true, false, true, false]), (1, 2, []), (0, 0, [true, true, true, true, false, true, false]), (0, 0, [true])], ⟨3, 1, [(0, ⟨[], .one (.leaf (.ref 0 55))⟩), (10, ⟨[], .one (.leaf (.at (.v 0) 3))⟩), (13, ⟨[], .one (.leaf (.at (.v 1) 3))⟩)], [(0, .arr 101 55 (.v 2))]⟩⟩,
  ⟨[(1, 5, []), (2, 0, [false, false, false, true, true, false, true, false, true]), (1, 4, []), (0, 0, [true, true, true, false, true, false, true]), (0, 0, [true, true])], ⟨4, 1, [(0, ⟨[], .one (.leaf (.ref 0 55))⟩), (2, ⟨[], .one (.leaf (.at (.v 0) 3))⟩), (4, ⟨[], .one (.leaf (.fn 110 []))⟩), (14, ⟨[], .one (.leaf (.at (.v 1) 3))⟩), (15, ⟨[], .one (.leaf (.at (.v 2) 3))⟩)], [(0, .arr 101 55 (.v 3))]⟩⟩,
  ⟨[(0, 0, [false, false, true, false, true, true, true, false, true, false, true]), (2, 0, [false, false, true, false, true, true, true, false, true, false, true]), (1, 6, []), (0, 0, [true, true, true, true, false, true, false, true]), (0, 0, [true, true])], ⟨3, 1, [(0, ⟨[], .one (.leaf (.ref 0 55))⟩), (14, ⟨[], .one (.leaf (.at (.v 0) 3))⟩), (17, ⟨[], .one (.leaf (.at (.v 1) 3))⟩)], [(0, .arr 101 55 (.v 2))]⟩⟩,
  ⟨[(0, 0, [false, false, false, true, true, true, true, true, true, true]), (2, 0, [false, false, false, true, true, true, true, true, true, true]), (1, 8, []), (0, 0, [true, true, true, true, true, true, true, true])], ⟨9, 1, [(0, ⟨[], .one (.leaf (.ref 0 55))⟩), (1, ⟨[], .one (.leaf (.at (.v 0) 3))⟩), (2, ⟨[], .one (.leaf (.at (.v 1) 3))⟩), (3, ⟨[], .one (.leaf (.at (.v 2) 3))⟩), (4, ⟨[], .one (.leaf (.fn 110 []))⟩), (18, ⟨[], .one (.leaf (.at (.v 3) 3))⟩), (19, ⟨[], .one (.leaf (.at (.v 4) 3))⟩), (20, ⟨[], .one (.leaf (.at (.v 5) 3))⟩), (21, ⟨[], .one (.leaf (.at (.v 6) 3))⟩), (22, ⟨[], .one (.leaf (.at (.v 7) 3))⟩)], [(0, .arr 101 55 (.v 8))]⟩⟩,
  ⟨[(1, 9, []), (2, 0, [false, false, false, true, true, true, true, true, true, true]), (1, 8, []), (0, 0, [true, true, true, true, true, true, true, true])], ⟨9, 1, [(0, ⟨[], .one (.leaf (.ref 0 55))⟩), (1, ⟨[], .one (.leaf (.at (.v 0) 3))⟩), (2, ⟨[], .one (.leaf (.at (.v 1) 3))⟩), (3, ⟨[], .one (.leaf (.at (.v 2) 3))⟩), (4, ⟨[], .one (.leaf (.fn 110 []))⟩), (18, ⟨[], .one (.leaf (.at (.v 3) 3))⟩), (19, ⟨[], .one (.leaf (.at (.v 4) 3))⟩), (20, ⟨[], .one (.leaf (.at (.v 5) 3))⟩), (21, ⟨[], .one (.leaf (.at (.v 6) 3))⟩), (22, ⟨[], .one (.leaf (.at (.v 7) 3))⟩)], [(0, .arr 101 55 (.v 8))]⟩⟩,
  ⟨[(0, 0, [true, true, true, true, true, true, true, true, true, true])], ⟨6, 1, [(0, ⟨[], .one (.leaf (.ref 0 55))⟩), (1, ⟨[], .one (.leaf (.at (.v 0) 3))⟩), (3, ⟨[], .one (.leaf (.at (.v 1) 3))⟩), (4, ⟨[], .one (.leaf (.fn 110 []))⟩), (18, ⟨[], .one (.leaf (.at (.v 2) 3))⟩), (20, ⟨[], .one (.leaf (.at (.v 3) 3))⟩), (24, ⟨[], .one (.leaf (.at (.v 4) 3))⟩)], [(0, .arr 101 55 (.v 5))]⟩⟩,
  ⟨[(0, 0, [true, true, true, true, true, true, true, true, true, true, true])], ⟨4, 1, [(0, ⟨[], .one (.leaf (.ref 0 55))⟩), (3, ⟨[], .one (.leaf (.at (.v 0) 3))⟩), (4, ⟨[], .one (.leaf (.fn 110 []))⟩), (18, ⟨[], .one (.leaf (.at (.v 1) 3))⟩), (24, ⟨[], .one (.leaf (.at (.v 2) 3))⟩)], [(0, .arr 101 55 (.v 3))]⟩⟩]
def b64 : List Blk := [
  ⟨[(0, 0, [false, false, false, true, true]), (2, 0, [false, false, false, true, true]), (1, 0, []), (0, 0, [true, true, true])], ⟨4, 1, [(0, ⟨[], .one (.leaf (.ref 0 55))⟩), (2, ⟨[], .one (.leaf (.at (.v 0) 3))⟩), (4, ⟨[], .one (.leaf (.fn 110 []))⟩), (10, ⟨[], .one (.leaf (.at (.v 1) 3))⟩), (11, ⟨[], .one (.leaf (.at (.v 2) 3))⟩)], [(0, .arr 101 55 (.v 3))]⟩⟩,
  ⟨[(1, 1, []), (2, 0, [false, false, false, true, true]), (1, 0, []), (0, 0, [true, true, true])], ⟨4, 1, [(0, ⟨[], .one (.leaf (.ref 0 55))⟩), (2, ⟨[], .one (.leaf (.at (.v 0) 3))⟩), (4, ⟨[], .one (.leaf (.fn 110 []))⟩), (10, ⟨[], .one (.leaf (.at (.v 1) 3))⟩), (11, ⟨[], .one (.leaf (.at (.v 2) 3))⟩)], [(0, .arr 101 55 (.v 3))]⟩⟩]
def b65 : List Blk := [
  ⟨[(0, 0, [false, false, true]), (2, 0, [false, false, true]), (1, 0, [])], ⟨5, 1, [(0, ⟨[], .one (.leaf (.ref 0 55))⟩), (1, ⟨[], .one (.leaf (.at (.v 0) 3))⟩), (2, ⟨[], .one (.leaf (.at (.v 1) 3))⟩), (3, ⟨[], .one (.leaf (.at (.v 2) 3))⟩), (10, ⟨[], .one (.leaf (.at (.v 3) 3))⟩)], [(0, .arr 101 55 (.v 4))]⟩⟩]
def b66 : List Blk := [
  ⟨[(0, 0, [false, false, true, false, true, true]), (2, 0, [false, false, true, false, true, true]), (1, 0, []), (0, 0, [true, true, true])], ⟨8, 1, [(1, ⟨[], .one (.leaf (.at (.v 0) 9))⟩), (4, ⟨[], .one (.leaf (.ptr (.p 0 0)))⟩), (17, ⟨[], .one (.leaf (.at (.v 1) 51))⟩), (18, ⟨[], .one (.leaf (.at (.v 2) 3))⟩), (19, ⟨[], .one (.leaf (.at (.v 3) 3))⟩)], [(0, .box 53 (.agg 53 [.at (.v 4) 3, .at (.v 5) 3, .at (.v 6) 3, .nil 49, .at (.v 7) 9, .nil 50, .nil 51]))]⟩⟩]
def b68 : List Blk := [
  ⟨[(0, 0, [true, true, true])], ⟨3, 2, [(2, ⟨[], .one (.leaf (.ptr (.p 0 0)))⟩), (3, ⟨[], .one (.leaf (.ptr (.p 1 0)))⟩), (5, ⟨[], .one (.leaf (.at (.v 0) 3))⟩)], [(0, .box 57 (.leaf (.at (.v 1) 57))), (1, .box 57 (.leaf (.at (.v 2) 57)))]⟩⟩,
  ⟨[(0, 0, [true, true, true, true])], ⟨3, 2, [(2, ⟨[], .one (.leaf (.ptr (.p 0 0)))⟩), (3, ⟨[], .one (.leaf (.ptr (.p 1 0)))⟩), (5, ⟨[], .one (.leaf (.at (.v 0) 3))⟩)], [(0, .box 57 (.leaf (.at (.v 1) 57))), (1, .box 57 (.leaf (.at (.v 2) 57)))]⟩⟩,
  ⟨[(0, 0, [false, false, true, false, true, true, true, true]), (2, 0, [false, false, true, false, true, true, true, true]), (1, 0, []), (0, 0, [true, true, true, true, true])], ⟨4, 2, [(2, ⟨[], .one (.leaf (.ptr (.p 0 0)))⟩), (3, ⟨[], .one (.leaf (.ptr (.p 1 0)))⟩), (5, ⟨[], .one (.leaf (.at (.v 0) 3))⟩), (6, ⟨[], .one (.leaf (.at (.v 1) 3))⟩)], [(0, .box 57 (.leaf (.at (.v 2) 57))), (1, .box 57 (.leaf (.at (.v 3) 57)))]⟩⟩,
  ⟨[(0, 0, [true, true, true, true, true, true])], ⟨3, 2, [(2, ⟨[], .one (.leaf (.ptr (.p 0 0)))⟩), (3, ⟨[], .one (.leaf (.ptr (.p 1 0)))⟩), (5, ⟨[], .one (.leaf (.at (.v 0) 3))⟩)], [(0, .box 57 (.leaf (.at (.v 1) 57))), (1, .box 57 (.leaf (.at (.v 2) 57)))]⟩⟩,
  ⟨[(0, 0, [false, false, true, false, true, true, true, true, true, true]), (2, 0, [false, false, true, false, true, true, true, true, true, true]), (1, 2, []), (0, 0, [true, true, true, true, true, true, true])], ⟨4, 2, [(2, ⟨[], .one (.leaf (.ptr (.p 0 0)))⟩), (3, ⟨[], .one (.leaf (.ptr (.p 1 0)))⟩), (5, ⟨[], .one (.leaf (.at (.v 0) 3))⟩), (7, ⟨[], .one (.leaf (.at (.v 1) 3))⟩)], [(0, .box 57 (.leaf (.at (.v 2) 57))), (1, .box 57 (.leaf (.at (.v 3) 57)))]⟩⟩,
  ⟨[(1, 3, []), (0, 0, [true, true, false, false, true, false, true, true, true, true, true, true]), (2, 0, [false, false, true, false, true, true, true, true, true, true]), (1, 2, []), (0, 0, [true, true, true, true, true, true, true])], ⟨4, 2, [(2, ⟨[], .one (.leaf (.ptr (.p 0 0)))⟩), (3, ⟨[], .one (.leaf (.ptr (.p 1 0)))⟩), (5, ⟨[], .one (.leaf (.at (.v 0) 3))⟩), (7, ⟨[], .one (.leaf (.at (.v 1) 3))⟩)], [(0, .box 57 (.leaf (.at (.v 2) 57))), (1, .box 57 (.leaf (.at (.v 3) 57)))]⟩⟩]
def b70 : List Blk := [
  ⟨[(0, 0, [false, false, true, false, true, true, true]), (2, 0, [false, false, true, false, true, true, true]), (1, 1, []), (0, 0, [true, true, true, true])], ⟨8, 3, [(2, ⟨[], .one (.leaf (.ptr (.p 0 0)))⟩), (4, ⟨[], .one (.leaf (.ptr (.p 1 0)))⟩), (5, ⟨[], .one (.leaf (.ref 2 55))⟩), (36, ⟨[], .one (.leaf (.at (.v 0) 55))⟩), (37, ⟨[], .one (.leaf (.at (.v 1) 3))⟩), (38, ⟨[], .one (.leaf (.at (.v 2) 3))⟩)], [(0, .box 53 (.leaf (.at (.v 3) 53))), (1, .box 57 (.agg 57 [.at (.v 4) 3, .at (.v 5) 3, .at (.v 6) 9, .nil 54, .nil 55])), (2, .arr 101 55 (.v 7))]⟩⟩,
  ⟨[(1, 2, []), (0, 0, [true, true, true, false, false, true, false, true, true, true]), (2, 0, [false, false, true, false, true, true, true]), (1, 1, []), (0, 0, [true, true, true, true])], ⟨8, 3, [(2, ⟨[], .one (.leaf (.ptr (.p 0 0)))⟩), (4, ⟨[], .one (.leaf (.ptr (.p 1 0)))⟩), (5, ⟨[], .one (.leaf (.ref 2 55))⟩), (36, ⟨[], .one (.leaf (.at (.v 0) 55))⟩), (37, ⟨[], .one (.leaf (.at (.v 1) 3))⟩), (38, ⟨[], .one (.leaf (.at (.v 2) 3))⟩)], [(0, .box 53 (.leaf (.at (.v 3) 53))), (1, .box 57 (.agg 57 [.at (.v 4) 3, .at (.v 5) 3, .at (.v 6) 9, .nil 54, .nil 55])), (2, .arr 101 55 (.v 7))]⟩⟩]
def b71 : List Blk := [
  ⟨[(0, 0, [false, false, true, false, true, true, true]), (2, 0, [false, false, true, false, true, true, true]), (1, 0, []), (0, 0, [true, true, true, true])], ⟨8, 3, [(2, ⟨[], .one (.leaf (.fn 38 []))⟩), (3, ⟨[], .one (.leaf (.ptr (.p 0 0)))⟩), (6, ⟨[], .one (.leaf (.ptr (.p 1 0)))⟩), (7, ⟨[], .one (.leaf (.ref 2 54))⟩), (17, ⟨[], .one (.leaf (.at (.v 0) 54))⟩), (18, ⟨[], .one (.leaf (.at (.v 1) 3))⟩), (19, ⟨[], .one (.leaf (.at (.v 2) 3))⟩)], [(0, .box 53 (.leaf (.at (.v 3) 53))), (1, .box 57 (.agg 57 [.at (.v 4) 3, .at (.v 5) 3, .at (.v 6) 9, .nil 54, .nil 55])), (2, .arr 57 54 (.v 7))]⟩⟩]
def b72 : List Blk := [
  ⟨[(0, 0, [false, false, true, false, true, false, true, false, true, true]), (2, 0, [false, false, true, false, true, false, true, false, true, true]), (1, 0, []), (0, 0, [true, true, false, true, false, true, true]), (0, 0, [true, true, true])], ⟨7, 4, [(2, ⟨[], .one (.leaf (.ptr (.p 0 0)))⟩), (3, ⟨[], .one (.leaf (.ptr (.p 1 0)))⟩), (4, ⟨[], .one (.leaf (.ptr (.p 2 0)))⟩), (5, ⟨[], .one (.leaf (.ref 3 54))⟩), (6, ⟨[], .one (.leaf (.at (.v 0) 3))⟩)], [(0, .box 53 (.leaf (.at (.v 1) 53))), (1, .box 57 (.leaf (.at (.v 2) 57))), (2, .box 57 (.agg 57 [.at (.v 3) 3, .at (.v 4) 3, .at (.v 5) 9, .nil 54, .nil 55])), (3, .arr 57 54 (.v 6))]⟩⟩,
  ⟨[(0, 0, [false, false, true, false, true, false, true, false, true, true, true, true]), (2, 0, [false, false, true, false, true, false, true, false, true, true, true, true]), (1, 2, []), (0, 0, [true, true, false, true, false, true, true, true, true]), (0, 0, [true, true, true, true, true])], ⟨7, 4, [(2, ⟨[], .one (.leaf (.ptr (.p 0 0)))⟩), (3, ⟨[], .one (.leaf (.ptr (.p 1 0)))⟩), (4, ⟨[], .one (.leaf (.ptr (.p 2 0)))⟩), (7, ⟨[], .one (.leaf (.ref 3 55))⟩), (8, ⟨[], .one (.leaf (.at (.v 0) 3))⟩)], [(0, .box 53 (.leaf (.at (.v 1) 53))), (1, .box 57 (.leaf (.at (.v 2) 57))), (2, .box 57 (.agg 57 [.at (.v 3) 3, .at (.v 4) 3, .at (.v 5) 9, .nil 54, .nil 55])), (3, .arr 101 55 (.v 6))]⟩⟩,
  ⟨[(0, 0, [false, false, true, false, true, true, true, true, true, true]), (2, 0, [false, false, true, false, true, true, true, true, true, true]), (1, 4, []), (0, 0, [true, true, true, true, true, true, true])], ⟨7, 4, [(2, ⟨[], .one (.leaf (.ptr (.p 0 0)))⟩), (3, ⟨[], .one (.leaf (.ptr (.p 1 0)))⟩), (4, ⟨[], .one (.leaf (.ptr (.p 2 0)))⟩), (9, ⟨[], .one (.leaf (.ptr (.p 3 0)))⟩), (10, ⟨[], .one (.leaf (.at (.v 0) 3))⟩)], [(0, .box 53 (.leaf (.at (.v 1) 53))), (1, .box 57 (.leaf (.at (.v 2) 57))), (2, .box 57 (.agg 57 [.at (.v 3) 3, .at (.v 4) 3, .at (.v 5) 9, .nil 54, .nil 55])), (3, .box 57 (.leaf (.at (.v 6) 57)))]⟩⟩,
  ⟨[(0, 0, [true, true, true, false, false, true, false, false, true, false, true, true, true, true, true, true]), (1, 5, []), (0, 0, [true, true, false, false, true, false, true, true, true, true, true, true]), (2, 0, [false, false, true, false, true, true, true, true, true, true]), (1, 4, []), (0, 0, [true, true, true, true, true, true, true])], ⟨10, 6, [(2, ⟨[], .one (.leaf (.ptr (.p 0 0)))⟩), (3, ⟨[], .one (.leaf (.ptr (.p 1 0)))⟩), (4, ⟨[], .one (.leaf (.ptr (.p 2 0)))⟩), (9, ⟨[], .one (.leaf (.ptr (.p 3 0)))⟩), (10, ⟨[], .one (.leaf (.at (.v 0) 3))⟩), (11, ⟨[], .one (.leaf (.ptr (.p 4 0)))⟩), (12, ⟨[], .one (.leaf (.ptr (.p 5 0)))⟩), (13, ⟨[], .one (.leaf (.at (.v 1) 4))⟩)], [(0, .box 53 (.leaf (.at (.v 2) 53))), (1, .box 57 (.leaf (.at (.v 3) 57))), (2, .box 57 (.agg 57 [.at (.v 4) 3, .at (.v 5) 3, .at (.v 6) 9, .nil 54, .nil 55])), (3, .box 57 (.leaf (.at (.v 7) 57))), (4, .box 109 (.leaf (.at (.v 8) 109))), (5, .box 57 (.leaf (.at (.v 9) 57)))]⟩⟩,
  ⟨[(1, 5, []), (0, 0, [true, true, false, false, true, false, true, true, true, true, true, true]), (2, 0, [false, false, true, false, true, true, true, true, true, true]), (1, 4, []), (0, 0, [true, true, true, true, true, true, true])], ⟨7, 4, [(2, ⟨[], .one (.leaf (.ptr (.p 0 0)))⟩), (3, ⟨[], .one (.leaf (.ptr (.p 1 0)))⟩), (4, ⟨[], .one (.leaf (.ptr (.p 2 0)))⟩), (9, ⟨[], .one (.leaf (.ptr (.p 3 0)))⟩), (10, ⟨[], .one (.leaf (.at (.v 0) 3))⟩)], [(0, .box 53 (.leaf (.at (.v 1) 53))), (1, .box 57 (.leaf (.at (.v 2) 57))), (2, .box 57 (.agg 57 [.at (.v 3) 3, .at (.v 4) 3, .at (.v 5) 9, .nil 54, .nil 55])), (3, .box 57 (.leaf (.at (.v 6) 57)))]⟩⟩]
def b75 : List Blk := [
  ⟨[(0, 0, [false, false, true, false, true, true]), (2, 0, [false, false, true, false, true, true]), (1, 0, []), (0, 0, [true, true, true])], ⟨4, 2, [(1, ⟨[], .one (.leaf (.at (.v 0) 9))⟩), (2, ⟨[], .one (.leaf (.ptr (.p 0 0)))⟩), (5, ⟨[], .one (.leaf (.ref 1 55))⟩), (6, ⟨[], .one (.leaf (.at (.v 1) 3))⟩)], [(0, .box 57 (.leaf (.at (.v 2) 57))), (1, .arr 101 55 (.v 3))]⟩⟩,
  ⟨[(1, 1, []), (0, 0, [true, true, false, false, true, false, true, true]), (2, 0, [false, false, true, false, true, true]), (1, 0, []), (0, 0, [true, true, true])], ⟨4, 2, [(1, ⟨[], .one (.leaf (.at (.v 0) 9))⟩), (2, ⟨[], .one (.leaf (.ptr (.p 0 0)))⟩), (5, ⟨[], .one (.leaf (.ref 1 55))⟩), (6, ⟨[], .one (.leaf (.at (.v 1) 3))⟩)], [(0, .box 57 (.leaf (.at (.v 2) 57))), (1, .arr 101 55 (.v 3))]⟩⟩]
def b77 : List Blk := [
  ⟨[(0, 0, [false, false, true, false, true, false, true, false, true, true]), (2, 0, [false, false, true, false, true, false, true, false, true, true]), (1, 0, []), (0, 0, [true, true, false, true, false, true, true]), (0, 0, [true, true, true])], ⟨7, 4, [(2, ⟨[], .one (.leaf (.ptr (.p 0 0)))⟩), (3, ⟨[], .one (.leaf (.ptr (.p 1 0)))⟩), (4, ⟨[], .one (.leaf (.ptr (.p 2 0)))⟩), (5, ⟨[], .one (.leaf (.ref 3 54))⟩), (6, ⟨[], .one (.leaf (.at (.v 0) 3))⟩)], [(0, .box 53 (.leaf (.at (.v 1) 53))), (1, .box 57 (.leaf (.at (.v 2) 57))), (2, .box 57 (.agg 57 [.at (.v 3) 3, .at (.v 4) 3, .at (.v 5) 9, .nil 54, .nil 55])), (3, .arr 57 54 (.v 6))]⟩⟩,
  ⟨[(0, 0, [false, false, true, false, true, true, true, true, true]), (2, 0, [false, false, true, false, true, true, true, true, true]), (1, 2, []), (0, 0, [true, true, true, true, true, true])], ⟨7, 4, [(2, ⟨[], .one (.leaf (.ptr (.p 0 0)))⟩), (3, ⟨[], .one (.leaf (.ptr (.p 1 0)))⟩), (4, ⟨[], .one (.leaf (.ptr (.p 2 0)))⟩), (7, ⟨[], .one (.leaf (.ref 3 55))⟩), (8, ⟨[], .one (.leaf (.at (.v 0) 3))⟩)], [(0, .box 53 (.leaf (.at (.v 1) 53))), (1, .box 57 (.leaf (.at (.v 2) 57))), (2, .box 57 (.agg 57 [.at (.v 3) 3, .at (.v 4) 3, .at (.v 5) 9, .nil 54, .nil 55])), (3, .arr 101 55 (.v 6))]⟩⟩,
  ⟨[(0, 0, [true, true, false, false, true, false, true, true, true, true, true]), (2, 0, [false, false, true, false, true, true, true, true, true]), (1, 2, []), (0, 0, [true, true, true, true, true, true])], ⟨7, 4, [(2, ⟨[], .one (.leaf (.ptr (.p 0 0)))⟩), (3, ⟨[], .one (.leaf (.ptr (.p 1 0)))⟩), (4, ⟨[], .one (.leaf (.ptr (.p 2 0)))⟩), (7, ⟨[], .one (.leaf (.ref 3 55))⟩), (8, ⟨[], .one (.leaf (.at (.v 0) 3))⟩)], [(0, .box 53 (.leaf (.at (.v 1) 53))), (1, .box 57 (.leaf (.at (.v 2) 57))), (2, .box 57 (.agg 57 [.at (.v 3) 3, .at (.v 4) 3, .at (.v 5) 9, .nil 54, .nil 55])), (3, .arr 101 55 (.v 6))]⟩⟩,
  ⟨[(1, 3, []), (0, 0, [true, true, false, false, true, false, true, true, true, true, true]), (2, 0, [false, false, true, false, true, true, true, true, true]), (1, 2, []), (0, 0, [true, true, true, true, true, true])], ⟨7, 4, [(2, ⟨[], .one (.leaf (.ptr (.p 0 0)))⟩), (3, ⟨[], .one (.leaf (.ptr (.p 1 0)))⟩), (4, ⟨[], .one (.leaf (.ptr (.p 2 0)))⟩), (7, ⟨[], .one (.leaf (.ref 3 55))⟩), (8, ⟨[], .one (.leaf (.at (.v 0) 3))⟩)], [(0, .box 53 (.leaf (.at (.v 1) 53))), (1, .box 57 (.leaf (.at (.v 2) 57))), (2, .box 57 (.agg 57 [.at (.v 3) 3, .at (.v 4) 3, .at (.v 5) 9, .nil 54, .nil 55])), (3, .arr 101 55 (.v 6))]⟩⟩]
def b78 : List Blk := [
  ⟨[(0, 0, [false, false, true, false, true]), (2, 0, [false, false, true, false, true]), (1, 0, []), (0, 0, [true, true])], ⟨7, 2, [(1, ⟨[], .one (.leaf (.at (.v 0) 9))⟩), (2, ⟨[], .one (.leaf (.ptr (.p 0 0)))⟩), (4, ⟨[], .one (.leaf (.ptr (.p 1 0)))⟩), (6, ⟨[], .one (.leaf (.at (.v 1) 3))⟩)], [(0, .box 53 (.leaf (.at (.v 2) 53))), (1, .box 53 (.agg 53 [.at (.v 3) 3, .at (.v 4) 3, .at (.v 5) 3, .nil 49, .at (.v 6) 9, .nil 50, .nil 51]))]⟩⟩]
def b80 : List Blk := [
  ⟨[(0, 0, [false, false, true, false, true, true]), (2, 0, [false, false, true, false, true, true]), (1, 0, []), (0, 0, [true, true, true])], ⟨3, 2, [(2, ⟨[], .one (.leaf (.ptr (.p 0 0)))⟩), (3, ⟨[], .one (.leaf (.ptr (.p 1 0)))⟩), (5, ⟨[], .one (.leaf (.at (.v 0) 3))⟩)], [(0, .box 57 (.leaf (.at (.v 1) 57))), (1, .box 57 (.leaf (.at (.v 2) 57)))]⟩⟩,
  ⟨[(0, 0, [false, false, true, false, true, true, true]), (2, 0, [false, false, true, false, true, true, true]), (1, 2, []), (0, 0, [true, true, true, true])], ⟨3, 2, [(2, ⟨[], .one (.leaf (.ptr (.p 0 0)))⟩), (3, ⟨[], .one (.leaf (.ptr (.p 1 0)))⟩), (6, ⟨[], .one (.leaf (.at (.v 0) 3))⟩)], [(0, .box 57 (.leaf (.at (.v 1) 57))), (1, .box 57 (.leaf (.at (.v 2) 57)))]⟩⟩]
def b81 : List Blk := [
  ⟨[(0, 0, [false, false, true, false, true]), (2, 0, [false, false, true, false, true]), (1, 0, []), (0, 0, [true, true])], ⟨2, 1, [(1, ⟨[], .one (.leaf (.ptr (.p 0 0)))⟩), (3, ⟨[], .one (.leaf (.at (.v 0) 3))⟩)], [(0, .box 53 (.leaf (.at (.v 1) 53)))]⟩⟩,
  ⟨[(0, 0, [false, false, true, false, true, true]), (2, 0, [false, false, true, false, true, true]), (1, 2, []), (0, 0, [true, true, true])], ⟨2, 1, [(1, ⟨[], .one (.leaf (.ptr (.p 0 0)))⟩), (4, ⟨[], .one (.leaf (.at (.v 0) 3))⟩)], [(0, .box 53 (.leaf (.at (.v 1) 53)))]⟩⟩]
def b82 : List Blk := [
  ⟨[(0, 0, [false, false, true, false, true, true]), (2, 0, [false, false, true, false, true, true]), (1, 0, []), (0, 0, [true, true, true])], ⟨2, 1, [(1, ⟨[], .one (.leaf (.ptr (.p 0 0)))⟩), (3, ⟨[], .one (.leaf (.at (.v 0) 3))⟩)], [(0, .box 57 (.leaf (.at (.v 1) 57)))]⟩⟩,
  ⟨[(0, 0, [false, false, true, false, true, true, true]), (2, 0, [false, false, true, false, true, true, true]), (1, 2, []), (0, 0, [true, true, true, true])], ⟨2, 1, [(1, ⟨[], .one (.leaf (.ptr (.p 0 0)))⟩), (4, ⟨[], .one (.leaf (.at (.v 0) 3))⟩)], [(0, .box 57 (.leaf (.at (.v 1) 57)))]⟩⟩]
def blks (i : Nat) : List Blk :=
  match i with
  | 2 => b2
  | 6 => b6
  | 7 => b7
  | 8 => b8
  | 9 => b9
  | 10 => b10
  | 11 => b11
  | 13 => b13
  | 14 => b14
  | 15 => b15
  | 16 => b16
  | 18 => b18
  | 19 => b19
  | 21 => b21
  | 23 => b23
  | 25 => b25
  | 26 => b26
  | 29 => b29
  | 30 => b30
  | 32 => b32
  | 35 => b35
  | 37 => b37
  | 38 => b38
  | 42 => b42
  | 45 => b45
  | 48 => b48
  | 49 => b49
  | 52 => b52
  | 53 => b53
  | 55 => b55
  | 57 => b57
  | 58 => b58
  | 63 => b63
  | 64 => b64
  | 65 => b65
  | 66 => b66
  | 68 => b68
  | 70 => b70
  | 71 => b71
  | 72 => b72
  | 75 => b75
  | 77 => b77
  | 78 => b78
  | 80 => b80
  | 81 => b81
  | 82 => b82
  | _ => []
def pr (i : Nat) : Option (List IV → Option (List IV)) :=
  match i with
  | 46 => some O.cloneF
  | 47 => some O.cloneF
  | 62 => some O.compareF
  | _ => none
/-- What the functions say. -/
noncomputable def W (f b : Nat) (xs : List IV) : Option (List IV) := V (tab Try.prog specs blks 3000) pr ⟨f, b⟩ xs
theorem e_f_law08_DefaultsFill_0 (x0 x1 : IV) : W f_law08_DefaultsFill 0 [x0, x1] =
  calls (W f_law08_fits 0 [x0, x1]) 1 fun x2 =>
  (O.not x2).bind fun x3 =>
  cnd x3 (
    calls (W f_law08_lives 0 []) 1 fun x4 =>
    some [x4]) (
    calls (W f_law08_lives 0 []) 1 fun x4 =>
    (cnd x4 (
        calls (W f_defaults_Fill 0 [x0, x1]) 1 fun x5 =>
        calls (W f_ref08_Fill 0 [x0, x1]) 1 fun x6 =>
        calls (W f_ref04_Equal 0 [x5, x6]) 1 fun x7 =>
        some x7) (some (.bool false))).bind fun x5 =>
    some [x5]) := V_is rfl (by kernel_rfl)
theorem e_f_law08_fits_0 (x0 x1 : IV) : W f_law08_fits 0 [x0, x1] =
  calls (W f_ref08_Size 0 [x0, (.int 300)]) 1 fun x2 =>
  (O.lt x2 (.int 300)).bind fun x3 =>
  (cnd x3 (
      calls (W f_ref07_Valid 0 [x0]) 1 fun x4 =>
      some x4) (some (.bool false))).bind fun x4 =>
  (cnd x4 (
      calls (W f_ref04_Small 0 [x1, (.int 700)]) 1 fun x5 =>
      some x5) (some (.bool false))).bind fun x5 =>
  (cnd x5 (
      calls (W f_ref04_Valid 0 [x1]) 1 fun x6 =>
      some x6) (some (.bool false))).bind fun x6 =>
  some [x6] := V_is rfl (by kernel_rfl)
theorem e_f_ref08_Size_0 (x0 x1 : IV) : W f_ref08_Size 0 [x0, x1] =
  W f_ref08_Size 1 [x1, (.int 1), (.int 0), x0] := V_is rfl (by kernel_rfl)
theorem e_f_ref08_Size_1 (x0 x1 x2 x3 : IV) : W f_ref08_Size 1 [x0, x1, x2, x3] =
  (O.proj 5 x3).bind fun x4 =>
  (O.len x4).bind fun x5 =>
  (O.lt x2 x5).bind fun x6 =>
  (cnd x6 (
      (O.lt x1 x0).bind fun x7 =>
      some x7) (some (.bool false))).bind fun x7 =>
  cnd x7 (
    (O.index x4 x2).bind fun x8 =>
    (O.sub .i64 x0 x1).bind fun x9 =>
    calls (W f_ref08_Size 0 [x8, x9]) 1 fun x10 =>
    (O.add .i64 x1 x10).bind fun x11 =>
    (O.add .i64 x2 (.int 1)).bind fun x12 =>
    W f_ref08_Size 1 [x0, x11, x12, x3]) (
    W f_ref08_Size 2 [x0, x1, (.int 0), x3]) := V_is rfl (by kernel_rfl)
theorem e_f_ref08_Size_2 (x0 x1 x2 x3 : IV) : W f_ref08_Size 2 [x0, x1, x2, x3] =
  (O.proj 6 x3).bind fun x4 =>
  (O.len x4).bind fun x5 =>
  (O.lt x2 x5).bind fun x6 =>
  (cnd x6 (
      (O.lt x1 x0).bind fun x7 =>
      some x7) (some (.bool false))).bind fun x7 =>
  cnd x7 (
    (O.index x4 x2).bind fun x8 =>
    (O.projs 4 7 x8).bind fun x9 =>
    (O.sub .i64 x0 x1).bind fun x10 =>
    calls (W f_ref08_Size 0 [x9, x10]) 1 fun x11 =>
    (O.add .i64 x1 x11).bind fun x12 =>
    (O.add .i64 x2 (.int 1)).bind fun x13 =>
    W f_ref08_Size 2 [x0, x12, x13, x3]) (
    some [x1]) := V_is rfl (by kernel_rfl)
theorem e_f_ref07_Valid_0 (x0 : IV) : W f_ref07_Valid 0 [x0] =
  calls (W f_ref07_valid 0 [x0, (.int 12)]) 1 fun x1 =>
  some [x1] := V_is rfl (by kernel_rfl)
theorem e_f_ref07_valid_0 (x0 x1 : IV) : W f_ref07_valid 0 [x0, x1] =
  (O.eq x1 (.int 0)).bind fun x2 =>
  cnd x2 (
    some [(.bool false)]) (
    (O.proj 0 x0).bind fun x3 =>
    (O.eq x3 (.int 1)).bind fun x4 =>
    cnd x4 (
      calls (W f_ref07_plain 0 [x0]) 1 fun x5 =>
      (cnd x5 (
          (O.proj 1 x0).bind fun x6 =>
          (O.eq x6 (.int 0)).bind fun x7 =>
          some x7) (some (.bool false))).bind fun x6 =>
      (cnd x6 (
          (O.proj 2 x0).bind fun x7 =>
          (O.eq x7 (.int 0)).bind fun x8 =>
          some x8) (some (.bool false))).bind fun x7 =>
      (cnd x7 (
          (O.proj 3 x0).bind fun x8 =>
          (O.len x8).bind fun x9 =>
          (O.eq x9 (.int 0)).bind fun x10 =>
          some x10) (some (.bool false))).bind fun x8 =>
      some [x8]) (
      (O.eq x3 (.int 2)).bind fun x5 =>
      cnd x5 (
        calls (W f_ref07_plain 0 [x0]) 1 fun x6 =>
        (cnd x6 (
            (O.proj 1 x0).bind fun x7 =>
            (O.le (.int (-1000000000000000)) x7).bind fun x8 =>
            some x8) (some (.bool false))).bind fun x7 =>
        (cnd x7 (
            (O.proj 1 x0).bind fun x8 =>
            (O.proj 2 x0).bind fun x9 =>
            (O.le x8 x9).bind fun x10 =>
            some x10) (some (.bool false))).bind fun x8 =>
        (cnd x8 (
            (O.proj 2 x0).bind fun x9 =>
            (O.le x9 (.int 1000000000000000)).bind fun x10 =>
            some x10) (some (.bool false))).bind fun x9 =>
        (cnd x9 (
            (O.proj 3 x0).bind fun x10 =>
            (O.len x10).bind fun x11 =>
            (O.eq x11 (.int 0)).bind fun x12 =>
            some x12) (some (.bool false))).bind fun x10 =>
        some [x10]) (
        (O.eq x3 (.int 3)).bind fun x6 =>
        cnd x6 (
          calls (W f_ref07_text 0 [x0]) 1 fun x7 =>
          some [x7]) (
          (O.eq x3 (.int 4)).bind fun x7 =>
          cnd x7 (
            calls (W f_ref07_list 0 [x0, x1]) 1 fun x8 =>
            some [x8]) (
            (O.eq x3 (.int 5)).bind fun x8 =>
            cnd x8 (
              calls (W f_ref07_structure 0 [x0, x1]) 1 fun x9 =>
              some [x9]) (
              some [(.bool false)])))))) := V_is rfl (by kernel_rfl)
theorem e_f_ref07_plain_0 (x0 : IV) : W f_ref07_plain 0 [x0] =
  (O.proj 4 x0).bind fun x1 =>
  (O.sEq x1 (.str ⟨#[]⟩)).bind fun x2 =>
  (cnd x2 (
      (O.proj 5 x0).bind fun x3 =>
      (O.len x3).bind fun x4 =>
      (O.eq x4 (.int 0)).bind fun x5 =>
      some x5) (some (.bool false))).bind fun x3 =>
  (cnd x3 (
      (O.proj 6 x0).bind fun x4 =>
      (O.len x4).bind fun x5 =>
      (O.eq x5 (.int 0)).bind fun x6 =>
      some x6) (some (.bool false))).bind fun x4 =>
  some [x4] := V_is rfl (by kernel_rfl)
theorem e_f_ref07_text_0 (x0 : IV) : W f_ref07_text 0 [x0] =
  W f_ref07_text 1 [(.int 0), x0] := V_is rfl (by kernel_rfl)
theorem e_f_ref07_text_1 (x0 x1 : IV) : W f_ref07_text 1 [x0, x1] =
  (O.proj 3 x1).bind fun x2 =>
  (O.len x2).bind fun x3 =>
  (O.lt x0 x3).bind fun x4 =>
  cnd x4 (
    (O.index x2 x0).bind fun x5 =>
    (O.slen x5).bind fun x6 =>
    calls (W f_ref04_ValidString 0 [x5]) 1 fun x7 =>
    (O.not x7).bind fun x8 =>
    (cnd x8 (some (.bool true)) (
        (O.proj 1 x1).bind fun x9 =>
        (O.lt x6 x9).bind fun x10 =>
        some x10)).bind fun x9 =>
    (cnd x9 (some (.bool true)) (
        (O.proj 2 x1).bind fun x10 =>
        (O.gt x6 x10).bind fun x11 =>
        some x11)).bind fun x10 =>
    (cnd x10 (some (.bool true)) (
        (O.gt x0 (.int 0)).bind fun x11 =>
        (cnd x11 (
            (O.sub .i64 x0 (.int 1)).bind fun x12 =>
            (O.index x2 x12).bind fun x13 =>
            (O.sLe x5 x13).bind fun x14 =>
            some x14) (some (.bool false))).bind fun x12 =>
        some x12)).bind fun x11 =>
    cnd x11 (
      some [(.bool false)]) (
      (O.add .i64 x0 (.int 1)).bind fun x12 =>
      W f_ref07_text 1 [x12, x1])) (
    calls (W f_ref07_plain 0 [x1]) 1 fun x5 =>
    (cnd x5 (
        (O.proj 1 x1).bind fun x6 =>
        (O.ge x6 (.int 0)).bind fun x7 =>
        some x7) (some (.bool false))).bind fun x6 =>
    (cnd x6 (
        (O.proj 1 x1).bind fun x7 =>
        (O.proj 2 x1).bind fun x8 =>
        (O.le x7 x8).bind fun x9 =>
        some x9) (some (.bool false))).bind fun x7 =>
    (cnd x7 (
        (O.proj 2 x1).bind fun x8 =>
        (O.le x8 (.int 200)).bind fun x9 =>
        some x9) (some (.bool false))).bind fun x8 =>
    (cnd x8 (
        (O.le x3 (.int 64)).bind fun x9 =>
        some x9) (some (.bool false))).bind fun x9 =>
    some [x9]) := V_is rfl (by kernel_rfl)
theorem e_f_ref04_ValidString_0 (x0 : IV) : W f_ref04_ValidString 0 [x0] =
  W f_ref04_ValidString 1 [x0, (.int 0)] := V_is rfl (by kernel_rfl)
theorem e_f_ref04_ValidString_1 (x0 x1 : IV) : W f_ref04_ValidString 1 [x0, x1] =
  (O.slen x0).bind fun x2 =>
  (O.lt x1 x2).bind fun x3 =>
  cnd x3 (
    (O.sindex x0 x1).bind fun x4 =>
    (O.ne x4 (.int 10)).bind fun x5 =>
    (cnd x5 (
        (O.lt x4 (.int 32)).bind fun x6 =>
        (cnd x6 (some (.bool true)) (
            (O.gt x4 (.int 126)).bind fun x7 =>
            some x7)).bind fun x7 =>
        some x7) (some (.bool false))).bind fun x6 =>
    cnd x6 (
      some [(.bool false)]) (
      (O.add .i64 x1 (.int 1)).bind fun x7 =>
      W f_ref04_ValidString 1 [x0, x7])) (
    (O.le x2 (.int 200)).bind fun x4 =>
    some [x4]) := V_is rfl (by kernel_rfl)
theorem e_f_ref07_list_0 (x0 x1 : IV) : W f_ref07_list 0 [x0, x1] =
  (O.proj 1 x0).bind fun x2 =>
  (O.lt x2 (.int 0)).bind fun x3 =>
  (cnd x3 (some (.bool true)) (
      (O.proj 2 x0).bind fun x4 =>
      (O.gt x2 x4).bind fun x5 =>
      some x5)).bind fun x4 =>
  (cnd x4 (some (.bool true)) (
      (O.proj 2 x0).bind fun x5 =>
      (O.gt x5 (.int 64)).bind fun x6 =>
      some x6)).bind fun x5 =>
  (cnd x5 (some (.bool true)) (
      (O.proj 3 x0).bind fun x6 =>
      (O.len x6).bind fun x7 =>
      (O.gt x7 (.int 0)).bind fun x8 =>
      some x8)).bind fun x6 =>
  (cnd x6 (some (.bool true)) (
      (O.proj 6 x0).bind fun x7 =>
      (O.len x7).bind fun x8 =>
      (O.gt x8 (.int 0)).bind fun x9 =>
      some x9)).bind fun x7 =>
  (cnd x7 (some (.bool true)) (
      (O.proj 5 x0).bind fun x8 =>
      (O.len x8).bind fun x9 =>
      (O.ne x9 (.int 1)).bind fun x10 =>
      some x10)).bind fun x8 =>
  cnd x8 (
    some [(.bool false)]) (
    (O.proj 4 x0).bind fun x9 =>
    (O.sNe x9 (.str ⟨#[]⟩)).bind fun x10 =>
    cnd x10 (
      (O.proj 5 x0).bind fun x11 =>
      (O.index x11 (.int 0)).bind fun x12 =>
      calls (W f_ref07_field 0 [x12, x9]) 2 fun x13 x14 =>
      (O.proj 0 x12).bind fun x15 =>
      (O.ne x15 (.int 5)).bind fun x16 =>
      (cnd x16 (some (.bool true)) (
          (O.not x14).bind fun x17 =>
          some x17)).bind fun x17 =>
      (cnd x17 (some (.bool true)) (
          (O.proj 1 x13).bind fun x18 =>
          (O.not x18).bind fun x19 =>
          some x19)).bind fun x18 =>
      (cnd x18 (some (.bool true)) (
          (O.proj 4 x13).bind fun x19 =>
          (O.ne x19 (.int 3)).bind fun x20 =>
          some x20)).bind fun x19 =>
      cnd x19 (
        some [(.bool false)]) (
        W f_ref07_list 1 [x1, x0])) (
      W f_ref07_list 1 [x1, x0])) := V_is rfl (by kernel_rfl)
theorem e_f_ref07_list_1 (x0 x1 : IV) : W f_ref07_list 1 [x0, x1] =
  (O.proj 5 x1).bind fun x2 =>
  (O.index x2 (.int 0)).bind fun x3 =>
  (O.sub .i64 x0 (.int 1)).bind fun x4 =>
  calls (W f_ref07_valid 0 [x3, x4]) 1 fun x5 =>
  some [x5] := V_is rfl (by kernel_rfl)
theorem e_f_ref07_field_0 (x0 x1 : IV) : W f_ref07_field 0 [x0, x1] =
  W f_ref07_field 1 [x1, (.int 0), x0, (.str ⟨#[]⟩), (.bool false), (.bool false), (.int 0), (.int 0), (.int 0), (.str ⟨#[]⟩)] := V_is rfl (by kernel_rfl)
theorem e_f_ref07_field_1 (x0 x1 x2 x3 x4 x5 x6 x7 x8 x9 : IV) : W f_ref07_field 1 [x0, x1, x2, x3, x4, x5, x6, x7, x8, x9] =
  (O.proj 6 x2).bind fun x10 =>
  (O.len x10).bind fun x11 =>
  (O.lt x1 x11).bind fun x12 =>
  cnd x12 (
    (O.index x10 x1).bind fun x13 =>
    (O.proj 0 x13).bind fun x14 =>
    (O.sEq x14 x0).bind fun x15 =>
    cnd x15 (
      some [x13, (.bool true)]) (
      (O.add .i64 x1 (.int 1)).bind fun x16 =>
      W f_ref07_field 1 [x0, x16, x2, x3, x4, x5, x6, x7, x8, x9])) (
    (O.mkagg [(.str ⟨#[]⟩), (.bool false), (.bool false), (.list []), (.int 0), (.int 0), (.int 0), (.list []), (.str ⟨#[]⟩), (.list []), (.list [])]).bind fun x13 =>
    some [x13, (.bool false)]) := V_is rfl (by kernel_rfl)
theorem e_f_ref07_structure_0 (x0 x1 : IV) : W f_ref07_structure 0 [x0, x1] =
  (O.proj 1 x0).bind fun x2 =>
  (O.ne x2 (.int 0)).bind fun x3 =>
  (cnd x3 (some (.bool true)) (
      (O.proj 2 x0).bind fun x4 =>
      (O.ne x4 (.int 0)).bind fun x5 =>
      some x5)).bind fun x4 =>
  (cnd x4 (some (.bool true)) (
      (O.proj 3 x0).bind fun x5 =>
      (O.len x5).bind fun x6 =>
      (O.gt x6 (.int 0)).bind fun x7 =>
      some x7)).bind fun x5 =>
  (cnd x5 (some (.bool true)) (
      (O.proj 4 x0).bind fun x6 =>
      (O.sNe x6 (.str ⟨#[]⟩)).bind fun x7 =>
      some x7)).bind fun x6 =>
  (cnd x6 (some (.bool true)) (
      (O.proj 5 x0).bind fun x7 =>
      (O.len x7).bind fun x8 =>
      (O.gt x8 (.int 1)).bind fun x9 =>
      some x9)).bind fun x7 =>
  (cnd x7 (some (.bool true)) (
      (O.proj 5 x0).bind fun x8 =>
      (O.len x8).bind fun x9 =>
      (O.eq x9 (.int 1)).bind fun x10 =>
      (cnd x10 (
          (O.proj 6 x0).bind fun x11 =>
          (O.len x11).bind fun x12 =>
          (O.gt x12 (.int 0)).bind fun x13 =>
          some x13) (some (.bool false))).bind fun x11 =>
      some x11)).bind fun x8 =>
  (cnd x8 (some (.bool true)) (
      (O.proj 6 x0).bind fun x9 =>
      (O.len x9).bind fun x10 =>
      (O.gt x10 (.int 64)).bind fun x11 =>
      some x11)).bind fun x9 =>
  cnd x9 (
    some [(.bool false)]) (
    (O.proj 5 x0).bind fun x10 =>
    (O.len x10).bind fun x11 =>
    (O.eq x11 (.int 1)).bind fun x12 =>
    cnd x12 (
      (O.index x10 (.int 0)).bind fun x13 =>
      (O.sub .i64 x1 (.int 1)).bind fun x14 =>
      calls (W f_ref07_valid 0 [x13, x14]) 1 fun x15 =>
      some [x15]) (
      W f_ref07_structure 1 [x1, (.int 0), x0])) := V_is rfl (by kernel_rfl)
theorem e_f_ref07_structure_1 (x0 x1 x2 : IV) : W f_ref07_structure 1 [x0, x1, x2] =
  (O.proj 6 x2).bind fun x3 =>
  (O.len x3).bind fun x4 =>
  (O.lt x1 x4).bind fun x5 =>
  cnd x5 (
    (O.index x3 x1).bind fun x6 =>
    (O.proj 0 x6).bind fun x7 =>
    calls (W f_ref04_ValidField 0 [x7]) 1 fun x8 =>
    (O.not x8).bind fun x9 =>
    (cnd x9 (some (.bool true)) (
        (O.gt x1 (.int 0)).bind fun x10 =>
        (cnd x10 (
            (O.sub .i64 x1 (.int 1)).bind fun x11 =>
            (O.index x3 x11).bind fun x12 =>
            (O.proj 0 x12).bind fun x13 =>
            (O.sLe x7 x13).bind fun x14 =>
            some x14) (some (.bool false))).bind fun x11 =>
        some x11)).bind fun x10 =>
    (cnd x10 (some (.bool true)) (
        (O.projs 4 7 x6).bind fun x11 =>
        (O.sub .i64 x0 (.int 1)).bind fun x12 =>
        calls (W f_ref07_valid 0 [x11, x12]) 1 fun x13 =>
        (O.not x13).bind fun x14 =>
        some x14)).bind fun x11 =>
    (cnd x11 (some (.bool true)) (
        (O.proj 3 x6).bind fun x12 =>
        (O.len x12).bind fun x13 =>
        (O.gt x13 (.int 1)).bind fun x14 =>
        some x14)).bind fun x12 =>
    cnd x12 (
      some [(.bool false)]) (
      (O.proj 3 x6).bind fun x13 =>
      (O.len x13).bind fun x14 =>
      (O.eq x14 (.int 1)).bind fun x15 =>
      (cnd x15 (
          (O.index x13 (.int 0)).bind fun x16 =>
          (O.proj 0 x16).bind fun x17 =>
          (O.eq x17 (.int 0)).bind fun x18 =>
          (cnd x18 (some (.bool true)) (
              calls (W f_ref04_Valid 0 [x16]) 1 fun x19 =>
              (O.not x19).bind fun x20 =>
              some x20)).bind fun x19 =>
          (cnd x19 (some (.bool true)) (
              (O.projs 4 7 x6).bind fun x20 =>
              calls (W f_ref07_errors 0 [x20, x16, (.list [])]) 1 fun x21 =>
              (O.len x21).bind fun x22 =>
              (O.gt x22 (.int 0)).bind fun x23 =>
              some x23)).bind fun x20 =>
          some x20) (some (.bool false))).bind fun x16 =>
      cnd x16 (
        some [(.bool false)]) (
        (O.add .i64 x1 (.int 1)).bind fun x17 =>
        W f_ref07_structure 1 [x0, x17, x2]))) (
    some [(.bool true)]) := V_is rfl (by kernel_rfl)
theorem e_f_ref04_ValidField_0 (x0 : IV) : W f_ref04_ValidField 0 [x0] =
  W f_ref04_ValidField 1 [x0, (.int 0)] := V_is rfl (by kernel_rfl)
theorem e_f_ref04_ValidField_1 (x0 x1 : IV) : W f_ref04_ValidField 1 [x0, x1] =
  (O.slen x0).bind fun x2 =>
  (O.lt x1 x2).bind fun x3 =>
  cnd x3 (
    (O.sindex x0 x1).bind fun x4 =>
    (O.ge x4 (.int 97)).bind fun x5 =>
    (cnd x5 (
        (O.le x4 (.int 122)).bind fun x6 =>
        some x6) (some (.bool false))).bind fun x6 =>
    (cnd x6 (some (.bool true)) (
        (O.ge x4 (.int 65)).bind fun x7 =>
        (cnd x7 (
            (O.le x4 (.int 90)).bind fun x8 =>
            some x8) (some (.bool false))).bind fun x8 =>
        some x8)).bind fun x7 =>
    (O.not x7).bind fun x8 =>
    (cnd x8 (
        (O.ge x4 (.int 48)).bind fun x9 =>
        (cnd x9 (
            (O.le x4 (.int 57)).bind fun x10 =>
            some x10) (some (.bool false))).bind fun x10 =>
        (O.not x10).bind fun x11 =>
        some x11) (some (.bool false))).bind fun x9 =>
    (cnd x9 (
        (O.ne x4 (.int 45)).bind fun x10 =>
        some x10) (some (.bool false))).bind fun x10 =>
    (cnd x10 (
        (O.ne x4 (.int 95)).bind fun x11 =>
        some x11) (some (.bool false))).bind fun x11 =>
    (cnd x11 (
        (O.ne x4 (.int 47)).bind fun x12 =>
        some x12) (some (.bool false))).bind fun x12 =>
    cnd x12 (
      some [(.bool false)]) (
      (O.add .i64 x1 (.int 1)).bind fun x13 =>
      W f_ref04_ValidField 1 [x0, x13])) (
    (O.ge x2 (.int 1)).bind fun x4 =>
    (cnd x4 (
        (O.le x2 (.int 40)).bind fun x5 =>
        some x5) (some (.bool false))).bind fun x5 =>
    some [x5]) := V_is rfl (by kernel_rfl)
theorem e_f_ref04_Valid_0 (x0 : IV) : W f_ref04_Valid 0 [x0] =
  calls (W f_ref04_valid 0 [x0, (.int 12)]) 1 fun x1 =>
  (cnd x1 (
      calls (W f_ref04_Size 0 [x0]) 1 fun x2 =>
      (O.le x2 (.int 600)).bind fun x3 =>
      some x3) (some (.bool false))).bind fun x2 =>
  some [x2] := V_is rfl (by kernel_rfl)
theorem e_f_ref04_valid_0 (x0 x1 : IV) : W f_ref04_valid 0 [x0, x1] =
  (O.eq x1 (.int 0)).bind fun x2 =>
  (cnd x2 (some (.bool true)) (
      calls (W f_ref04_scalar 0 [x0]) 1 fun x3 =>
      (O.not x3).bind fun x4 =>
      some x4)).bind fun x3 =>
  (cnd x3 (some (.bool true)) (
      (O.proj 3 x0).bind fun x4 =>
      (O.len x4).bind fun x5 =>
      (O.gt x5 (.int 64)).bind fun x6 =>
      some x6)).bind fun x4 =>
  (cnd x4 (some (.bool true)) (
      (O.proj 4 x0).bind fun x5 =>
      (O.len x5).bind fun x6 =>
      (O.gt x6 (.int 64)).bind fun x7 =>
      some x7)).bind fun x5 =>
  cnd x5 (
    some [(.bool false)]) (
    (O.proj 0 x0).bind fun x6 =>
    (O.ne x6 (.int 4)).bind fun x7 =>
    (cnd x7 (
        (O.proj 3 x0).bind fun x8 =>
        (O.len x8).bind fun x9 =>
        (O.gt x9 (.int 0)).bind fun x10 =>
        some x10) (some (.bool false))).bind fun x8 =>
    (cnd x8 (some (.bool true)) (
        (O.ne x6 (.int 5)).bind fun x9 =>
        (cnd x9 (
            (O.proj 4 x0).bind fun x10 =>
            (O.len x10).bind fun x11 =>
            (O.gt x11 (.int 0)).bind fun x12 =>
            some x12) (some (.bool false))).bind fun x10 =>
        some x10)).bind fun x9 =>
    cnd x9 (
      some [(.bool false)]) (
      W f_ref04_valid 1 [x1, (.int 0), x0])) := V_is rfl (by kernel_rfl)
theorem e_f_ref04_valid_1 (x0 x1 x2 : IV) : W f_ref04_valid 1 [x0, x1, x2] =
  (O.proj 3 x2).bind fun x3 =>
  (O.len x3).bind fun x4 =>
  (O.lt x1 x4).bind fun x5 =>
  cnd x5 (
    (O.index x3 x1).bind fun x6 =>
    (O.sub .i64 x0 (.int 1)).bind fun x7 =>
    calls (W f_ref04_valid 0 [x6, x7]) 1 fun x8 =>
    (O.not x8).bind fun x9 =>
    cnd x9 (
      some [(.bool false)]) (
      (O.add .i64 x1 (.int 1)).bind fun x10 =>
      W f_ref04_valid 1 [x0, x10, x2])) (
    W f_ref04_valid 2 [x0, (.int 0), x2]) := V_is rfl (by kernel_rfl)
theorem e_f_ref04_valid_2 (x0 x1 x2 : IV) : W f_ref04_valid 2 [x0, x1, x2] =
  (O.proj 4 x2).bind fun x3 =>
  (O.len x3).bind fun x4 =>
  (O.lt x1 x4).bind fun x5 =>
  cnd x5 (
    (O.index x3 x1).bind fun x6 =>
    (O.proj 0 x6).bind fun x7 =>
    calls (W f_ref04_ValidField 0 [x7]) 1 fun x8 =>
    (O.not x8).bind fun x9 =>
    (cnd x9 (some (.bool true)) (
        (O.gt x1 (.int 0)).bind fun x10 =>
        (cnd x10 (
            (O.sub .i64 x1 (.int 1)).bind fun x11 =>
            (O.index x3 x11).bind fun x12 =>
            (O.proj 0 x12).bind fun x13 =>
            (O.sLe x7 x13).bind fun x14 =>
            some x14) (some (.bool false))).bind fun x11 =>
        some x11)).bind fun x10 =>
    (cnd x10 (some (.bool true)) (
        (O.projs 1 5 x6).bind fun x11 =>
        (O.sub .i64 x0 (.int 1)).bind fun x12 =>
        calls (W f_ref04_valid 0 [x11, x12]) 1 fun x13 =>
        (O.not x13).bind fun x14 =>
        some x14)).bind fun x11 =>
    cnd x11 (
      some [(.bool false)]) (
      (O.add .i64 x1 (.int 1)).bind fun x12 =>
      W f_ref04_valid 2 [x0, x12, x2])) (
    some [(.bool true)]) := V_is rfl (by kernel_rfl)
theorem e_f_ref04_scalar_0 (x0 : IV) : W f_ref04_scalar 0 [x0] =
  (O.proj 0 x0).bind fun x1 =>
  (O.eq x1 (.int 1)).bind fun x2 =>
  cnd x2 (
    (O.proj 1 x0).bind fun x3 =>
    (O.eq x3 (.int 0)).bind fun x4 =>
    (cnd x4 (some (.bool true)) (
        (O.eq x3 (.int 1)).bind fun x5 =>
        some x5)).bind fun x5 =>
    (cnd x5 (
        (O.proj 2 x0).bind fun x6 =>
        (O.sEq x6 (.str ⟨#[]⟩)).bind fun x7 =>
        some x7) (some (.bool false))).bind fun x6 =>
    some [x6]) (
    (O.eq x1 (.int 2)).bind fun x3 =>
    cnd x3 (
      (O.proj 1 x0).bind fun x4 =>
      (O.ge x4 (.int (-1000000000000000))).bind fun x5 =>
      (cnd x5 (
          (O.le x4 (.int 1000000000000000)).bind fun x6 =>
          some x6) (some (.bool false))).bind fun x6 =>
      (cnd x6 (
          (O.proj 2 x0).bind fun x7 =>
          (O.sEq x7 (.str ⟨#[]⟩)).bind fun x8 =>
          some x8) (some (.bool false))).bind fun x7 =>
      some [x7]) (
      (O.eq x1 (.int 3)).bind fun x4 =>
      cnd x4 (
        (O.proj 1 x0).bind fun x5 =>
        (O.eq x5 (.int 0)).bind fun x6 =>
        (cnd x6 (
            (O.proj 2 x0).bind fun x7 =>
            calls (W f_ref04_ValidString 0 [x7]) 1 fun x8 =>
            some x8) (some (.bool false))).bind fun x7 =>
        some [x7]) (
        (O.eq x1 (.int 0)).bind fun x5 =>
        cnd x5 (
          W f_ref04_scalar 1 [x5, x0]) (
          (O.eq x1 (.int 4)).bind fun x6 =>
          cnd x6 (
            W f_ref04_scalar 1 [x6, x0]) (
            (O.eq x1 (.int 5)).bind fun x7 =>
            W f_ref04_scalar 1 [x7, x0]))))) := V_is rfl (by kernel_rfl)
theorem e_f_ref04_scalar_1 (x0 x1 : IV) : W f_ref04_scalar 1 [x0, x1] =
  cnd x0 (
    (O.proj 1 x1).bind fun x2 =>
    (O.eq x2 (.int 0)).bind fun x3 =>
    (cnd x3 (
        (O.proj 2 x1).bind fun x4 =>
        (O.sEq x4 (.str ⟨#[]⟩)).bind fun x5 =>
        some x5) (some (.bool false))).bind fun x4 =>
    some [x4]) (
    some [(.bool false)]) := V_is rfl (by kernel_rfl)
theorem e_f_ref04_Size_0 (x0 : IV) : W f_ref04_Size 0 [x0] =
  W f_ref04_Size 1 [(.int 1), (.int 0), x0] := V_is rfl (by kernel_rfl)
theorem e_f_ref04_Size_1 (x0 x1 x2 : IV) : W f_ref04_Size 1 [x0, x1, x2] =
  (O.proj 3 x2).bind fun x3 =>
  (O.len x3).bind fun x4 =>
  (O.lt x1 x4).bind fun x5 =>
  cnd x5 (
    (O.index x3 x1).bind fun x6 =>
    calls (W f_ref04_Size 0 [x6]) 1 fun x7 =>
    (O.add .i64 x0 x7).bind fun x8 =>
    (O.add .i64 x1 (.int 1)).bind fun x9 =>
    W f_ref04_Size 1 [x8, x9, x2]) (
    W f_ref04_Size 2 [x0, (.int 0), x2]) := V_is rfl (by kernel_rfl)
theorem e_f_ref04_Size_2 (x0 x1 x2 : IV) : W f_ref04_Size 2 [x0, x1, x2] =
  (O.proj 4 x2).bind fun x3 =>
  (O.len x3).bind fun x4 =>
  (O.lt x1 x4).bind fun x5 =>
  cnd x5 (
    (O.index x3 x1).bind fun x6 =>
    (O.projs 1 5 x6).bind fun x7 =>
    calls (W f_ref04_Size 0 [x7]) 1 fun x8 =>
    (O.add .i64 x0 x8).bind fun x9 =>
    (O.add .i64 x1 (.int 1)).bind fun x10 =>
    W f_ref04_Size 2 [x9, x10, x2]) (
    some [x0]) := V_is rfl (by kernel_rfl)
theorem e_f_ref07_errors_0 (x0 x1 x2 : IV) : W f_ref07_errors 0 [x0, x1, x2] =
  (O.proj 0 x1).bind fun x3 =>
  (O.proj 0 x0).bind fun x4 =>
  (O.ne x3 x4).bind fun x5 =>
  cnd x5 (
    calls (W f_ref07_at 0 [x2, (.int 6)]) 1 fun x6 =>
    some [x6]) (
    (O.eq x4 (.int 2)).bind fun x6 =>
    cnd x6 (
      (O.proj 1 x1).bind fun x7 =>
      (O.proj 1 x0).bind fun x8 =>
      (O.lt x7 x8).bind fun x9 =>
      (cnd x9 (some (.bool true)) (
          (O.proj 2 x0).bind fun x10 =>
          (O.gt x7 x10).bind fun x11 =>
          some x11)).bind fun x10 =>
      cnd x10 (
        calls (W f_ref07_at 0 [x2, (.int 5)]) 1 fun x11 =>
        some [x11]) (
        some [(.list [])])) (
      (O.eq x4 (.int 3)).bind fun x7 =>
      cnd x7 (
        (O.proj 2 x1).bind fun x8 =>
        (O.slen x8).bind fun x9 =>
        (O.proj 1 x0).bind fun x10 =>
        (O.lt x9 x10).bind fun x11 =>
        (cnd x11 (some (.bool true)) (
            (O.proj 2 x0).bind fun x12 =>
            (O.gt x9 x12).bind fun x13 =>
            some x13)).bind fun x12 =>
        cnd x12 (
          calls (W f_ref07_at 0 [x2, (.int 5)]) 1 fun x13 =>
          some [x13]) (
          W f_ref07_errors 1 [x2, (.int 0), x0, x1])) (
        (O.eq x4 (.int 4)).bind fun x8 =>
        cnd x8 (
          calls (W f_ref07_elements 0 [x0, x1, x2]) 1 fun x9 =>
          some [x9]) (
          (O.eq x4 (.int 5)).bind fun x9 =>
          cnd x9 (
            calls (W f_ref07_members 0 [x0, x1, x2]) 1 fun x10 =>
            some [x10]) (
            some [(.list [])]))))) := V_is rfl (by kernel_rfl)
theorem e_f_ref07_errors_1 (x0 x1 x2 x3 : IV) : W f_ref07_errors 1 [x0, x1, x2, x3] =
  (O.proj 3 x2).bind fun x4 =>
  (O.len x4).bind fun x5 =>
  (O.lt x1 x5).bind fun x6 =>
  cnd x6 (
    (O.index x4 x1).bind fun x7 =>
    (O.proj 2 x3).bind fun x8 =>
    (O.sEq x7 x8).bind fun x9 =>
    cnd x9 (
      some [(.list [])]) (
      (O.add .i64 x1 (.int 1)).bind fun x10 =>
      W f_ref07_errors 1 [x0, x10, x2, x3])) (
    (O.gt x5 (.int 0)).bind fun x7 =>
    cnd x7 (
      calls (W f_ref07_at 0 [x0, (.int 1)]) 1 fun x8 =>
      some [x8]) (
      some [(.list [])])) := V_is rfl (by kernel_rfl)
theorem e_f_ref07_at_0 (x0 x1 : IV) : W f_ref07_at 0 [x0, x1] =
  calls (W f_ref06_Print 0 [x0]) 2 fun x2 x3 =>
  (O.mkagg [x2, x1]).bind fun x4 =>
  (O.mklist [x4]).bind fun x5 =>
  some [x5] := V_is rfl (by kernel_rfl)
theorem e_f_ref06_Print_0 (x0 : IV) : W f_ref06_Print 0 [x0] =
  calls (W f_ref06_Valid 0 [x0]) 1 fun x1 =>
  (O.not x1).bind fun x2 =>
  cnd x2 (
    some [(.str ⟨#[]⟩), (.int 1)]) (
    W f_ref06_Print 1 [x0, (.str ⟨#[]⟩), (.int 0)]) := V_is rfl (by kernel_rfl)
theorem e_f_ref06_Print_1 (x0 x1 x2 : IV) : W f_ref06_Print 1 [x0, x1, x2] =
  (O.len x0).bind fun x3 =>
  (O.lt x2 x3).bind fun x4 =>
  cnd x4 (
    (O.index x0 x2).bind fun x5 =>
    (O.proj 0 x5).bind fun x6 =>
    (O.eq x6 (.int 2)).bind fun x7 =>
    cnd x7 (
      (O.cat x1 (.str ⟨#[91]⟩)).bind fun x8 =>
      (O.proj 2 x5).bind fun x9 =>
      calls (W f_ref06_decimal 0 [x9]) 1 fun x10 =>
      (O.cat x8 x10).bind fun x11 =>
      (O.cat x11 (.str ⟨#[93]⟩)).bind fun x12 =>
      W f_ref06_Print 2 [x0, x12, x2]) (
      (O.eq x6 (.int 3)).bind fun x8 =>
      cnd x8 (
        (O.cat x1 (.str ⟨#[91]⟩)).bind fun x9 =>
        (O.proj 1 x5).bind fun x10 =>
        (O.cat x9 x10).bind fun x11 =>
        (O.cat x11 (.str ⟨#[61]⟩)).bind fun x12 =>
        (O.proj 3 x5).bind fun x13 =>
        calls (W f_ref06_quote 0 [x13]) 1 fun x14 =>
        (O.cat x12 x14).bind fun x15 =>
        (O.cat x15 (.str ⟨#[93]⟩)).bind fun x16 =>
        W f_ref06_Print 2 [x0, x16, x2]) (
        (O.gt x2 (.int 0)).bind fun x9 =>
        cnd x9 (
          (O.cat x1 (.str ⟨#[46]⟩)).bind fun x10 =>
          (O.proj 1 x5).bind fun x11 =>
          (O.cat x10 x11).bind fun x12 =>
          W f_ref06_Print 2 [x0, x12, x2]) (
          (O.proj 1 x5).bind fun x10 =>
          W f_ref06_Print 2 [x0, x10, x2])))) (
    some [x1, (.int 0)]) := V_is rfl (by kernel_rfl)
theorem e_f_ref06_Print_2 (x0 x1 x2 : IV) : W f_ref06_Print 2 [x0, x1, x2] =
  (O.add .i64 x2 (.int 1)).bind fun x3 =>
  W f_ref06_Print 1 [x0, x1, x3] := V_is rfl (by kernel_rfl)
theorem e_f_ref06_Valid_0 (x0 : IV) : W f_ref06_Valid 0 [x0] =
  W f_ref06_Valid 1 [x0, (.int 0)] := V_is rfl (by kernel_rfl)
theorem e_f_ref06_Valid_1 (x0 x1 : IV) : W f_ref06_Valid 1 [x0, x1] =
  (O.len x0).bind fun x2 =>
  (O.lt x1 x2).bind fun x3 =>
  cnd x3 (
    (O.index x0 x1).bind fun x4 =>
    calls (W f_ref06_validStep 0 [x4]) 1 fun x5 =>
    (O.not x5).bind fun x6 =>
    cnd x6 (
      some [(.bool false)]) (
      (O.add .i64 x1 (.int 1)).bind fun x7 =>
      W f_ref06_Valid 1 [x0, x7])) (
    (O.le x2 (.int 16)).bind fun x4 =>
    some [x4]) := V_is rfl (by kernel_rfl)
theorem e_f_ref06_validStep_0 (x0 : IV) : W f_ref06_validStep 0 [x0] =
  (O.proj 0 x0).bind fun x1 =>
  (O.eq x1 (.int 1)).bind fun x2 =>
  cnd x2 (
    (O.proj 1 x0).bind fun x3 =>
    calls (W f_ref06_validName 0 [x3]) 1 fun x4 =>
    (cnd x4 (
        (O.proj 2 x0).bind fun x5 =>
        (O.eq x5 (.int 0)).bind fun x6 =>
        some x6) (some (.bool false))).bind fun x5 =>
    (cnd x5 (
        (O.proj 3 x0).bind fun x6 =>
        (O.sEq x6 (.str ⟨#[]⟩)).bind fun x7 =>
        some x7) (some (.bool false))).bind fun x6 =>
    some [x6]) (
    (O.eq x1 (.int 2)).bind fun x3 =>
    cnd x3 (
      (O.proj 2 x0).bind fun x4 =>
      (O.ge x4 (.int 0)).bind fun x5 =>
      (cnd x5 (
          (O.le x4 (.int 64)).bind fun x6 =>
          some x6) (some (.bool false))).bind fun x6 =>
      (cnd x6 (
          (O.proj 1 x0).bind fun x7 =>
          (O.sEq x7 (.str ⟨#[]⟩)).bind fun x8 =>
          some x8) (some (.bool false))).bind fun x7 =>
      (cnd x7 (
          (O.proj 3 x0).bind fun x8 =>
          (O.sEq x8 (.str ⟨#[]⟩)).bind fun x9 =>
          some x9) (some (.bool false))).bind fun x8 =>
      some [x8]) (
      (O.eq x1 (.int 3)).bind fun x4 =>
      (cnd x4 (
          (O.proj 1 x0).bind fun x5 =>
          calls (W f_ref06_validName 0 [x5]) 1 fun x6 =>
          some x6) (some (.bool false))).bind fun x5 =>
      (cnd x5 (
          (O.proj 3 x0).bind fun x6 =>
          calls (W f_ref06_validString 0 [x6]) 1 fun x7 =>
          some x7) (some (.bool false))).bind fun x6 =>
      (cnd x6 (
          (O.proj 2 x0).bind fun x7 =>
          (O.eq x7 (.int 0)).bind fun x8 =>
          some x8) (some (.bool false))).bind fun x7 =>
      some [x7])) := V_is rfl (by kernel_rfl)
theorem e_f_ref06_validName_0 (x0 : IV) : W f_ref06_validName 0 [x0] =
  W f_ref06_validName 1 [x0, (.int 0)] := V_is rfl (by kernel_rfl)
theorem e_f_ref06_validName_1 (x0 x1 : IV) : W f_ref06_validName 1 [x0, x1] =
  (O.slen x0).bind fun x2 =>
  (O.lt x1 x2).bind fun x3 =>
  cnd x3 (
    (O.sindex x0 x1).bind fun x4 =>
    calls (W f_ref06_NameChar 0 [x4]) 1 fun x5 =>
    (O.not x5).bind fun x6 =>
    cnd x6 (
      some [(.bool false)]) (
      (O.add .i64 x1 (.int 1)).bind fun x7 =>
      W f_ref06_validName 1 [x0, x7])) (
    (O.gt x2 (.int 0)).bind fun x4 =>
    (cnd x4 (
        (O.le x2 (.int 40)).bind fun x5 =>
        some x5) (some (.bool false))).bind fun x5 =>
    some [x5]) := V_is rfl (by kernel_rfl)
theorem e_f_ref06_NameChar_0 (x0 : IV) : W f_ref06_NameChar 0 [x0] =
  (O.ge x0 (.int 97)).bind fun x1 =>
  (cnd x1 (
      (O.le x0 (.int 122)).bind fun x2 =>
      some x2) (some (.bool false))).bind fun x2 =>
  (cnd x2 (some (.bool true)) (
      (O.ge x0 (.int 65)).bind fun x3 =>
      (cnd x3 (
          (O.le x0 (.int 90)).bind fun x4 =>
          some x4) (some (.bool false))).bind fun x4 =>
      some x4)).bind fun x3 =>
  (cnd x3 (some (.bool true)) (
      (O.ge x0 (.int 48)).bind fun x4 =>
      (cnd x4 (
          (O.le x0 (.int 57)).bind fun x5 =>
          some x5) (some (.bool false))).bind fun x5 =>
      some x5)).bind fun x4 =>
  (cnd x4 (some (.bool true)) (
      (O.eq x0 (.int 45)).bind fun x5 =>
      some x5)).bind fun x5 =>
  (cnd x5 (some (.bool true)) (
      (O.eq x0 (.int 95)).bind fun x6 =>
      some x6)).bind fun x6 =>
  (cnd x6 (some (.bool true)) (
      (O.eq x0 (.int 47)).bind fun x7 =>
      some x7)).bind fun x7 =>
  some [x7] := V_is rfl (by kernel_rfl)
theorem e_f_ref06_validString_0 (x0 : IV) : W f_ref06_validString 0 [x0] =
  W f_ref06_validString 1 [x0, (.int 0)] := V_is rfl (by kernel_rfl)
theorem e_f_ref06_validString_1 (x0 x1 : IV) : W f_ref06_validString 1 [x0, x1] =
  (O.slen x0).bind fun x2 =>
  (O.lt x1 x2).bind fun x3 =>
  cnd x3 (
    (O.sindex x0 x1).bind fun x4 =>
    (O.ne x4 (.int 10)).bind fun x5 =>
    (cnd x5 (
        (O.lt x4 (.int 32)).bind fun x6 =>
        (cnd x6 (some (.bool true)) (
            (O.gt x4 (.int 126)).bind fun x7 =>
            some x7)).bind fun x7 =>
        some x7) (some (.bool false))).bind fun x6 =>
    cnd x6 (
      some [(.bool false)]) (
      (O.add .i64 x1 (.int 1)).bind fun x7 =>
      W f_ref06_validString 1 [x0, x7])) (
    (O.le x2 (.int 200)).bind fun x4 =>
    some [x4]) := V_is rfl (by kernel_rfl)
theorem e_f_ref06_decimal_0 (x0 : IV) : W f_ref06_decimal 0 [x0] =
  (O.lt x0 (.int 10)).bind fun x1 =>
  cnd x1 (
    (O.add .i64 x0 (.int 1)).bind fun x2 =>
    (O.sslice (.str ⟨#[48, 49, 50, 51, 52, 53, 54, 55, 56, 57]⟩) x0 x2).bind fun x3 =>
    some [x3]) (
    (O.quo .i64 x0 (.int 10)).bind fun x2 =>
    (O.quo .i64 x0 (.int 10)).bind fun x3 =>
    (O.add .i64 x3 (.int 1)).bind fun x4 =>
    (O.sslice (.str ⟨#[48, 49, 50, 51, 52, 53, 54, 55, 56, 57]⟩) x2 x4).bind fun x5 =>
    (O.rem .i64 x0 (.int 10)).bind fun x6 =>
    (O.rem .i64 x0 (.int 10)).bind fun x7 =>
    (O.add .i64 x7 (.int 1)).bind fun x8 =>
    (O.sslice (.str ⟨#[48, 49, 50, 51, 52, 53, 54, 55, 56, 57]⟩) x6 x8).bind fun x9 =>
    (O.cat x5 x9).bind fun x10 =>
    some [x10]) := V_is rfl (by kernel_rfl)
theorem e_f_ref06_quote_0 (x0 : IV) : W f_ref06_quote 0 [x0] =
  W f_ref06_quote 1 [x0, (.str ⟨#[34]⟩), (.int 0)] := V_is rfl (by kernel_rfl)
theorem e_f_ref06_quote_1 (x0 x1 x2 : IV) : W f_ref06_quote 1 [x0, x1, x2] =
  (O.slen x0).bind fun x3 =>
  (O.lt x2 x3).bind fun x4 =>
  cnd x4 (
    (O.sindex x0 x2).bind fun x5 =>
    (O.eq x5 (.int 10)).bind fun x6 =>
    cnd x6 (
      (O.cat x1 (.str ⟨#[92, 110]⟩)).bind fun x7 =>
      W f_ref06_quote 2 [x0, x7, x2]) (
      (O.eq x5 (.int 34)).bind fun x7 =>
      (cnd x7 (some (.bool true)) (
          (O.eq x5 (.int 92)).bind fun x8 =>
          some x8)).bind fun x8 =>
      cnd x8 (
        (O.cat x1 (.str ⟨#[92]⟩)).bind fun x9 =>
        (O.add .i64 x2 (.int 1)).bind fun x10 =>
        (O.sslice x0 x2 x10).bind fun x11 =>
        (O.cat x9 x11).bind fun x12 =>
        W f_ref06_quote 2 [x0, x12, x2]) (
        (O.add .i64 x2 (.int 1)).bind fun x9 =>
        (O.sslice x0 x2 x9).bind fun x10 =>
        (O.cat x1 x10).bind fun x11 =>
        W f_ref06_quote 2 [x0, x11, x2]))) (
    (O.cat x1 (.str ⟨#[34]⟩)).bind fun x5 =>
    some [x5]) := V_is rfl (by kernel_rfl)
theorem e_f_ref06_quote_2 (x0 x1 x2 : IV) : W f_ref06_quote 2 [x0, x1, x2] =
  (O.add .i64 x2 (.int 1)).bind fun x3 =>
  W f_ref06_quote 1 [x0, x1, x3] := V_is rfl (by kernel_rfl)
theorem e_f_ref07_elements_0 (x0 x1 x2 : IV) : W f_ref07_elements 0 [x0, x1, x2] =
  (O.proj 3 x1).bind fun x3 =>
  (O.len x3).bind fun x4 =>
  (O.proj 1 x0).bind fun x5 =>
  (O.lt x4 x5).bind fun x6 =>
  (cnd x6 (some (.bool true)) (
      (O.proj 2 x0).bind fun x7 =>
      (O.gt x4 x7).bind fun x8 =>
      some x8)).bind fun x7 =>
  cnd x7 (
    calls (W f_ref07_at 0 [x2, (.int 5)]) 1 fun x8 =>
    (O.append 24 (.list []) x8).bind fun x9 =>
    W f_ref07_elements 1 [x2, x0, x1, x9]) (
    W f_ref07_elements 1 [x2, x0, x1, (.list [])]) := V_is rfl (by kernel_rfl)
theorem e_f_ref07_elements_1 (x0 x1 x2 x3 : IV) : W f_ref07_elements 1 [x0, x1, x2, x3] =
  W f_ref07_elements 2 [x0, (.int 0), x1, x2, x3] := V_is rfl (by kernel_rfl)
theorem e_f_ref07_elements_2 (x0 x1 x2 x3 x4 : IV) : W f_ref07_elements 2 [x0, x1, x2, x3, x4] =
  (O.proj 3 x3).bind fun x5 =>
  (O.len x5).bind fun x6 =>
  (O.lt x1 x6).bind fun x7 =>
  cnd x7 (
    calls (W f_ref07_Element 0 [x2, x5, x1]) 1 fun x8 =>
    calls (W f_ref07_Then 0 [x0, x8]) 1 fun x9 =>
    (O.proj 5 x2).bind fun x10 =>
    (O.index x10 (.int 0)).bind fun x11 =>
    (O.index x5 x1).bind fun x12 =>
    calls (W f_ref07_errors 0 [x11, x12, x9]) 1 fun x13 =>
    (O.append 24 x4 x13).bind fun x14 =>
    (O.proj 4 x2).bind fun x15 =>
    calls (W f_ref07_KeyOf 0 [x12, x15]) 2 fun x16 x17 =>
    W f_ref07_elements 3 [x0, x1, x16, x17, (.bool false), (.int 0), x2, x3, x14, x9]) (
    some [x4]) := V_is rfl (by kernel_rfl)
theorem e_f_ref07_elements_3 (x0 x1 x2 x3 x4 x5 x6 x7 x8 x9 : IV) : W f_ref07_elements 3 [x0, x1, x2, x3, x4, x5, x6, x7, x8, x9] =
  (O.lt x5 x1).bind fun x10 =>
  (O.pick x10 x3 (.bool false)).bind fun x11 =>
  cnd x11 (
    (O.proj 3 x7).bind fun x12 =>
    (O.index x12 x5).bind fun x13 =>
    (O.proj 4 x6).bind fun x14 =>
    calls (W f_ref07_KeyOf 0 [x13, x14]) 2 fun x15 x16 =>
    (cnd x4 (some (.bool true)) (
        (cnd x16 (
            (O.sEq x15 x2).bind fun x17 =>
            some x17) (some (.bool false))).bind fun x17 =>
        some x17)).bind fun x17 =>
    (O.add .i64 x5 (.int 1)).bind fun x18 =>
    W f_ref07_elements 3 [x0, x1, x2, x3, x17, x18, x6, x7, x8, x9]) (
    cnd x4 (
      calls (W f_ref07_at 0 [x9, (.int 8)]) 1 fun x12 =>
      (O.append 24 x8 x12).bind fun x13 =>
      W f_ref07_elements 4 [x0, x1, x6, x7, x13]) (
      W f_ref07_elements 4 [x0, x1, x6, x7, x8])) := V_is rfl (by kernel_rfl)
theorem e_f_ref07_elements_4 (x0 x1 x2 x3 x4 : IV) : W f_ref07_elements 4 [x0, x1, x2, x3, x4] =
  (O.add .i64 x1 (.int 1)).bind fun x5 =>
  W f_ref07_elements 2 [x0, x5, x2, x3, x4] := V_is rfl (by kernel_rfl)
theorem e_f_ref07_Element_0 (x0 x1 x2 : IV) : W f_ref07_Element 0 [x0, x1, x2] =
  (O.index x1 x2).bind fun x3 =>
  (O.proj 4 x0).bind fun x4 =>
  calls (W f_ref07_KeyOf 0 [x3, x4]) 2 fun x5 x6 =>
  cnd x6 (
    (O.mkagg [(.int 3), x4, (.int 0), x5]).bind fun x7 =>
    some [x7]) (
    (O.mkagg [(.int 2), (.str ⟨#[]⟩), x2, (.str ⟨#[]⟩)]).bind fun x7 =>
    some [x7]) := V_is rfl (by kernel_rfl)
theorem e_f_ref07_KeyOf_0 (x0 x1 : IV) : W f_ref07_KeyOf 0 [x0, x1] =
  calls (W f_ref04_Get 0 [x0, x1]) 6 fun x2 x3 x4 x5 x6 x7 =>
  (cnd x7 (
      (O.sNe x1 (.str ⟨#[]⟩)).bind fun x8 =>
      some x8) (some (.bool false))).bind fun x8 =>
  (cnd x8 (
      (O.eq x2 (.int 3)).bind fun x9 =>
      some x9) (some (.bool false))).bind fun x9 =>
  some [x4, x9] := V_is rfl (by kernel_rfl)
theorem e_f_ref04_Get_0 (x0 x1 : IV) : W f_ref04_Get 0 [x0, x1] =
  (O.proj 0 x0).bind fun x2 =>
  (O.eq x2 (.int 5)).bind fun x3 =>
  cnd x3 (
    W f_ref04_Get 1 [x1, (.int 0), x0, (.int 0), (.int 0), (.str ⟨#[]⟩)]) (
    some [(.int 0), (.int 0), (.str ⟨#[]⟩), (.list []), (.list []), (.bool false)]) := V_is rfl (by kernel_rfl)
theorem e_f_ref04_Get_1 (x0 x1 x2 x3 x4 x5 : IV) : W f_ref04_Get 1 [x0, x1, x2, x3, x4, x5] =
  (O.proj 4 x2).bind fun x6 =>
  (O.len x6).bind fun x7 =>
  (O.lt x1 x7).bind fun x8 =>
  cnd x8 (
    (O.index x6 x1).bind fun x9 =>
    (O.proj 0 x9).bind fun x10 =>
    (O.sEq x10 x0).bind fun x11 =>
    cnd x11 (
      (O.projs 1 5 x9).bind fun x12 =>
      calls (W f_ref04_Copy 0 [x12]) 5 fun x13 x14 x15 x16 x17 =>
      some [x13, x14, x15, x16, x17, (.bool true)]) (
      (O.add .i64 x1 (.int 1)).bind fun x12 =>
      W f_ref04_Get 1 [x0, x12, x2, x3, x4, x5])) (
    some [(.int 0), (.int 0), (.str ⟨#[]⟩), (.list []), (.list []), (.bool false)]) := V_is rfl (by kernel_rfl)
theorem e_f_ref04_Copy_0 (x0 : IV) : W f_ref04_Copy 0 [x0] =
  (O.proj 0 x0).bind fun x1 =>
  (O.proj 1 x0).bind fun x2 =>
  (O.proj 2 x0).bind fun x3 =>
  W f_ref04_Copy 1 [(.int 0), x0, (.int 0), (.int 0), (.str ⟨#[]⟩), x1, x2, x3, (.list [])] := V_is rfl (by kernel_rfl)
theorem e_f_ref04_Copy_1 (x0 x1 x2 x3 x4 x5 x6 x7 x8 : IV) : W f_ref04_Copy 1 [x0, x1, x2, x3, x4, x5, x6, x7, x8] =
  (O.proj 3 x1).bind fun x9 =>
  (O.len x9).bind fun x10 =>
  (O.lt x0 x10).bind fun x11 =>
  cnd x11 (
    (O.index x9 x0).bind fun x12 =>
    calls (W f_ref04_Copy 0 [x12]) 5 fun x13 x14 x15 x16 x17 =>
    (O.mkagg [x13, x14, x15, x16, x17]).bind fun x18 =>
    (O.mklist [x18]).bind fun x19 =>
    (O.append 80 x8 x19).bind fun x20 =>
    (O.add .i64 x0 (.int 1)).bind fun x21 =>
    W f_ref04_Copy 1 [x21, x1, x2, x3, x4, x5, x6, x7, x20]) (
    W f_ref04_Copy 2 [(.int 0), x1, x2, x3, x4, x5, x6, x7, x8, (.list [])]) := V_is rfl (by kernel_rfl)
theorem e_f_ref04_Copy_2 (x0 x1 x2 x3 x4 x5 x6 x7 x8 x9 : IV) : W f_ref04_Copy 2 [x0, x1, x2, x3, x4, x5, x6, x7, x8, x9] =
  (O.proj 4 x1).bind fun x10 =>
  (O.len x10).bind fun x11 =>
  (O.lt x0 x11).bind fun x12 =>
  cnd x12 (
    (O.index x10 x0).bind fun x13 =>
    (O.proj 0 x13).bind fun x14 =>
    (O.projs 1 5 x13).bind fun x15 =>
    calls (W f_ref04_Copy 0 [x15]) 5 fun x16 x17 x18 x19 x20 =>
    (O.mkagg [x14, x16, x17, x18, x19, x20]).bind fun x21 =>
    (O.mklist [x21]).bind fun x22 =>
    (O.append 96 x9 x22).bind fun x23 =>
    (O.add .i64 x0 (.int 1)).bind fun x24 =>
    W f_ref04_Copy 2 [x24, x1, x2, x3, x4, x5, x6, x7, x8, x23]) (
    some [x5, x6, x7, x8, x9]) := V_is rfl (by kernel_rfl)
theorem e_f_ref07_Then_0 (x0 x1 : IV) : W f_ref07_Then 0 [x0, x1] =
  (O.mklist []).bind fun x2 =>
  (O.append 48 x2 x0).bind fun x3 =>
  (O.mklist [x1]).bind fun x4 =>
  (O.append 48 x3 x4).bind fun x5 =>
  some [x5] := V_is rfl (by kernel_rfl)
theorem e_f_ref07_members_0 (x0 x1 x2 : IV) : W f_ref07_members 0 [x0, x1, x2] =
  W f_ref07_members 1 [x2, (.int 0), x0, x1, (.list [])] := V_is rfl (by kernel_rfl)
theorem e_f_ref07_members_1 (x0 x1 x2 x3 x4 : IV) : W f_ref07_members 1 [x0, x1, x2, x3, x4] =
  (O.proj 4 x3).bind fun x5 =>
  (O.len x5).bind fun x6 =>
  (O.lt x1 x6).bind fun x7 =>
  cnd x7 (
    (O.index x5 x1).bind fun x8 =>
    (O.proj 0 x8).bind fun x9 =>
    (O.mkagg [(.int 1), x9, (.int 0), (.str ⟨#[]⟩)]).bind fun x10 =>
    calls (W f_ref07_Then 0 [x0, x10]) 1 fun x11 =>
    calls (W f_ref07_field 0 [x2, x9]) 2 fun x12 x13 =>
    (O.proj 5 x2).bind fun x14 =>
    (O.len x14).bind fun x15 =>
    (O.eq x15 (.int 0)).bind fun x16 =>
    (cnd x16 (
        (O.not x13).bind fun x17 =>
        some x17) (some (.bool false))).bind fun x17 =>
    cnd x17 (
      calls (W f_ref07_at 0 [x11, (.int 1)]) 1 fun x18 =>
      (O.append 24 x4 x18).bind fun x19 =>
      W f_ref07_members 2 [x0, x1, x2, x3, x19]) (
      (O.proj 1 x8).bind fun x18 =>
      (O.ne x18 (.int 0)).bind fun x19 =>
      (cnd x19 (
          (O.eq x15 (.int 1)).bind fun x20 =>
          some x20) (some (.bool false))).bind fun x20 =>
      cnd x20 (
        (O.index x14 (.int 0)).bind fun x21 =>
        (O.projs 1 5 x8).bind fun x22 =>
        calls (W f_ref07_errors 0 [x21, x22, x11]) 1 fun x23 =>
        (O.append 24 x4 x23).bind fun x24 =>
        W f_ref07_members 2 [x0, x1, x2, x3, x24]) (
        (O.ne x18 (.int 0)).bind fun x21 =>
        cnd x21 (
          (O.projs 4 7 x12).bind fun x22 =>
          (O.projs 1 5 x8).bind fun x23 =>
          calls (W f_ref07_errors 0 [x22, x23, x11]) 1 fun x24 =>
          (O.append 24 x4 x24).bind fun x25 =>
          W f_ref07_members 2 [x0, x1, x2, x3, x25]) (
          W f_ref07_members 2 [x0, x1, x2, x3, x4])))) (
    W f_ref07_members 3 [x0, (.int 0), x2, x3, x4]) := V_is rfl (by kernel_rfl)
theorem e_f_ref07_members_2 (x0 x1 x2 x3 x4 : IV) : W f_ref07_members 2 [x0, x1, x2, x3, x4] =
  (O.add .i64 x1 (.int 1)).bind fun x5 =>
  W f_ref07_members 1 [x0, x5, x2, x3, x4] := V_is rfl (by kernel_rfl)
theorem e_f_ref07_members_3 (x0 x1 x2 x3 x4 : IV) : W f_ref07_members 3 [x0, x1, x2, x3, x4] =
  (O.proj 6 x2).bind fun x5 =>
  (O.len x5).bind fun x6 =>
  (O.lt x1 x6).bind fun x7 =>
  cnd x7 (
    (O.index x5 x1).bind fun x8 =>
    (O.proj 0 x8).bind fun x9 =>
    calls (W f_ref07_Present 0 [x3, x9]) 6 fun x10 x11 x12 x13 x14 x15 =>
    (O.proj 1 x8).bind fun x16 =>
    (cnd x16 (
        (O.not x15).bind fun x17 =>
        some x17) (some (.bool false))).bind fun x17 =>
    cnd x17 (
      (O.mkagg [(.int 1), x9, (.int 0), (.str ⟨#[]⟩)]).bind fun x18 =>
      calls (W f_ref07_Then 0 [x0, x18]) 1 fun x19 =>
      calls (W f_ref07_at 0 [x19, (.int 7)]) 1 fun x20 =>
      (O.append 24 x4 x20).bind fun x21 =>
      W f_ref07_members 4 [x0, x1, x2, x3, x21]) (
      W f_ref07_members 4 [x0, x1, x2, x3, x4])) (
    some [x4]) := V_is rfl (by kernel_rfl)
theorem e_f_ref07_members_4 (x0 x1 x2 x3 x4 : IV) : W f_ref07_members 4 [x0, x1, x2, x3, x4] =
  (O.add .i64 x1 (.int 1)).bind fun x5 =>
  W f_ref07_members 3 [x0, x5, x2, x3, x4] := V_is rfl (by kernel_rfl)
theorem e_f_ref07_Present_0 (x0 x1 : IV) : W f_ref07_Present 0 [x0, x1] =
  calls (W f_ref04_Get 0 [x0, x1]) 6 fun x2 x3 x4 x5 x6 x7 =>
  (O.not x7).bind fun x8 =>
  (cnd x8 (some (.bool true)) (
      (O.eq x2 (.int 0)).bind fun x9 =>
      some x9)).bind fun x9 =>
  cnd x9 (
    some [(.int 0), (.int 0), (.str ⟨#[]⟩), (.list []), (.list []), (.bool false)]) (
    some [x2, x3, x4, x5, x6, (.bool true)]) := V_is rfl (by kernel_rfl)
theorem e_f_ref04_Small_0 (x0 x1 : IV) : W f_ref04_Small 0 [x0, x1] =
  calls (W f_ref04_count 0 [x0, x1, x1]) 1 fun x2 =>
  (O.ge x2 (.int 0)).bind fun x3 =>
  some [x3] := V_is rfl (by kernel_rfl)
theorem e_f_ref04_count_0 (x0 x1 x2 : IV) : W f_ref04_count 0 [x0, x1, x2] =
  (O.le x1 (.int 0)).bind fun x3 =>
  (cnd x3 (some (.bool true)) (
      (O.le x2 (.int 0)).bind fun x4 =>
      some x4)).bind fun x4 =>
  (cnd x4 (some (.bool true)) (
      (O.proj 2 x0).bind fun x5 =>
      (O.slen x5).bind fun x6 =>
      (O.gt x6 (.int 1000)).bind fun x7 =>
      some x7)).bind fun x5 =>
  cnd x5 (
    some [(.int (-1))]) (
    (O.sub .i64 x1 (.int 1)).bind fun x6 =>
    W f_ref04_count 1 [x6, x2, (.int 0), x0]) := V_is rfl (by kernel_rfl)
theorem e_f_ref04_count_1 (x0 x1 x2 x3 : IV) : W f_ref04_count 1 [x0, x1, x2, x3] =
  (O.proj 3 x3).bind fun x4 =>
  (O.len x4).bind fun x5 =>
  (O.lt x2 x5).bind fun x6 =>
  (cnd x6 (
      (O.ge x0 (.int 0)).bind fun x7 =>
      some x7) (some (.bool false))).bind fun x7 =>
  cnd x7 (
    (O.index x4 x2).bind fun x8 =>
    (O.sub .i64 x1 (.int 1)).bind fun x9 =>
    calls (W f_ref04_count 0 [x8, x0, x9]) 1 fun x10 =>
    (O.add .i64 x2 (.int 1)).bind fun x11 =>
    W f_ref04_count 1 [x10, x1, x11, x3]) (
    W f_ref04_count 2 [x0, x1, (.int 0), x3]) := V_is rfl (by kernel_rfl)
theorem e_f_ref04_count_2 (x0 x1 x2 x3 : IV) : W f_ref04_count 2 [x0, x1, x2, x3] =
  (O.proj 4 x3).bind fun x4 =>
  (O.len x4).bind fun x5 =>
  (O.lt x2 x5).bind fun x6 =>
  (cnd x6 (
      (O.ge x0 (.int 0)).bind fun x7 =>
      some x7) (some (.bool false))).bind fun x7 =>
  cnd x7 (
    (O.index x4 x2).bind fun x8 =>
    (O.proj 0 x8).bind fun x9 =>
    (O.slen x9).bind fun x10 =>
    (O.gt x10 (.int 1000)).bind fun x11 =>
    cnd x11 (
      some [(.int (-1))]) (
      (O.projs 1 5 x8).bind fun x12 =>
      (O.sub .i64 x1 (.int 1)).bind fun x13 =>
      calls (W f_ref04_count 0 [x12, x0, x13]) 1 fun x14 =>
      (O.add .i64 x2 (.int 1)).bind fun x15 =>
      W f_ref04_count 2 [x14, x1, x15, x3])) (
    some [x0]) := V_is rfl (by kernel_rfl)
theorem e_f_law08_lives_0 : W f_law08_lives 0 [] =
  calls (W f_ref04_Map 0 [(.list [])]) 5 fun x0 x1 x2 x3 x4 =>
  (O.mkagg [(.str ⟨#[97]⟩), (.int 0), (.int 0), (.str ⟨#[]⟩), (.list []), (.list [])]).bind fun x5 =>
  (O.mkagg [(.str ⟨#[98]⟩), x0, x1, x2, x3, x4]).bind fun x6 =>
  (O.mklist [x5, x6]).bind fun x7 =>
  calls (W f_ref04_Map 0 [x7]) 5 fun x8 x9 x10 x11 x12 =>
  calls (W f_ref04_Int 0 [(.int 5)]) 5 fun x13 x14 x15 x16 x17 =>
  calls (W f_ref04_String 0 [(.str ⟨#[120]⟩)]) 5 fun x18 x19 x20 x21 x22 =>
  (O.mkagg [(.str ⟨#[99]⟩), x18, x19, x20, x21, x22]).bind fun x23 =>
  (O.mklist [x23]).bind fun x24 =>
  calls (W f_ref04_Map 0 [x24]) 5 fun x25 x26 x27 x28 x29 =>
  (O.mkagg [(.str ⟨#[97]⟩), x13, x14, x15, x16, x17]).bind fun x30 =>
  (O.mkagg [(.str ⟨#[98]⟩), x25, x26, x27, x28, x29]).bind fun x31 =>
  (O.mklist [x30, x31]).bind fun x32 =>
  calls (W f_ref04_Map 0 [x32]) 5 fun x33 x34 x35 x36 x37 =>
  calls (W f_ref04_Int 0 [(.int 1)]) 5 fun x38 x39 x40 x41 x42 =>
  calls (W f_ref04_Int 0 [(.int 2)]) 5 fun x43 x44 x45 x46 x47 =>
  (O.mkagg [(.str ⟨#[99]⟩), (.int 0), (.int 0), (.str ⟨#[]⟩), (.list []), (.list [])]).bind fun x48 =>
  (O.mklist [x48]).bind fun x49 =>
  calls (W f_ref04_Map 0 [x49]) 5 fun x50 x51 x52 x53 x54 =>
  (O.mkagg [(.str ⟨#[97]⟩), x38, x39, x40, x41, x42]).bind fun x55 =>
  (O.mkagg [(.str ⟨#[122]⟩), x43, x44, x45, x46, x47]).bind fun x56 =>
  (O.mkagg [(.str ⟨#[98]⟩), x50, x51, x52, x53, x54]).bind fun x57 =>
  (O.mklist [x55, x56, x57]).bind fun x58 =>
  calls (W f_ref04_Map 0 [x58]) 5 fun x59 x60 x61 x62 x63 =>
  calls (W f_ref04_Int 0 [(.int 1)]) 5 fun x64 x65 x66 x67 x68 =>
  calls (W f_ref04_Map 0 [(.list [])]) 5 fun x69 x70 x71 x72 x73 =>
  (O.mkagg [(.str ⟨#[97]⟩), x64, x65, x66, x67, x68]).bind fun x74 =>
  (O.mkagg [(.str ⟨#[98]⟩), x69, x70, x71, x72, x73]).bind fun x75 =>
  (O.mklist [x74, x75]).bind fun x76 =>
  calls (W f_ref04_Map 0 [x76]) 5 fun x77 x78 x79 x80 x81 =>
  calls (W f_law08_example 0 []) 7 fun x82 x83 x84 x85 x86 x87 x88 =>
  (O.mkagg [x82, x83, x84, x85, x86, x87, x88]).bind fun x89 =>
  (O.mkagg [x8, x9, x10, x11, x12]).bind fun x90 =>
  calls (W f_defaults_Fill 0 [x89, x90]) 1 fun x91 =>
  (O.mkagg [x33, x34, x35, x36, x37]).bind fun x92 =>
  calls (W f_ref04_Equal 0 [x91, x92]) 1 fun x93 =>
  (cnd x93 (
      calls (W f_law08_example 0 []) 7 fun x94 x95 x96 x97 x98 x99 x100 =>
      (O.mkagg [x94, x95, x96, x97, x98, x99, x100]).bind fun x101 =>
      (O.mkagg [x59, x60, x61, x62, x63]).bind fun x102 =>
      calls (W f_defaults_Prune 0 [x101, x102]) 1 fun x103 =>
      (O.mkagg [x77, x78, x79, x80, x81]).bind fun x104 =>
      calls (W f_ref04_Equal 0 [x103, x104]) 1 fun x105 =>
      some x105) (some (.bool false))).bind fun x94 =>
  (cnd x94 (
      calls (W f_law08_example 0 []) 7 fun x95 x96 x97 x98 x99 x100 x101 =>
      calls (W f_ref04_Int 0 [(.int 3)]) 5 fun x102 x103 x104 x105 x106 =>
      (O.mkagg [x95, x96, x97, x98, x99, x100, x101]).bind fun x107 =>
      (O.mkagg [x102, x103, x104, x105, x106]).bind fun x108 =>
      calls (W f_defaults_Fill 0 [x107, x108]) 1 fun x109 =>
      calls (W f_ref04_Int 0 [(.int 3)]) 5 fun x110 x111 x112 x113 x114 =>
      (O.mkagg [x110, x111, x112, x113, x114]).bind fun x115 =>
      calls (W f_ref04_Equal 0 [x109, x115]) 1 fun x116 =>
      some x116) (some (.bool false))).bind fun x95 =>
  some [x95] := V_is rfl (by kernel_rfl)
theorem e_f_ref04_Map_0 (x0 : IV) : W f_ref04_Map 0 [x0] =
  W f_ref04_Map 1 [x0, (.int 0), (.int 0), (.int 0), (.str ⟨#[]⟩), (.int 5), (.int 0), (.str ⟨#[]⟩), (.list [])] := V_is rfl (by kernel_rfl)
theorem e_f_ref04_Map_1 (x0 x1 x2 x3 x4 x5 x6 x7 x8 : IV) : W f_ref04_Map 1 [x0, x1, x2, x3, x4, x5, x6, x7, x8] =
  (O.len x0).bind fun x9 =>
  (O.lt x1 x9).bind fun x10 =>
  cnd x10 (
    (O.index x0 x1).bind fun x11 =>
    (O.proj 0 x11).bind fun x12 =>
    (O.projs 1 5 x11).bind fun x13 =>
    calls (W f_ref04_Copy 0 [x13]) 5 fun x14 x15 x16 x17 x18 =>
    (O.mkagg [x12, x14, x15, x16, x17, x18]).bind fun x19 =>
    calls (W f_ref04_put 0 [x8, x19]) 1 fun x20 =>
    (O.add .i64 x1 (.int 1)).bind fun x21 =>
    W f_ref04_Map 1 [x0, x21, x2, x3, x4, x5, x6, x7, x20]) (
    some [x5, x6, x7, (.list []), x8]) := V_is rfl (by kernel_rfl)
theorem e_f_ref04_put_0 (x0 x1 : IV) : W f_ref04_put 0 [x0, x1] =
  W f_ref04_put 1 [x0, (.bool false), (.int 0), x1, (.list [])] := V_is rfl (by kernel_rfl)
theorem e_f_ref04_put_1 (x0 x1 x2 x3 x4 : IV) : W f_ref04_put 1 [x0, x1, x2, x3, x4] =
  (O.len x0).bind fun x5 =>
  (O.lt x2 x5).bind fun x6 =>
  cnd x6 (
    (O.not x1).bind fun x7 =>
    (cnd x7 (
        (O.proj 0 x3).bind fun x8 =>
        (O.index x0 x2).bind fun x9 =>
        (O.proj 0 x9).bind fun x10 =>
        (O.sLe x8 x10).bind fun x11 =>
        some x11) (some (.bool false))).bind fun x8 =>
    cnd x8 (
      (O.mklist [x3]).bind fun x9 =>
      (O.append 96 x4 x9).bind fun x10 =>
      W f_ref04_put 2 [x0, (.bool true), x2, x3, x10]) (
      W f_ref04_put 2 [x0, x1, x2, x3, x4])) (
    (O.not x1).bind fun x7 =>
    cnd x7 (
      (O.mklist [x3]).bind fun x8 =>
      (O.append 96 x4 x8).bind fun x9 =>
      some [x9]) (
      some [x4])) := V_is rfl (by kernel_rfl)
theorem e_f_ref04_put_2 (x0 x1 x2 x3 x4 : IV) : W f_ref04_put 2 [x0, x1, x2, x3, x4] =
  (O.index x0 x2).bind fun x5 =>
  (O.proj 0 x5).bind fun x6 =>
  (O.proj 0 x3).bind fun x7 =>
  (O.sNe x6 x7).bind fun x8 =>
  cnd x8 (
    (O.mklist [x5]).bind fun x9 =>
    (O.append 96 x4 x9).bind fun x10 =>
    W f_ref04_put 3 [x0, x1, x2, x3, x10]) (
    W f_ref04_put 3 [x0, x1, x2, x3, x4]) := V_is rfl (by kernel_rfl)
theorem e_f_ref04_put_3 (x0 x1 x2 x3 x4 : IV) : W f_ref04_put 3 [x0, x1, x2, x3, x4] =
  (O.add .i64 x2 (.int 1)).bind fun x5 =>
  W f_ref04_put 1 [x0, x1, x5, x3, x4] := V_is rfl (by kernel_rfl)
theorem e_f_ref04_Int_0 (x0 : IV) : W f_ref04_Int 0 [x0] =
  some [(.int 2), x0, (.str ⟨#[]⟩), (.list []), (.list [])] := V_is rfl (by kernel_rfl)
theorem e_f_ref04_String_0 (x0 : IV) : W f_ref04_String 0 [x0] =
  some [(.int 3), (.int 0), x0, (.list []), (.list [])] := V_is rfl (by kernel_rfl)
theorem e_f_law08_example_0 : W f_law08_example 0 [] =
  calls (W f_ref04_String 0 [(.str ⟨#[120]⟩)]) 5 fun x0 x1 x2 x3 x4 =>
  (O.mkagg [x0, x1, x2, x3, x4]).bind fun x5 =>
  (O.mklist [x5]).bind fun x6 =>
  (O.mkagg [(.str ⟨#[99]⟩), (.bool false), (.bool false), x6, (.int 3), (.int 0), (.int 9), (.list []), (.str ⟨#[]⟩), (.list []), (.list [])]).bind fun x7 =>
  (O.mklist [x7]).bind fun x8 =>
  calls (W f_ref04_Int 0 [(.int 5)]) 5 fun x9 x10 x11 x12 x13 =>
  (O.mkagg [x9, x10, x11, x12, x13]).bind fun x14 =>
  (O.mklist [x14]).bind fun x15 =>
  (O.mkagg [(.str ⟨#[97]⟩), (.bool false), (.bool false), x15, (.int 2), (.int 0), (.int 9), (.list []), (.str ⟨#[]⟩), (.list []), (.list [])]).bind fun x16 =>
  (O.mkagg [(.str ⟨#[98]⟩), (.bool false), (.bool false), (.list []), (.int 5), (.int 0), (.int 0), (.list []), (.str ⟨#[]⟩), (.list []), x8]).bind fun x17 =>
  (O.mklist [x16, x17]).bind fun x18 =>
  some [(.int 5), (.int 0), (.int 0), (.list []), (.str ⟨#[]⟩), (.list []), x18] := V_is rfl (by kernel_rfl)
theorem e_f_defaults_Fill_0 (x0 x1 : IV) : W f_defaults_Fill 0 [x0, x1] =
  (O.proj 0 x1).bind fun x2 =>
  (O.proj 0 x0).bind fun x3 =>
  (O.ne x2 x3).bind fun x4 =>
  (cnd x4 (some (.bool true)) (
      (O.ne x2 (.int 5)).bind fun x5 =>
      (cnd x5 (
          (O.ne x2 (.int 4)).bind fun x6 =>
          some x6) (some (.bool false))).bind fun x6 =>
      some x6)).bind fun x5 =>
  cnd x5 (
    calls (W f_defaults_clone 0 [x1]) 1 fun x6 =>
    some [x6]) (
    (O.eq x2 (.int 4)).bind fun x6 =>
    cnd x6 (
      calls (W f_defaults_elements 0 [x0, x1]) 1 fun x7 =>
      some [x7]) (
      (O.proj 5 x0).bind fun x7 =>
      (O.len x7).bind fun x8 =>
      (O.eq x8 (.int 0)).bind fun x9 =>
      cnd x9 (
        (O.proj 6 x0).bind fun x10 =>
        (O.len x10).bind fun x11 =>
        W f_defaults_Fill 1 [x10, x11, (.int 0), x0, x1, (.int 0), (.int 0), (.str ⟨#[]⟩)]) (
        W f_defaults_Fill 2 [x0, x1, (.int 0), (.int 0), (.str ⟨#[]⟩)]))) := V_is rfl (by kernel_rfl)
theorem e_f_defaults_Fill_1 (x0 x1 x2 x3 x4 x5 x6 x7 : IV) : W f_defaults_Fill 1 [x0, x1, x2, x3, x4, x5, x6, x7] =
  (O.lt x2 x1).bind fun x8 =>
  cnd x8 (
    (O.index x0 x2).bind fun x9 =>
    (O.proj 0 x9).bind fun x10 =>
    calls (W f_value_Get 0 [x4, x10]) 6 fun x11 x12 x13 x14 x15 x16 =>
    (O.eq x11 (.int 0)).bind fun x17 =>
    (cnd x17 (
        (O.proj 3 x9).bind fun x18 =>
        (O.len x18).bind fun x19 =>
        (O.gt x19 (.int 0)).bind fun x20 =>
        some x20) (some (.bool false))).bind fun x18 =>
    cnd x18 (
      (O.proj 3 x9).bind fun x19 =>
      (O.index x19 (.int 0)).bind fun x20 =>
      calls (W f_value_With 0 [x4, x10, x20]) 5 fun x21 x22 x23 x24 x25 =>
      (O.mkagg [x21, x22, x23, x24, x25]).bind fun x26 =>
      W f_defaults_Fill 3 [x0, x1, x2, x3, x26, x5, x6, x7]) (
      W f_defaults_Fill 3 [x0, x1, x2, x3, x4, x5, x6, x7])) (
    W f_defaults_Fill 2 [x3, x4, x5, x6, x7]) := V_is rfl (by kernel_rfl)
theorem e_f_defaults_Fill_2 (x0 x1 x2 x3 x4 : IV) : W f_defaults_Fill 2 [x0, x1, x2, x3, x4] =
  (O.proj 4 x1).bind fun x5 =>
  (O.len x5).bind fun x6 =>
  W f_defaults_Fill 4 [x5, x6, (.int 0), x0, x2, x3, x4, (.list [])] := V_is rfl (by kernel_rfl)
theorem e_f_defaults_Fill_3 (x0 x1 x2 x3 x4 x5 x6 x7 : IV) : W f_defaults_Fill 3 [x0, x1, x2, x3, x4, x5, x6, x7] =
  (O.add .i64 x2 (.int 1)).bind fun x8 =>
  W f_defaults_Fill 1 [x0, x1, x8, x3, x4, x5, x6, x7] := V_is rfl (by kernel_rfl)
theorem e_f_defaults_Fill_4 (x0 x1 x2 x3 x4 x5 x6 x7 : IV) : W f_defaults_Fill 4 [x0, x1, x2, x3, x4, x5, x6, x7] =
  (O.lt x2 x1).bind fun x8 =>
  cnd x8 (
    (O.index x0 x2).bind fun x9 =>
    (O.proj 0 x9).bind fun x10 =>
    calls (W f_defaults_under 0 [x3, x10]) 2 fun x11 x12 =>
    cnd x12 (
      (O.projs 1 5 x9).bind fun x13 =>
      calls (W f_defaults_Fill 0 [x11, x13]) 1 fun x14 =>
      (O.proj 1 x9).bind fun x15 =>
      (O.proj 2 x9).bind fun x16 =>
      (O.proj 3 x9).bind fun x17 =>
      (O.proj 4 x9).bind fun x18 =>
      (O.proj 5 x9).bind fun x19 =>
      (O.proj 0 x14).bind fun x20 =>
      (O.proj 1 x14).bind fun x21 =>
      (O.proj 2 x14).bind fun x22 =>
      (O.proj 3 x14).bind fun x23 =>
      (O.proj 4 x14).bind fun x24 =>
      W f_defaults_Fill 5 [x0, x1, x2, x3, x4, x5, x6, x7, x10, x20, x21, x22, x23, x24]) (
      (O.proj 1 x9).bind fun x13 =>
      (O.proj 2 x9).bind fun x14 =>
      (O.proj 3 x9).bind fun x15 =>
      (O.proj 4 x9).bind fun x16 =>
      (O.proj 5 x9).bind fun x17 =>
      W f_defaults_Fill 5 [x0, x1, x2, x3, x4, x5, x6, x7, x10, x13, x14, x15, x16, x17])) (
    calls (W f_value_Map 0 [x7]) 5 fun x9 x10 x11 x12 x13 =>
    (O.mkagg [x9, x10, x11, x12, x13]).bind fun x14 =>
    some [x14]) := V_is rfl (by kernel_rfl)
theorem e_f_defaults_Fill_5 (x0 x1 x2 x3 x4 x5 x6 x7 x8 x9 x10 x11 x12 x13 : IV) : W f_defaults_Fill 5 [x0, x1, x2, x3, x4, x5, x6, x7, x8, x9, x10, x11, x12, x13] =
  (O.mkagg [x8, x9, x10, x11, x12, x13]).bind fun x14 =>
  (O.mklist [x14]).bind fun x15 =>
  (O.append 96 x7 x15).bind fun x16 =>
  (O.add .i64 x2 (.int 1)).bind fun x17 =>
  W f_defaults_Fill 4 [x0, x1, x17, x3, x4, x5, x6, x16] := V_is rfl (by kernel_rfl)
theorem e_f_defaults_clone_0 (x0 : IV) : W f_defaults_clone 0 [x0] =
  (O.mklist [x0]).bind fun x1 =>
  calls (W f_value_List 0 [x1]) 5 fun x2 x3 x4 x5 x6 =>
  (O.index x5 (.int 0)).bind fun x7 =>
  some [x7] := V_is rfl (by kernel_rfl)
theorem e_f_value_List_0 (x0 : IV) : W f_value_List 0 [x0] =
  (O.mkagg [(.int 4), (.int 0), (.str ⟨#[]⟩), x0, (.list [])]).bind fun x1 =>
  calls (W f_value_clone 0 [x1]) 5 fun x2 x3 x4 x5 x6 =>
  some [x2, x3, x4, x5, x6] := V_is rfl (by kernel_rfl)
theorem e_f_value_clone_0 (x0 : IV) : W f_value_clone 0 [x0] =
  (O.proj 3 x0).bind fun x1 =>
  calls (W f_slices_Clone 0 [x1]) 1 fun x2 =>
  (O.proj 0 x0).bind fun x3 =>
  (O.proj 1 x0).bind fun x4 =>
  (O.proj 2 x0).bind fun x5 =>
  (O.proj 4 x0).bind fun x6 =>
  (O.len x2).bind fun x7 =>
  W f_value_clone 1 [x7, (.int 0), x3, x4, x5, x6, (.int 0), (.int 0), (.str ⟨#[]⟩), x2] := V_is rfl (by kernel_rfl)
theorem e_f_value_clone_1 (x0 x1 x2 x3 x4 x5 x6 x7 x8 x9 : IV) : W f_value_clone 1 [x0, x1, x2, x3, x4, x5, x6, x7, x8, x9] =
  (O.lt x1 x0).bind fun x10 =>
  cnd x10 (
    (O.index x9 x1).bind fun x11 =>
    calls (W f_value_clone 0 [x11]) 5 fun x12 x13 x14 x15 x16 =>
    (O.mkagg [x12, x13, x14, x15, x16]).bind fun x17 =>
    (O.setAt 0 5 true true x9 x1 x17).bind fun x18 =>
    (O.add .i64 x1 (.int 1)).bind fun x19 =>
    W f_value_clone 1 [x0, x19, x2, x3, x4, x5, x6, x7, x8, x18]) (
    calls (W f_slices_Clone_v2 0 [x5]) 1 fun x11 =>
    (O.len x11).bind fun x12 =>
    W f_value_clone 2 [x12, (.int 0), x2, x3, x4, x6, x7, x8, x11, x9]) := V_is rfl (by kernel_rfl)
theorem e_f_value_clone_2 (x0 x1 x2 x3 x4 x5 x6 x7 x8 x9 : IV) : W f_value_clone 2 [x0, x1, x2, x3, x4, x5, x6, x7, x8, x9] =
  (O.lt x1 x0).bind fun x10 =>
  cnd x10 (
    (O.index x8 x1).bind fun x11 =>
    (O.projs 1 5 x11).bind fun x12 =>
    calls (W f_value_clone 0 [x12]) 5 fun x13 x14 x15 x16 x17 =>
    (O.mkagg [x13, x14, x15, x16, x17]).bind fun x18 =>
    (O.setAt 1 5 true false x8 x1 x18).bind fun x19 =>
    (O.add .i64 x1 (.int 1)).bind fun x20 =>
    W f_value_clone 2 [x0, x20, x2, x3, x4, x5, x6, x7, x19, x9]) (
    some [x2, x3, x4, x9, x8]) := V_is rfl (by kernel_rfl)
theorem e_f_slices_Clone (xs : List IV) : W f_slices_Clone 0 xs = O.cloneF xs := V_eq _ _ _ _
theorem e_f_slices_Clone_v2 (xs : List IV) : W f_slices_Clone_v2 0 xs = O.cloneF xs := V_eq _ _ _ _
theorem e_f_defaults_elements_0 (x0 x1 : IV) : W f_defaults_elements 0 [x0, x1] =
  (O.proj 5 x0).bind fun x2 =>
  (O.len x2).bind fun x3 =>
  (O.ne x3 (.int 1)).bind fun x4 =>
  cnd x4 (
    calls (W f_defaults_clone 0 [x1]) 1 fun x5 =>
    some [x5]) (
    (O.proj 3 x1).bind fun x5 =>
    (O.len x5).bind fun x6 =>
    W f_defaults_elements 1 [x5, x6, (.int 0), x0, (.int 0), (.int 0), (.str ⟨#[]⟩), (.list [])]) := V_is rfl (by kernel_rfl)
theorem e_f_defaults_elements_1 (x0 x1 x2 x3 x4 x5 x6 x7 : IV) : W f_defaults_elements 1 [x0, x1, x2, x3, x4, x5, x6, x7] =
  (O.lt x2 x1).bind fun x8 =>
  cnd x8 (
    (O.index x0 x2).bind fun x9 =>
    (O.proj 5 x3).bind fun x10 =>
    (O.index x10 (.int 0)).bind fun x11 =>
    calls (W f_defaults_Fill 0 [x11, x9]) 1 fun x12 =>
    (O.mklist [x12]).bind fun x13 =>
    (O.append 80 x7 x13).bind fun x14 =>
    (O.add .i64 x2 (.int 1)).bind fun x15 =>
    W f_defaults_elements 1 [x0, x1, x15, x3, x4, x5, x6, x14]) (
    calls (W f_value_List 0 [x7]) 5 fun x9 x10 x11 x12 x13 =>
    (O.mkagg [x9, x10, x11, x12, x13]).bind fun x14 =>
    some [x14]) := V_is rfl (by kernel_rfl)
theorem e_f_value_Get_0 (x0 x1 : IV) : W f_value_Get 0 [x0, x1] =
  (O.proj 0 x0).bind fun x2 =>
  (O.eq x2 (.int 5)).bind fun x3 =>
  cnd x3 (
    (O.proj 4 x0).bind fun x4 =>
    (O.len x4).bind fun x5 =>
    W f_value_Get 1 [x1, x4, x5, (.int 0), (.int 0), (.int 0), (.str ⟨#[]⟩)]) (
    some [(.int 0), (.int 0), (.str ⟨#[]⟩), (.list []), (.list []), (.bool false)]) := V_is rfl (by kernel_rfl)
theorem e_f_value_Get_1 (x0 x1 x2 x3 x4 x5 x6 : IV) : W f_value_Get 1 [x0, x1, x2, x3, x4, x5, x6] =
  (O.lt x3 x2).bind fun x7 =>
  cnd x7 (
    (O.index x1 x3).bind fun x8 =>
    (O.proj 0 x8).bind fun x9 =>
    (O.sEq x9 x0).bind fun x10 =>
    cnd x10 (
      (O.projs 1 5 x8).bind fun x11 =>
      calls (W f_value_clone 0 [x11]) 5 fun x12 x13 x14 x15 x16 =>
      some [x12, x13, x14, x15, x16, (.bool true)]) (
      (O.add .i64 x3 (.int 1)).bind fun x11 =>
      W f_value_Get 1 [x0, x1, x2, x11, x4, x5, x6])) (
    some [(.int 0), (.int 0), (.str ⟨#[]⟩), (.list []), (.list []), (.bool false)]) := V_is rfl (by kernel_rfl)
theorem e_f_value_With_0 (x0 x1 x2 : IV) : W f_value_With 0 [x0, x1, x2] =
  calls (W f_value_others 0 [x0, x1]) 1 fun x3 =>
  (O.proj 0 x2).bind fun x4 =>
  (O.proj 1 x2).bind fun x5 =>
  (O.proj 2 x2).bind fun x6 =>
  (O.proj 3 x2).bind fun x7 =>
  (O.proj 4 x2).bind fun x8 =>
  (O.mkagg [x1, x4, x5, x6, x7, x8]).bind fun x9 =>
  (O.mklist [x9]).bind fun x10 =>
  (O.append 96 x3 x10).bind fun x11 =>
  calls (W f_value_Map 0 [x11]) 5 fun x12 x13 x14 x15 x16 =>
  some [x12, x13, x14, x15, x16] := V_is rfl (by kernel_rfl)
theorem e_f_value_others_0 (x0 x1 : IV) : W f_value_others 0 [x0, x1] =
  (O.proj 0 x0).bind fun x2 =>
  (O.ne x2 (.int 5)).bind fun x3 =>
  cnd x3 (
    some [(.list [])]) (
    (O.proj 4 x0).bind fun x4 =>
    calls (W f_slices_Clone_v2 0 [x4]) 1 fun x5 =>
    calls (W f_slices_DeleteFunc 0 [x5, x1]) 1 fun x6 =>
    some [x6]) := V_is rfl (by kernel_rfl)
theorem e_f_slices_DeleteFunc_0 (x0 x1 : IV) : W f_slices_DeleteFunc 0 [x0, x1] =
  calls (W f_slices_IndexFunc 0 [x0, x1]) 1 fun x2 =>
  (O.eq x2 (.int (-1))).bind fun x3 =>
  cnd x3 (
    some [x0]) (
    (O.add .i64 x2 (.int 1)).bind fun x4 =>
    W f_slices_DeleteFunc 1 [x1, x2, x4, x0]) := V_is rfl (by kernel_rfl)
theorem e_f_slices_DeleteFunc_1 (x0 x1 x2 x3 : IV) : W f_slices_DeleteFunc 1 [x0, x1, x2, x3] =
  (O.len x3).bind fun x4 =>
  (O.lt x2 x4).bind fun x5 =>
  cnd x5 (
    (O.index x3 x2).bind fun x6 =>
    calls (W f_value_others_1 0 [x6, x0]) 1 fun x7 =>
    (O.not x7).bind fun x8 =>
    cnd x8 (
      (O.index x3 x1).bind fun x9 =>
      (O.setAt 0 6 true true x3 x1 x6).bind fun x10 =>
      (O.add .i64 x1 (.int 1)).bind fun x11 =>
      W f_slices_DeleteFunc 2 [x0, x11, x2, x10]) (
      W f_slices_DeleteFunc 2 [x0, x1, x2, x3])) (
    (O.slice x3 x1 x4).bind fun x6 =>
    (O.clear (.agg [.str ⟨#[]⟩, .int 0, .int 0, .str ⟨#[]⟩, .list [], .list []]) x3 x1 x4).bind fun x7 =>
    (O.slice x7 (.int 0) x1).bind fun x8 =>
    (O.slice x7 (.int 0) x1).bind fun x9 =>
    some [x9]) := V_is rfl (by kernel_rfl)
theorem e_f_slices_DeleteFunc_2 (x0 x1 x2 x3 : IV) : W f_slices_DeleteFunc 2 [x0, x1, x2, x3] =
  (O.add .i64 x2 (.int 1)).bind fun x4 =>
  W f_slices_DeleteFunc 1 [x0, x1, x4, x3] := V_is rfl (by kernel_rfl)
theorem e_f_slices_IndexFunc_0 (x0 x1 : IV) : W f_slices_IndexFunc 0 [x0, x1] =
  (O.len x0).bind fun x2 =>
  W f_slices_IndexFunc 1 [x0, x1, x2, (.int 0)] := V_is rfl (by kernel_rfl)
theorem e_f_slices_IndexFunc_1 (x0 x1 x2 x3 : IV) : W f_slices_IndexFunc 1 [x0, x1, x2, x3] =
  (O.lt x3 x2).bind fun x4 =>
  cnd x4 (
    (O.index x0 x3).bind fun x5 =>
    calls (W f_value_others_1 0 [x5, x1]) 1 fun x6 =>
    cnd x6 (
      some [x3]) (
      (O.add .i64 x3 (.int 1)).bind fun x7 =>
      W f_slices_IndexFunc 1 [x0, x1, x2, x7])) (
    some [(.int (-1))]) := V_is rfl (by kernel_rfl)
theorem e_f_value_others_1_0 (x0 x1 : IV) : W f_value_others_1 0 [x0, x1] =
  (O.proj 0 x0).bind fun x2 =>
  (O.sEq x2 x1).bind fun x3 =>
  some [x3] := V_is rfl (by kernel_rfl)
theorem e_f_value_Map_0 (x0 : IV) : W f_value_Map 0 [x0] =
  calls (W f_slices_Clone_v2 0 [x0]) 1 fun x1 =>
  calls (W f_slices_SortStableFunc 0 [x1]) 1 fun x2 =>
  (O.len x2).bind fun x3 =>
  W f_value_Map 1 [x3, (.int 0), (.int 0), (.int 0), (.str ⟨#[]⟩), x2, (.int 5), (.int 0), (.str ⟨#[]⟩), (.list [])] := V_is rfl (by kernel_rfl)
theorem e_f_value_Map_1 (x0 x1 x2 x3 x4 x5 x6 x7 x8 x9 : IV) : W f_value_Map 1 [x0, x1, x2, x3, x4, x5, x6, x7, x8, x9] =
  (O.lt x1 x0).bind fun x10 =>
  cnd x10 (
    (O.index x5 x1).bind fun x11 =>
    (O.add .i64 x1 (.int 1)).bind fun x12 =>
    (O.len x5).bind fun x13 =>
    (O.eq x12 x13).bind fun x14 =>
    (cnd x14 (some (.bool true)) (
        (O.add .i64 x1 (.int 1)).bind fun x15 =>
        (O.index x5 x15).bind fun x16 =>
        (O.proj 0 x16).bind fun x17 =>
        (O.proj 0 x11).bind fun x18 =>
        (O.sNe x17 x18).bind fun x19 =>
        some x19)).bind fun x15 =>
    cnd x15 (
      (O.mklist [x11]).bind fun x16 =>
      (O.append 96 x9 x16).bind fun x17 =>
      W f_value_Map 2 [x0, x1, x2, x3, x4, x5, x6, x7, x8, x17]) (
      W f_value_Map 2 [x0, x1, x2, x3, x4, x5, x6, x7, x8, x9])) (
    (O.mkagg [x6, x7, x8, (.list []), x9]).bind fun x11 =>
    calls (W f_value_clone 0 [x11]) 5 fun x12 x13 x14 x15 x16 =>
    some [x12, x13, x14, x15, x16]) := V_is rfl (by kernel_rfl)
theorem e_f_value_Map_2 (x0 x1 x2 x3 x4 x5 x6 x7 x8 x9 : IV) : W f_value_Map 2 [x0, x1, x2, x3, x4, x5, x6, x7, x8, x9] =
  (O.add .i64 x1 (.int 1)).bind fun x10 =>
  W f_value_Map 1 [x0, x10, x2, x3, x4, x5, x6, x7, x8, x9] := V_is rfl (by kernel_rfl)
theorem e_f_slices_SortStableFunc_0 (x0 : IV) : W f_slices_SortStableFunc 0 [x0] =
  (O.len x0).bind fun x1 =>
  calls (W f_slices_stableCmpFunc 0 [x0, x1]) 1 fun x2 =>
  some [x2] := V_is rfl (by kernel_rfl)
theorem e_f_slices_stableCmpFunc_0 (x0 x1 : IV) : W f_slices_stableCmpFunc 0 [x0, x1] =
  W f_slices_stableCmpFunc 1 [x1, (.int 20), (.int 0), (.int 20), x0] := V_is rfl (by kernel_rfl)
theorem e_f_slices_stableCmpFunc_1 (x0 x1 x2 x3 x4 : IV) : W f_slices_stableCmpFunc 1 [x0, x1, x2, x3, x4] =
  (O.le x3 x0).bind fun x5 =>
  cnd x5 (
    calls (W f_slices_insertionSortCmpFunc 0 [x4, x2, x3]) 1 fun x6 =>
    (O.add .i64 x3 x1).bind fun x7 =>
    W f_slices_stableCmpFunc 1 [x0, x1, x3, x7, x6]) (
    calls (W f_slices_insertionSortCmpFunc 0 [x4, x2, x0]) 1 fun x6 =>
    W f_slices_stableCmpFunc 2 [x0, x1, x6]) := V_is rfl (by kernel_rfl)
theorem e_f_slices_stableCmpFunc_2 (x0 x1 x2 : IV) : W f_slices_stableCmpFunc 2 [x0, x1, x2] =
  (O.lt x1 x0).bind fun x3 =>
  cnd x3 (
    (O.mul .i64 (.int 2) x1).bind fun x4 =>
    W f_slices_stableCmpFunc 3 [x0, x1, (.int 0), x4, x2]) (
    some [x2]) := V_is rfl (by kernel_rfl)
theorem e_f_slices_stableCmpFunc_3 (x0 x1 x2 x3 x4 : IV) : W f_slices_stableCmpFunc 3 [x0, x1, x2, x3, x4] =
  (O.le x3 x0).bind fun x5 =>
  cnd x5 (
    (O.add .i64 x2 x1).bind fun x6 =>
    calls (W f_slices_symMergeCmpFunc 0 [x4, x2, x6, x3]) 1 fun x7 =>
    (O.mul .i64 (.int 2) x1).bind fun x8 =>
    (O.add .i64 x3 x8).bind fun x9 =>
    W f_slices_stableCmpFunc 3 [x0, x1, x3, x9, x7]) (
    (O.add .i64 x2 x1).bind fun x6 =>
    (O.lt x6 x0).bind fun x7 =>
    cnd x7 (
      calls (W f_slices_symMergeCmpFunc 0 [x4, x2, x6, x0]) 1 fun x8 =>
      W f_slices_stableCmpFunc 4 [x0, x1, x8]) (
      W f_slices_stableCmpFunc 4 [x0, x1, x4])) := V_is rfl (by kernel_rfl)
theorem e_f_slices_stableCmpFunc_4 (x0 x1 x2 : IV) : W f_slices_stableCmpFunc 4 [x0, x1, x2] =
  (O.mul .i64 x1 (.int 2)).bind fun x3 =>
  W f_slices_stableCmpFunc 2 [x0, x3, x2] := V_is rfl (by kernel_rfl)
theorem e_f_slices_insertionSortCmpFunc_0 (x0 x1 x2 : IV) : W f_slices_insertionSortCmpFunc 0 [x0, x1, x2] =
  (O.add .i64 x1 (.int 1)).bind fun x3 =>
  W f_slices_insertionSortCmpFunc 1 [x1, x2, x3, x0] := V_is rfl (by kernel_rfl)
theorem e_f_slices_insertionSortCmpFunc_1 (x0 x1 x2 x3 : IV) : W f_slices_insertionSortCmpFunc 1 [x0, x1, x2, x3] =
  (O.lt x2 x1).bind fun x4 =>
  cnd x4 (
    W f_slices_insertionSortCmpFunc 2 [x0, x1, x2, x2, x3]) (
    some [x3]) := V_is rfl (by kernel_rfl)
theorem e_f_slices_insertionSortCmpFunc_2 (x0 x1 x2 x3 x4 : IV) : W f_slices_insertionSortCmpFunc 2 [x0, x1, x2, x3, x4] =
  (O.gt x3 x0).bind fun x5 =>
  (cnd x5 (
      (O.index x4 x3).bind fun x6 =>
      (O.sub .i64 x3 (.int 1)).bind fun x7 =>
      (O.index x4 x7).bind fun x8 =>
      calls (W f_value_Map_1 0 [x6, x8]) 1 fun x9 =>
      (O.lt x9 (.int 0)).bind fun x10 =>
      some x10) (some (.bool false))).bind fun x6 =>
  cnd x6 (
    (O.sub .i64 x3 (.int 1)).bind fun x7 =>
    (O.sub .i64 x3 (.int 1)).bind fun x8 =>
    (O.index x4 x8).bind fun x9 =>
    (O.index x4 x3).bind fun x10 =>
    (O.setAt 0 6 true true x4 x3 x9).bind fun x11 =>
    (O.index x11 x7).bind fun x12 =>
    (O.setAt 0 6 true true x11 x7 x10).bind fun x13 =>
    (O.sub .i64 x3 (.int 1)).bind fun x14 =>
    W f_slices_insertionSortCmpFunc 2 [x0, x1, x2, x14, x13]) (
    (O.add .i64 x2 (.int 1)).bind fun x7 =>
    W f_slices_insertionSortCmpFunc 1 [x0, x1, x7, x4]) := V_is rfl (by kernel_rfl)
theorem e_f_value_Map_1_0 (x0 x1 : IV) : W f_value_Map_1 0 [x0, x1] =
  (O.proj 0 x0).bind fun x2 =>
  (O.proj 0 x1).bind fun x3 =>
  calls (W f_strings_Compare 0 [x2, x3]) 1 fun x4 =>
  some [x4] := V_is rfl (by kernel_rfl)
theorem e_f_strings_Compare_0 (x0 x1 : IV) : W f_strings_Compare 0 [x0, x1] =
  calls (W f_internal_bytealg_CompareString 0 [x0, x1]) 1 fun x2 =>
  some [x2] := V_is rfl (by kernel_rfl)
theorem e_f_internal_bytealg_CompareString_0 (x0 x1 : IV) : W f_internal_bytealg_CompareString 0 [x0, x1] =
  calls (W f_internal_bytealg_abigen_runtime_cmpstring 0 [x0, x1]) 1 fun x2 =>
  some [x2] := V_is rfl (by kernel_rfl)
theorem e_f_internal_bytealg_abigen_runtime_cmpstring (xs : List IV) : W f_internal_bytealg_abigen_runtime_cmpstring 0 xs = O.compareF xs := V_eq _ _ _ _
theorem e_f_slices_symMergeCmpFunc_0 (x0 x1 x2 x3 : IV) : W f_slices_symMergeCmpFunc 0 [x0, x1, x2, x3] =
  (O.sub .i64 x2 x1).bind fun x4 =>
  (O.eq x4 (.int 1)).bind fun x5 =>
  cnd x5 (
    W f_slices_symMergeCmpFunc 1 [x1, x2, x3, x0]) (
    (O.sub .i64 x3 x2).bind fun x6 =>
    (O.eq x6 (.int 1)).bind fun x7 =>
    cnd x7 (
      W f_slices_symMergeCmpFunc 2 [x2, x1, x2, x0]) (
      (O.add .i64 x1 x3).bind fun x8 =>
      (O.conv .u64 x8).bind fun x9 =>
      (Prim.ev (.shift .shr .u64) [x9, (.int 1)]).bind fun x10 =>
      (O.conv .i64 x10).bind fun x11 =>
      (O.add .i64 x11 x2).bind fun x12 =>
      (O.gt x2 x11).bind fun x13 =>
      cnd x13 (
        (O.sub .i64 x12 x3).bind fun x14 =>
        W f_slices_symMergeCmpFunc 3 [x1, x2, x3, x11, x12, x14, x11, x0]) (
        W f_slices_symMergeCmpFunc 3 [x1, x2, x3, x11, x12, x1, x2, x0]))) := V_is rfl (by kernel_rfl)
theorem e_f_slices_symMergeCmpFunc_1 (x0 x1 x2 x3 : IV) : W f_slices_symMergeCmpFunc 1 [x0, x1, x2, x3] =
  (O.lt x1 x2).bind fun x4 =>
  cnd x4 (
    (O.add .i64 x1 x2).bind fun x5 =>
    (O.conv .u64 x5).bind fun x6 =>
    (Prim.ev (.shift .shr .u64) [x6, (.int 1)]).bind fun x7 =>
    (O.conv .i64 x7).bind fun x8 =>
    (O.index x3 x8).bind fun x9 =>
    (O.index x3 x0).bind fun x10 =>
    calls (W f_value_Map_1 0 [x9, x10]) 1 fun x11 =>
    (O.lt x11 (.int 0)).bind fun x12 =>
    cnd x12 (
      (O.add .i64 x8 (.int 1)).bind fun x13 =>
      W f_slices_symMergeCmpFunc 4 [x0, x13, x2, x3]) (
      W f_slices_symMergeCmpFunc 4 [x0, x1, x8, x3])) (
    W f_slices_symMergeCmpFunc 5 [x1, x0, x3]) := V_is rfl (by kernel_rfl)
theorem e_f_slices_symMergeCmpFunc_2 (x0 x1 x2 x3 : IV) : W f_slices_symMergeCmpFunc 2 [x0, x1, x2, x3] =
  (O.lt x1 x2).bind fun x4 =>
  cnd x4 (
    (O.add .i64 x1 x2).bind fun x5 =>
    (O.conv .u64 x5).bind fun x6 =>
    (Prim.ev (.shift .shr .u64) [x6, (.int 1)]).bind fun x7 =>
    (O.conv .i64 x7).bind fun x8 =>
    (O.index x3 x0).bind fun x9 =>
    (O.index x3 x8).bind fun x10 =>
    calls (W f_value_Map_1 0 [x9, x10]) 1 fun x11 =>
    (O.lt x11 (.int 0)).bind fun x12 =>
    (O.not x12).bind fun x13 =>
    cnd x13 (
      (O.add .i64 x8 (.int 1)).bind fun x14 =>
      W f_slices_symMergeCmpFunc 6 [x0, x14, x2, x3]) (
      W f_slices_symMergeCmpFunc 6 [x0, x1, x8, x3])) (
    W f_slices_symMergeCmpFunc 7 [x1, x0, x3]) := V_is rfl (by kernel_rfl)
theorem e_f_slices_symMergeCmpFunc_3 (x0 x1 x2 x3 x4 x5 x6 x7 : IV) : W f_slices_symMergeCmpFunc 3 [x0, x1, x2, x3, x4, x5, x6, x7] =
  (O.sub .i64 x4 (.int 1)).bind fun x8 =>
  W f_slices_symMergeCmpFunc 8 [x0, x1, x2, x3, x4, x5, x6, x8, x7] := V_is rfl (by kernel_rfl)
theorem e_f_slices_symMergeCmpFunc_4 (x0 x1 x2 x3 : IV) : W f_slices_symMergeCmpFunc 4 [x0, x1, x2, x3] =
  W f_slices_symMergeCmpFunc 1 [x0, x1, x2, x3] := V_is rfl (by kernel_rfl)
theorem e_f_slices_symMergeCmpFunc_5 (x0 x1 x2 : IV) : W f_slices_symMergeCmpFunc 5 [x0, x1, x2] =
  (O.sub .i64 x0 (.int 1)).bind fun x3 =>
  (O.lt x1 x3).bind fun x4 =>
  cnd x4 (
    (O.add .i64 x1 (.int 1)).bind fun x5 =>
    (O.add .i64 x1 (.int 1)).bind fun x6 =>
    (O.index x2 x6).bind fun x7 =>
    (O.index x2 x1).bind fun x8 =>
    (O.setAt 0 6 true true x2 x1 x7).bind fun x9 =>
    (O.index x9 x5).bind fun x10 =>
    (O.setAt 0 6 true true x9 x5 x8).bind fun x11 =>
    (O.add .i64 x1 (.int 1)).bind fun x12 =>
    W f_slices_symMergeCmpFunc 5 [x0, x12, x11]) (
    some [x2]) := V_is rfl (by kernel_rfl)
theorem e_f_slices_symMergeCmpFunc_6 (x0 x1 x2 x3 : IV) : W f_slices_symMergeCmpFunc 6 [x0, x1, x2, x3] =
  W f_slices_symMergeCmpFunc 2 [x0, x1, x2, x3] := V_is rfl (by kernel_rfl)
theorem e_f_slices_symMergeCmpFunc_7 (x0 x1 x2 : IV) : W f_slices_symMergeCmpFunc 7 [x0, x1, x2] =
  (O.gt x1 x0).bind fun x3 =>
  cnd x3 (
    (O.sub .i64 x1 (.int 1)).bind fun x4 =>
    (O.sub .i64 x1 (.int 1)).bind fun x5 =>
    (O.index x2 x5).bind fun x6 =>
    (O.index x2 x1).bind fun x7 =>
    (O.setAt 0 6 true true x2 x1 x6).bind fun x8 =>
    (O.index x8 x4).bind fun x9 =>
    (O.setAt 0 6 true true x8 x4 x7).bind fun x10 =>
    (O.sub .i64 x1 (.int 1)).bind fun x11 =>
    W f_slices_symMergeCmpFunc 7 [x0, x11, x10]) (
    some [x2]) := V_is rfl (by kernel_rfl)
theorem e_f_slices_symMergeCmpFunc_8 (x0 x1 x2 x3 x4 x5 x6 x7 x8 : IV) : W f_slices_symMergeCmpFunc 8 [x0, x1, x2, x3, x4, x5, x6, x7, x8] =
  (O.lt x5 x6).bind fun x9 =>
  cnd x9 (
    (O.add .i64 x5 x6).bind fun x10 =>
    (O.conv .u64 x10).bind fun x11 =>
    (Prim.ev (.shift .shr .u64) [x11, (.int 1)]).bind fun x12 =>
    (O.conv .i64 x12).bind fun x13 =>
    (O.sub .i64 x7 x13).bind fun x14 =>
    (O.index x8 x14).bind fun x15 =>
    (O.index x8 x13).bind fun x16 =>
    calls (W f_value_Map_1 0 [x15, x16]) 1 fun x17 =>
    (O.lt x17 (.int 0)).bind fun x18 =>
    (O.not x18).bind fun x19 =>
    cnd x19 (
      (O.add .i64 x13 (.int 1)).bind fun x20 =>
      W f_slices_symMergeCmpFunc 9 [x0, x1, x2, x3, x4, x20, x6, x7, x8]) (
      W f_slices_symMergeCmpFunc 9 [x0, x1, x2, x3, x4, x5, x13, x7, x8])) (
    (O.sub .i64 x4 x5).bind fun x10 =>
    (O.lt x5 x1).bind fun x11 =>
    (cnd x11 (
        (O.lt x1 x10).bind fun x12 =>
        some x12) (some (.bool false))).bind fun x12 =>
    cnd x12 (
      calls (W f_slices_rotateCmpFunc 0 [x8, x5, x1, x10]) 1 fun x13 =>
      W f_slices_symMergeCmpFunc 10 [x0, x2, x3, x5, x10, x13]) (
      W f_slices_symMergeCmpFunc 10 [x0, x2, x3, x5, x10, x8])) := V_is rfl (by kernel_rfl)
theorem e_f_slices_symMergeCmpFunc_9 (x0 x1 x2 x3 x4 x5 x6 x7 x8 : IV) : W f_slices_symMergeCmpFunc 9 [x0, x1, x2, x3, x4, x5, x6, x7, x8] =
  W f_slices_symMergeCmpFunc 8 [x0, x1, x2, x3, x4, x5, x6, x7, x8] := V_is rfl (by kernel_rfl)
theorem e_f_slices_symMergeCmpFunc_10 (x0 x1 x2 x3 x4 x5 : IV) : W f_slices_symMergeCmpFunc 10 [x0, x1, x2, x3, x4, x5] =
  (O.lt x0 x3).bind fun x6 =>
  (cnd x6 (
      (O.lt x3 x2).bind fun x7 =>
      some x7) (some (.bool false))).bind fun x7 =>
  cnd x7 (
    calls (W f_slices_symMergeCmpFunc 0 [x5, x0, x3, x2]) 1 fun x8 =>
    W f_slices_symMergeCmpFunc 11 [x1, x2, x4, x8]) (
    W f_slices_symMergeCmpFunc 11 [x1, x2, x4, x5]) := V_is rfl (by kernel_rfl)
theorem e_f_slices_symMergeCmpFunc_11 (x0 x1 x2 x3 : IV) : W f_slices_symMergeCmpFunc 11 [x0, x1, x2, x3] =
  (O.lt x1 x2).bind fun x4 =>
  (cnd x4 (
      (O.lt x2 x0).bind fun x5 =>
      some x5) (some (.bool false))).bind fun x5 =>
  cnd x5 (
    calls (W f_slices_symMergeCmpFunc 0 [x3, x1, x2, x0]) 1 fun x6 =>
    some [x6]) (
    some [x3]) := V_is rfl (by kernel_rfl)
theorem e_f_slices_rotateCmpFunc_0 (x0 x1 x2 x3 : IV) : W f_slices_rotateCmpFunc 0 [x0, x1, x2, x3] =
  (O.sub .i64 x2 x1).bind fun x4 =>
  (O.sub .i64 x3 x2).bind fun x5 =>
  W f_slices_rotateCmpFunc 1 [x2, x4, x5, x0] := V_is rfl (by kernel_rfl)
theorem e_f_slices_rotateCmpFunc_1 (x0 x1 x2 x3 : IV) : W f_slices_rotateCmpFunc 1 [x0, x1, x2, x3] =
  (O.ne x1 x2).bind fun x4 =>
  cnd x4 (
    (O.gt x1 x2).bind fun x5 =>
    cnd x5 (
      (O.sub .i64 x0 x1).bind fun x6 =>
      calls (W f_slices_swapRangeCmpFunc 0 [x3, x6, x0, x2]) 1 fun x7 =>
      (O.sub .i64 x1 x2).bind fun x8 =>
      W f_slices_rotateCmpFunc 2 [x0, x8, x2, x7]) (
      (O.sub .i64 x0 x1).bind fun x6 =>
      (O.add .i64 x0 x2).bind fun x7 =>
      (O.sub .i64 x7 x1).bind fun x8 =>
      calls (W f_slices_swapRangeCmpFunc 0 [x3, x6, x8, x1]) 1 fun x9 =>
      (O.sub .i64 x2 x1).bind fun x10 =>
      W f_slices_rotateCmpFunc 2 [x0, x1, x10, x9])) (
    (O.sub .i64 x0 x1).bind fun x5 =>
    calls (W f_slices_swapRangeCmpFunc 0 [x3, x5, x0, x1]) 1 fun x6 =>
    some [x6]) := V_is rfl (by kernel_rfl)
theorem e_f_slices_rotateCmpFunc_2 (x0 x1 x2 x3 : IV) : W f_slices_rotateCmpFunc 2 [x0, x1, x2, x3] =
  W f_slices_rotateCmpFunc 1 [x0, x1, x2, x3] := V_is rfl (by kernel_rfl)
theorem e_f_slices_swapRangeCmpFunc_0 (x0 x1 x2 x3 : IV) : W f_slices_swapRangeCmpFunc 0 [x0, x1, x2, x3] =
  W f_slices_swapRangeCmpFunc 1 [x1, x2, x3, (.int 0), x0] := V_is rfl (by kernel_rfl)
theorem e_f_slices_swapRangeCmpFunc_1 (x0 x1 x2 x3 x4 : IV) : W f_slices_swapRangeCmpFunc 1 [x0, x1, x2, x3, x4] =
  (O.lt x3 x2).bind fun x5 =>
  cnd x5 (
    (O.add .i64 x0 x3).bind fun x6 =>
    (O.add .i64 x1 x3).bind fun x7 =>
    (O.add .i64 x1 x3).bind fun x8 =>
    (O.index x4 x8).bind fun x9 =>
    (O.add .i64 x0 x3).bind fun x10 =>
    (O.index x4 x10).bind fun x11 =>
    (O.index x4 x6).bind fun x12 =>
    (O.setAt 0 6 true true x4 x6 x9).bind fun x13 =>
    (O.index x13 x7).bind fun x14 =>
    (O.setAt 0 6 true true x13 x7 x11).bind fun x15 =>
    (O.add .i64 x3 (.int 1)).bind fun x16 =>
    W f_slices_swapRangeCmpFunc 1 [x0, x1, x2, x16, x15]) (
    some [x4]) := V_is rfl (by kernel_rfl)
theorem e_f_defaults_under_0 (x0 x1 : IV) : W f_defaults_under 0 [x0, x1] =
  (O.proj 5 x0).bind fun x2 =>
  (O.len x2).bind fun x3 =>
  (O.eq x3 (.int 1)).bind fun x4 =>
  cnd x4 (
    (O.index x2 (.int 0)).bind fun x5 =>
    some [x5, (.bool true)]) (
    (O.proj 6 x0).bind fun x5 =>
    (O.len x5).bind fun x6 =>
    W f_defaults_under 1 [x1, x5, x6, (.int 0), (.int 0), (.int 0), (.int 0), (.str ⟨#[]⟩)]) := V_is rfl (by kernel_rfl)
theorem e_f_defaults_under_1 (x0 x1 x2 x3 x4 x5 x6 x7 : IV) : W f_defaults_under 1 [x0, x1, x2, x3, x4, x5, x6, x7] =
  (O.lt x3 x2).bind fun x8 =>
  cnd x8 (
    (O.index x1 x3).bind fun x9 =>
    (O.proj 0 x9).bind fun x10 =>
    (O.sEq x10 x0).bind fun x11 =>
    cnd x11 (
      (O.projs 4 7 x9).bind fun x12 =>
      some [x12, (.bool true)]) (
      (O.add .i64 x3 (.int 1)).bind fun x12 =>
      W f_defaults_under 1 [x0, x1, x2, x12, x4, x5, x6, x7])) (
    (O.mkagg [(.int 0), (.int 0), (.int 0), (.list []), (.str ⟨#[]⟩), (.list []), (.list [])]).bind fun x9 =>
    some [x9, (.bool false)]) := V_is rfl (by kernel_rfl)
theorem e_f_ref04_Equal_0 (x0 x1 : IV) : W f_ref04_Equal 0 [x0, x1] =
  calls (W f_ref04_Compare 0 [x0, x1]) 1 fun x2 =>
  (O.eq x2 (.int 0)).bind fun x3 =>
  some [x3] := V_is rfl (by kernel_rfl)
theorem e_f_ref04_Compare_0 (x0 x1 : IV) : W f_ref04_Compare 0 [x0, x1] =
  (O.proj 0 x0).bind fun x2 =>
  (O.proj 0 x1).bind fun x3 =>
  (O.lt x2 x3).bind fun x4 =>
  (O.gt x2 x3).bind fun x5 =>
  calls (W f_ref04_order 0 [x4, x5]) 1 fun x6 =>
  (O.eq x6 (.int 0)).bind fun x7 =>
  cnd x7 (
    (O.proj 1 x0).bind fun x8 =>
    (O.proj 1 x1).bind fun x9 =>
    (O.lt x8 x9).bind fun x10 =>
    (O.gt x8 x9).bind fun x11 =>
    calls (W f_ref04_order 0 [x10, x11]) 1 fun x12 =>
    W f_ref04_Compare 1 [x12, x0, x1]) (
    W f_ref04_Compare 1 [x6, x0, x1]) := V_is rfl (by kernel_rfl)
theorem e_f_ref04_Compare_1 (x0 x1 x2 : IV) : W f_ref04_Compare 1 [x0, x1, x2] =
  (O.eq x0 (.int 0)).bind fun x3 =>
  cnd x3 (
    (O.proj 2 x1).bind fun x4 =>
    (O.proj 2 x2).bind fun x5 =>
    (O.sLt x4 x5).bind fun x6 =>
    (O.sGt x4 x5).bind fun x7 =>
    calls (W f_ref04_order 0 [x6, x7]) 1 fun x8 =>
    W f_ref04_Compare 2 [x8, x1, x2]) (
    W f_ref04_Compare 2 [x0, x1, x2]) := V_is rfl (by kernel_rfl)
theorem e_f_ref04_Compare_2 (x0 x1 x2 : IV) : W f_ref04_Compare 2 [x0, x1, x2] =
  W f_ref04_Compare 3 [x0, (.int 0), x1, x2] := V_is rfl (by kernel_rfl)
theorem e_f_ref04_Compare_3 (x0 x1 x2 x3 : IV) : W f_ref04_Compare 3 [x0, x1, x2, x3] =
  (O.proj 3 x2).bind fun x4 =>
  (O.len x4).bind fun x5 =>
  (O.lt x1 x5).bind fun x6 =>
  (cnd x6 (
      (O.proj 3 x3).bind fun x7 =>
      (O.len x7).bind fun x8 =>
      (O.lt x1 x8).bind fun x9 =>
      some x9) (some (.bool false))).bind fun x7 =>
  (cnd x7 (
      (O.eq x0 (.int 0)).bind fun x8 =>
      some x8) (some (.bool false))).bind fun x8 =>
  cnd x8 (
    (O.index x4 x1).bind fun x9 =>
    (O.proj 3 x3).bind fun x10 =>
    (O.index x10 x1).bind fun x11 =>
    calls (W f_ref04_Compare 0 [x9, x11]) 1 fun x12 =>
    (O.add .i64 x1 (.int 1)).bind fun x13 =>
    W f_ref04_Compare 3 [x12, x13, x2, x3]) (
    (O.eq x0 (.int 0)).bind fun x9 =>
    cnd x9 (
      (O.proj 3 x3).bind fun x10 =>
      (O.len x10).bind fun x11 =>
      (O.lt x5 x11).bind fun x12 =>
      (O.gt x5 x11).bind fun x13 =>
      calls (W f_ref04_order 0 [x12, x13]) 1 fun x14 =>
      W f_ref04_Compare 4 [x14, x2, x3]) (
      W f_ref04_Compare 4 [x0, x2, x3])) := V_is rfl (by kernel_rfl)
theorem e_f_ref04_Compare_4 (x0 x1 x2 : IV) : W f_ref04_Compare 4 [x0, x1, x2] =
  W f_ref04_Compare 5 [x0, (.int 0), x1, x2] := V_is rfl (by kernel_rfl)
theorem e_f_ref04_Compare_5 (x0 x1 x2 x3 : IV) : W f_ref04_Compare 5 [x0, x1, x2, x3] =
  (O.proj 4 x2).bind fun x4 =>
  (O.len x4).bind fun x5 =>
  (O.lt x1 x5).bind fun x6 =>
  (cnd x6 (
      (O.proj 4 x3).bind fun x7 =>
      (O.len x7).bind fun x8 =>
      (O.lt x1 x8).bind fun x9 =>
      some x9) (some (.bool false))).bind fun x7 =>
  (cnd x7 (
      (O.eq x0 (.int 0)).bind fun x8 =>
      some x8) (some (.bool false))).bind fun x8 =>
  cnd x8 (
    (O.index x4 x1).bind fun x9 =>
    (O.proj 0 x9).bind fun x10 =>
    (O.proj 4 x3).bind fun x11 =>
    (O.index x11 x1).bind fun x12 =>
    (O.proj 0 x12).bind fun x13 =>
    (O.sLt x10 x13).bind fun x14 =>
    (O.sGt x10 x13).bind fun x15 =>
    calls (W f_ref04_order 0 [x14, x15]) 1 fun x16 =>
    (O.eq x16 (.int 0)).bind fun x17 =>
    cnd x17 (
      (O.projs 1 5 x9).bind fun x18 =>
      (O.projs 1 5 x12).bind fun x19 =>
      calls (W f_ref04_Compare 0 [x18, x19]) 1 fun x20 =>
      W f_ref04_Compare 6 [x20, x1, x2, x3]) (
      W f_ref04_Compare 6 [x16, x1, x2, x3])) (
    (O.eq x0 (.int 0)).bind fun x9 =>
    cnd x9 (
      (O.proj 4 x3).bind fun x10 =>
      (O.len x10).bind fun x11 =>
      (O.lt x5 x11).bind fun x12 =>
      (O.gt x5 x11).bind fun x13 =>
      calls (W f_ref04_order 0 [x12, x13]) 1 fun x14 =>
      some [x14]) (
      some [x0])) := V_is rfl (by kernel_rfl)
theorem e_f_ref04_Compare_6 (x0 x1 x2 x3 : IV) : W f_ref04_Compare 6 [x0, x1, x2, x3] =
  (O.add .i64 x1 (.int 1)).bind fun x4 =>
  W f_ref04_Compare 5 [x0, x4, x2, x3] := V_is rfl (by kernel_rfl)
theorem e_f_ref04_order_0 (x0 x1 : IV) : W f_ref04_order 0 [x0, x1] =
  cnd x0 (
    some [(.int (-1))]) (
    cnd x1 (
      some [(.int 1)]) (
      some [(.int 0)])) := V_is rfl (by kernel_rfl)
theorem e_f_defaults_Prune_0 (x0 x1 : IV) : W f_defaults_Prune 0 [x0, x1] =
  (O.proj 0 x1).bind fun x2 =>
  (O.proj 0 x0).bind fun x3 =>
  (O.ne x2 x3).bind fun x4 =>
  (cnd x4 (some (.bool true)) (
      (O.ne x2 (.int 5)).bind fun x5 =>
      (cnd x5 (
          (O.ne x2 (.int 4)).bind fun x6 =>
          some x6) (some (.bool false))).bind fun x6 =>
      some x6)).bind fun x5 =>
  cnd x5 (
    calls (W f_defaults_clone 0 [x1]) 1 fun x6 =>
    some [x6]) (
    (O.eq x2 (.int 4)).bind fun x6 =>
    cnd x6 (
      calls (W f_defaults_elements_v2 0 [x0, x1]) 1 fun x7 =>
      some [x7]) (
      (O.proj 4 x1).bind fun x7 =>
      (O.len x7).bind fun x8 =>
      W f_defaults_Prune 1 [x7, x8, (.int 0), x0, (.int 0), (.int 0), (.str ⟨#[]⟩), (.list [])])) := V_is rfl (by kernel_rfl)
theorem e_f_defaults_Prune_1 (x0 x1 x2 x3 x4 x5 x6 x7 : IV) : W f_defaults_Prune 1 [x0, x1, x2, x3, x4, x5, x6, x7] =
  (O.lt x2 x1).bind fun x8 =>
  cnd x8 (
    (O.index x0 x2).bind fun x9 =>
    (O.proj 0 x9).bind fun x10 =>
    calls (W f_defaults_under 0 [x3, x10]) 2 fun x11 x12 =>
    (cnd x12 (
        (O.proj 1 x9).bind fun x13 =>
        (O.ne x13 (.int 0)).bind fun x14 =>
        some x14) (some (.bool false))).bind fun x13 =>
    cnd x13 (
      (O.projs 1 5 x9).bind fun x14 =>
      calls (W f_defaults_Prune 0 [x11, x14]) 1 fun x15 =>
      (O.proj 0 x15).bind fun x16 =>
      (O.proj 1 x15).bind fun x17 =>
      (O.proj 2 x15).bind fun x18 =>
      (O.proj 3 x15).bind fun x19 =>
      (O.proj 4 x15).bind fun x20 =>
      (O.mkagg [x10, x16, x17, x18, x19, x20]).bind fun x21 =>
      (O.mklist [x21]).bind fun x22 =>
      (O.append 96 x7 x22).bind fun x23 =>
      W f_defaults_Prune 2 [x0, x1, x2, x3, x4, x5, x6, x23]) (
      W f_defaults_Prune 2 [x0, x1, x2, x3, x4, x5, x6, x7])) (
    calls (W f_value_Map 0 [x7]) 5 fun x9 x10 x11 x12 x13 =>
    (O.mkagg [x9, x10, x11, x12, x13]).bind fun x14 =>
    some [x14]) := V_is rfl (by kernel_rfl)
theorem e_f_defaults_Prune_2 (x0 x1 x2 x3 x4 x5 x6 x7 : IV) : W f_defaults_Prune 2 [x0, x1, x2, x3, x4, x5, x6, x7] =
  (O.add .i64 x2 (.int 1)).bind fun x8 =>
  W f_defaults_Prune 1 [x0, x1, x8, x3, x4, x5, x6, x7] := V_is rfl (by kernel_rfl)
theorem e_f_defaults_elements_v2_0 (x0 x1 : IV) : W f_defaults_elements_v2 0 [x0, x1] =
  (O.proj 5 x0).bind fun x2 =>
  (O.len x2).bind fun x3 =>
  (O.ne x3 (.int 1)).bind fun x4 =>
  cnd x4 (
    calls (W f_defaults_clone 0 [x1]) 1 fun x5 =>
    some [x5]) (
    (O.proj 3 x1).bind fun x5 =>
    (O.len x5).bind fun x6 =>
    W f_defaults_elements_v2 1 [x5, x6, (.int 0), x0, (.int 0), (.int 0), (.str ⟨#[]⟩), (.list [])]) := V_is rfl (by kernel_rfl)
theorem e_f_defaults_elements_v2_1 (x0 x1 x2 x3 x4 x5 x6 x7 : IV) : W f_defaults_elements_v2 1 [x0, x1, x2, x3, x4, x5, x6, x7] =
  (O.lt x2 x1).bind fun x8 =>
  cnd x8 (
    (O.index x0 x2).bind fun x9 =>
    (O.proj 5 x3).bind fun x10 =>
    (O.index x10 (.int 0)).bind fun x11 =>
    calls (W f_defaults_Prune 0 [x11, x9]) 1 fun x12 =>
    (O.mklist [x12]).bind fun x13 =>
    (O.append 80 x7 x13).bind fun x14 =>
    (O.add .i64 x2 (.int 1)).bind fun x15 =>
    W f_defaults_elements_v2 1 [x0, x1, x15, x3, x4, x5, x6, x14]) (
    calls (W f_value_List 0 [x7]) 5 fun x9 x10 x11 x12 x13 =>
    (O.mkagg [x9, x10, x11, x12, x13]).bind fun x14 =>
    some [x14]) := V_is rfl (by kernel_rfl)
theorem e_f_ref08_Fill_0 (x0 x1 : IV) : W f_ref08_Fill 0 [x0, x1] =
  (O.proj 0 x1).bind fun x2 =>
  (O.proj 0 x0).bind fun x3 =>
  (O.ne x2 x3).bind fun x4 =>
  cnd x4 (
    some [x1]) (
    (O.eq x2 (.int 4)).bind fun x5 =>
    (cnd x5 (
        (O.proj 5 x0).bind fun x6 =>
        (O.len x6).bind fun x7 =>
        (O.eq x7 (.int 1)).bind fun x8 =>
        some x8) (some (.bool false))).bind fun x6 =>
    cnd x6 (
      W f_ref08_Fill 1 [(.int 0), x0, x1, (.int 0), (.int 0), (.str ⟨#[]⟩), (.list [])]) (
      (O.ne x2 (.int 5)).bind fun x7 =>
      cnd x7 (
        some [x1]) (
        calls (W f_ref08_dictionary 0 [x0]) 1 fun x8 =>
        cnd x8 (
          W f_ref08_Fill 2 [(.int 0), x0, x1, (.int 0), (.int 0), (.str ⟨#[]⟩), (.list [])]) (
          W f_ref08_Fill 3 [(.int 0), x0, x1, (.int 0), (.int 0), (.str ⟨#[]⟩), x1])))) := V_is rfl (by kernel_rfl)
theorem e_f_ref08_Fill_1 (x0 x1 x2 x3 x4 x5 x6 : IV) : W f_ref08_Fill 1 [x0, x1, x2, x3, x4, x5, x6] =
  (O.proj 3 x2).bind fun x7 =>
  (O.len x7).bind fun x8 =>
  (O.lt x0 x8).bind fun x9 =>
  cnd x9 (
    (O.proj 5 x1).bind fun x10 =>
    (O.index x10 (.int 0)).bind fun x11 =>
    (O.index x7 x0).bind fun x12 =>
    calls (W f_ref08_Fill 0 [x11, x12]) 1 fun x13 =>
    (O.mklist [x13]).bind fun x14 =>
    (O.append 80 x6 x14).bind fun x15 =>
    (O.add .i64 x0 (.int 1)).bind fun x16 =>
    W f_ref08_Fill 1 [x16, x1, x2, x3, x4, x5, x15]) (
    (O.mkagg [(.int 4), (.int 0), (.str ⟨#[]⟩), x6, (.list [])]).bind fun x10 =>
    some [x10]) := V_is rfl (by kernel_rfl)
theorem e_f_ref08_Fill_2 (x0 x1 x2 x3 x4 x5 x6 : IV) : W f_ref08_Fill 2 [x0, x1, x2, x3, x4, x5, x6] =
  (O.proj 4 x2).bind fun x7 =>
  (O.len x7).bind fun x8 =>
  (O.lt x0 x8).bind fun x9 =>
  cnd x9 (
    (O.index x7 x0).bind fun x10 =>
    (O.proj 0 x10).bind fun x11 =>
    (O.proj 5 x1).bind fun x12 =>
    (O.index x12 (.int 0)).bind fun x13 =>
    (O.projs 1 5 x10).bind fun x14 =>
    calls (W f_ref08_Fill 0 [x13, x14]) 1 fun x15 =>
    (O.proj 0 x15).bind fun x16 =>
    (O.proj 1 x15).bind fun x17 =>
    (O.proj 2 x15).bind fun x18 =>
    (O.proj 3 x15).bind fun x19 =>
    (O.proj 4 x15).bind fun x20 =>
    (O.mkagg [x11, x16, x17, x18, x19, x20]).bind fun x21 =>
    (O.mklist [x21]).bind fun x22 =>
    (O.append 96 x6 x22).bind fun x23 =>
    (O.add .i64 x0 (.int 1)).bind fun x24 =>
    W f_ref08_Fill 2 [x24, x1, x2, x3, x4, x5, x23]) (
    (O.mkagg [(.int 5), (.int 0), (.str ⟨#[]⟩), (.list []), x6]).bind fun x10 =>
    some [x10]) := V_is rfl (by kernel_rfl)
theorem e_f_ref08_Fill_3 (x0 x1 x2 x3 x4 x5 x6 : IV) : W f_ref08_Fill 3 [x0, x1, x2, x3, x4, x5, x6] =
  (O.proj 6 x1).bind fun x7 =>
  (O.len x7).bind fun x8 =>
  (O.lt x0 x8).bind fun x9 =>
  cnd x9 (
    (O.index x7 x0).bind fun x10 =>
    (O.proj 0 x10).bind fun x11 =>
    calls (W f_ref04_Get 0 [x2, x11]) 6 fun x12 x13 x14 x15 x16 x17 =>
    (O.not x17).bind fun x18 =>
    (cnd x18 (some (.bool true)) (
        (O.eq x12 (.int 0)).bind fun x19 =>
        some x19)).bind fun x19 =>
    (cnd x19 (
        (O.proj 3 x10).bind fun x20 =>
        (O.len x20).bind fun x21 =>
        (O.gt x21 (.int 0)).bind fun x22 =>
        some x22) (some (.bool false))).bind fun x20 =>
    cnd x20 (
      (O.proj 3 x10).bind fun x21 =>
      (O.index x21 (.int 0)).bind fun x22 =>
      W f_ref08_Fill 4 [x0, (.bool true), x1, x2, x3, x4, x5, x6, x10, x22]) (
      (O.mkagg [x12, x13, x14, x15, x16]).bind fun x21 =>
      W f_ref08_Fill 4 [x0, x17, x1, x2, x3, x4, x5, x6, x10, x21])) (
    some [x6]) := V_is rfl (by kernel_rfl)
theorem e_f_ref08_Fill_4 (x0 x1 x2 x3 x4 x5 x6 x7 x8 x9 : IV) : W f_ref08_Fill 4 [x0, x1, x2, x3, x4, x5, x6, x7, x8, x9] =
  cnd x1 (
    (O.proj 0 x8).bind fun x10 =>
    (O.projs 4 7 x8).bind fun x11 =>
    calls (W f_ref08_Fill 0 [x11, x9]) 1 fun x12 =>
    calls (W f_ref04_With 0 [x7, x10, x12]) 5 fun x13 x14 x15 x16 x17 =>
    (O.mkagg [x13, x14, x15, x16, x17]).bind fun x18 =>
    W f_ref08_Fill 5 [x0, x2, x3, x4, x5, x6, x18]) (
    W f_ref08_Fill 5 [x0, x2, x3, x4, x5, x6, x7]) := V_is rfl (by kernel_rfl)
theorem e_f_ref08_Fill_5 (x0 x1 x2 x3 x4 x5 x6 : IV) : W f_ref08_Fill 5 [x0, x1, x2, x3, x4, x5, x6] =
  (O.add .i64 x0 (.int 1)).bind fun x7 =>
  W f_ref08_Fill 3 [x7, x1, x2, x3, x4, x5, x6] := V_is rfl (by kernel_rfl)
theorem e_f_ref08_dictionary_0 (x0 : IV) : W f_ref08_dictionary 0 [x0] =
  (O.proj 5 x0).bind fun x1 =>
  (O.len x1).bind fun x2 =>
  (O.gt x2 (.int 0)).bind fun x3 =>
  some [x3] := V_is rfl (by kernel_rfl)
theorem e_f_ref04_With_0 (x0 x1 x2 : IV) : W f_ref04_With 0 [x0, x1, x2] =
  calls (W f_ref04_others 0 [x0, x1]) 1 fun x3 =>
  (O.proj 0 x2).bind fun x4 =>
  (O.proj 1 x2).bind fun x5 =>
  (O.proj 2 x2).bind fun x6 =>
  (O.proj 3 x2).bind fun x7 =>
  (O.proj 4 x2).bind fun x8 =>
  (O.mkagg [x1, x4, x5, x6, x7, x8]).bind fun x9 =>
  (O.mklist [x9]).bind fun x10 =>
  (O.append 96 x3 x10).bind fun x11 =>
  calls (W f_ref04_Map 0 [x11]) 5 fun x12 x13 x14 x15 x16 =>
  some [x12, x13, x14, x15, x16] := V_is rfl (by kernel_rfl)
theorem e_f_ref04_others_0 (x0 x1 : IV) : W f_ref04_others 0 [x0, x1] =
  W f_ref04_others 1 [x1, (.int 0), x0, (.list [])] := V_is rfl (by kernel_rfl)
theorem e_f_ref04_others_1 (x0 x1 x2 x3 : IV) : W f_ref04_others 1 [x0, x1, x2, x3] =
  (O.proj 4 x2).bind fun x4 =>
  (O.len x4).bind fun x5 =>
  (O.lt x1 x5).bind fun x6 =>
  (cnd x6 (
      (O.proj 0 x2).bind fun x7 =>
      (O.eq x7 (.int 5)).bind fun x8 =>
      some x8) (some (.bool false))).bind fun x7 =>
  cnd x7 (
    (O.index x4 x1).bind fun x8 =>
    (O.proj 0 x8).bind fun x9 =>
    (O.sNe x9 x0).bind fun x10 =>
    cnd x10 (
      (O.mklist [x8]).bind fun x11 =>
      (O.append 96 x3 x11).bind fun x12 =>
      W f_ref04_others 2 [x0, x1, x2, x12]) (
      W f_ref04_others 2 [x0, x1, x2, x3])) (
    some [x3]) := V_is rfl (by kernel_rfl)
theorem e_f_ref04_others_2 (x0 x1 x2 x3 : IV) : W f_ref04_others 2 [x0, x1, x2, x3] =
  (O.add .i64 x1 (.int 1)).bind fun x4 =>
  W f_ref04_others 1 [x0, x4, x2, x3] := V_is rfl (by kernel_rfl)
theorem e_f_law08_DefaultsPrune_0 (x0 x1 : IV) : W f_law08_DefaultsPrune 0 [x0, x1] =
  calls (W f_law08_fits 0 [x0, x1]) 1 fun x2 =>
  (O.not x2).bind fun x3 =>
  cnd x3 (
    calls (W f_law08_lives 0 []) 1 fun x4 =>
    some [x4]) (
    calls (W f_law08_lives 0 []) 1 fun x4 =>
    (cnd x4 (
        calls (W f_defaults_Prune 0 [x0, x1]) 1 fun x5 =>
        calls (W f_ref08_Prune 0 [x0, x1]) 1 fun x6 =>
        calls (W f_ref04_Equal 0 [x5, x6]) 1 fun x7 =>
        some x7) (some (.bool false))).bind fun x5 =>
    some [x5]) := V_is rfl (by kernel_rfl)
theorem e_f_ref08_Prune_0 (x0 x1 : IV) : W f_ref08_Prune 0 [x0, x1] =
  (O.proj 0 x1).bind fun x2 =>
  (O.proj 0 x0).bind fun x3 =>
  (O.ne x2 x3).bind fun x4 =>
  cnd x4 (
    some [x1]) (
    (O.eq x2 (.int 4)).bind fun x5 =>
    (cnd x5 (
        (O.proj 5 x0).bind fun x6 =>
        (O.len x6).bind fun x7 =>
        (O.eq x7 (.int 1)).bind fun x8 =>
        some x8) (some (.bool false))).bind fun x6 =>
    cnd x6 (
      W f_ref08_Prune 1 [(.int 0), x0, x1, (.int 0), (.int 0), (.str ⟨#[]⟩), (.list [])]) (
      (O.ne x2 (.int 5)).bind fun x7 =>
      cnd x7 (
        some [x1]) (
        W f_ref08_Prune 2 [(.int 0), x0, x1, (.int 0), (.int 0), (.str ⟨#[]⟩), (.list [])]))) := V_is rfl (by kernel_rfl)
theorem e_f_ref08_Prune_1 (x0 x1 x2 x3 x4 x5 x6 : IV) : W f_ref08_Prune 1 [x0, x1, x2, x3, x4, x5, x6] =
  (O.proj 3 x2).bind fun x7 =>
  (O.len x7).bind fun x8 =>
  (O.lt x0 x8).bind fun x9 =>
  cnd x9 (
    (O.proj 5 x1).bind fun x10 =>
    (O.index x10 (.int 0)).bind fun x11 =>
    (O.index x7 x0).bind fun x12 =>
    calls (W f_ref08_Prune 0 [x11, x12]) 1 fun x13 =>
    (O.mklist [x13]).bind fun x14 =>
    (O.append 80 x6 x14).bind fun x15 =>
    (O.add .i64 x0 (.int 1)).bind fun x16 =>
    W f_ref08_Prune 1 [x16, x1, x2, x3, x4, x5, x15]) (
    (O.mkagg [(.int 4), (.int 0), (.str ⟨#[]⟩), x6, (.list [])]).bind fun x10 =>
    some [x10]) := V_is rfl (by kernel_rfl)
theorem e_f_ref08_Prune_2 (x0 x1 x2 x3 x4 x5 x6 : IV) : W f_ref08_Prune 2 [x0, x1, x2, x3, x4, x5, x6] =
  (O.proj 4 x2).bind fun x7 =>
  (O.len x7).bind fun x8 =>
  (O.lt x0 x8).bind fun x9 =>
  cnd x9 (
    (O.index x7 x0).bind fun x10 =>
    (O.proj 1 x10).bind fun x11 =>
    (O.eq x11 (.int 0)).bind fun x12 =>
    cnd x12 (
      W f_ref08_Prune 3 [x0, x1, x2, x3, x4, x5, x6]) (
      calls (W f_ref08_dictionary 0 [x1]) 1 fun x13 =>
      cnd x13 (
        (O.proj 0 x10).bind fun x14 =>
        (O.proj 5 x1).bind fun x15 =>
        (O.index x15 (.int 0)).bind fun x16 =>
        (O.projs 1 5 x10).bind fun x17 =>
        calls (W f_ref08_Prune 0 [x16, x17]) 1 fun x18 =>
        (O.proj 0 x18).bind fun x19 =>
        (O.proj 1 x18).bind fun x20 =>
        (O.proj 2 x18).bind fun x21 =>
        (O.proj 3 x18).bind fun x22 =>
        (O.proj 4 x18).bind fun x23 =>
        (O.mkagg [x14, x19, x20, x21, x22, x23]).bind fun x24 =>
        (O.mklist [x24]).bind fun x25 =>
        (O.append 96 x6 x25).bind fun x26 =>
        W f_ref08_Prune 4 [x0, x1, x2, x3, x4, x5, x26]) (
        (O.proj 0 x10).bind fun x14 =>
        calls (W f_ref08_find 0 [x1, x14]) 2 fun x15 x16 =>
        cnd x16 (
          (O.projs 1 5 x10).bind fun x17 =>
          calls (W f_ref08_Prune 0 [x15, x17]) 1 fun x18 =>
          (O.proj 0 x18).bind fun x19 =>
          (O.proj 1 x18).bind fun x20 =>
          (O.proj 2 x18).bind fun x21 =>
          (O.proj 3 x18).bind fun x22 =>
          (O.proj 4 x18).bind fun x23 =>
          (O.mkagg [x14, x19, x20, x21, x22, x23]).bind fun x24 =>
          (O.mklist [x24]).bind fun x25 =>
          (O.append 96 x6 x25).bind fun x26 =>
          W f_ref08_Prune 4 [x0, x1, x2, x3, x4, x5, x26]) (
          W f_ref08_Prune 4 [x0, x1, x2, x3, x4, x5, x6])))) (
    (O.mkagg [(.int 5), (.int 0), (.str ⟨#[]⟩), (.list []), x6]).bind fun x10 =>
    some [x10]) := V_is rfl (by kernel_rfl)
theorem e_f_ref08_Prune_3 (x0 x1 x2 x3 x4 x5 x6 : IV) : W f_ref08_Prune 3 [x0, x1, x2, x3, x4, x5, x6] =
  (O.add .i64 x0 (.int 1)).bind fun x7 =>
  W f_ref08_Prune 2 [x7, x1, x2, x3, x4, x5, x6] := V_is rfl (by kernel_rfl)
theorem e_f_ref08_Prune_4 (x0 x1 x2 x3 x4 x5 x6 : IV) : W f_ref08_Prune 4 [x0, x1, x2, x3, x4, x5, x6] =
  W f_ref08_Prune 3 [x0, x1, x2, x3, x4, x5, x6] := V_is rfl (by kernel_rfl)
theorem e_f_ref08_find_0 (x0 x1 : IV) : W f_ref08_find 0 [x0, x1] =
  W f_ref08_find 1 [x1, (.int 0), x0, (.int 0), (.int 0), (.int 0), (.str ⟨#[]⟩)] := V_is rfl (by kernel_rfl)
theorem e_f_ref08_find_1 (x0 x1 x2 x3 x4 x5 x6 : IV) : W f_ref08_find 1 [x0, x1, x2, x3, x4, x5, x6] =
  (O.proj 6 x2).bind fun x7 =>
  (O.len x7).bind fun x8 =>
  (O.lt x1 x8).bind fun x9 =>
  cnd x9 (
    (O.index x7 x1).bind fun x10 =>
    (O.proj 0 x10).bind fun x11 =>
    (O.sEq x11 x0).bind fun x12 =>
    cnd x12 (
      (O.projs 4 7 x10).bind fun x13 =>
      some [x13, (.bool true)]) (
      (O.add .i64 x1 (.int 1)).bind fun x13 =>
      W f_ref08_find 1 [x0, x13, x2, x3, x4, x5, x6])) (
    (O.mkagg [(.int 0), (.int 0), (.int 0), (.list []), (.str ⟨#[]⟩), (.list []), (.list [])]).bind fun x10 =>
    some [x10, (.bool false)]) := V_is rfl (by kernel_rfl)
theorem e_f_law08_DefaultsIdempotent_0 (x0 x1 : IV) : W f_law08_DefaultsIdempotent 0 [x0, x1] =
  calls (W f_law08_fits 0 [x0, x1]) 1 fun x2 =>
  (O.not x2).bind fun x3 =>
  cnd x3 (
    calls (W f_law08_lives 0 []) 1 fun x4 =>
    some [x4]) (
    calls (W f_defaults_Fill 0 [x0, x1]) 1 fun x4 =>
    calls (W f_defaults_Prune 0 [x0, x1]) 1 fun x5 =>
    calls (W f_defaults_Fill 0 [x0, x4]) 1 fun x6 =>
    calls (W f_ref04_Equal 0 [x6, x4]) 1 fun x7 =>
    (O.not x7).bind fun x8 =>
    (cnd x8 (some (.bool true)) (
        calls (W f_defaults_Prune 0 [x0, x5]) 1 fun x9 =>
        calls (W f_ref04_Equal 0 [x9, x5]) 1 fun x10 =>
        (O.not x10).bind fun x11 =>
        some x11)).bind fun x9 =>
    (cnd x9 (some (.bool true)) (
        calls (W f_law08_within 0 [x1, x4]) 1 fun x10 =>
        (O.not x10).bind fun x11 =>
        some x11)).bind fun x10 =>
    (cnd x10 (some (.bool true)) (
        calls (W f_law08_within 0 [x5, x1]) 1 fun x11 =>
        (O.not x11).bind fun x12 =>
        some x12)).bind fun x11 =>
    cnd x11 (
      some [(.bool false)]) (
      calls (W f_law08_lives 0 []) 1 fun x12 =>
      (cnd x12 (
          calls (W f_ref08_Clean 0 [x0]) 1 fun x13 =>
          (O.not x13).bind fun x14 =>
          (cnd x14 (some (.bool true)) (
              calls (W f_defaults_Fill 0 [x0, x5]) 1 fun x15 =>
              calls (W f_defaults_Prune 0 [x0, x4]) 1 fun x16 =>
              calls (W f_ref04_Equal 0 [x15, x16]) 1 fun x17 =>
              some x17)).bind fun x15 =>
          some x15) (some (.bool false))).bind fun x13 =>
      some [x13])) := V_is rfl (by kernel_rfl)
theorem e_f_law08_within_0 (x0 x1 : IV) : W f_law08_within 0 [x0, x1] =
  (O.proj 0 x0).bind fun x2 =>
  (O.proj 0 x1).bind fun x3 =>
  (O.ne x2 x3).bind fun x4 =>
  (cnd x4 (some (.bool true)) (
      (O.proj 1 x0).bind fun x5 =>
      (O.proj 1 x1).bind fun x6 =>
      (O.ne x5 x6).bind fun x7 =>
      some x7)).bind fun x5 =>
  (cnd x5 (some (.bool true)) (
      (O.proj 2 x0).bind fun x6 =>
      (O.proj 2 x1).bind fun x7 =>
      (O.sNe x6 x7).bind fun x8 =>
      some x8)).bind fun x6 =>
  (cnd x6 (some (.bool true)) (
      (O.proj 3 x0).bind fun x7 =>
      (O.len x7).bind fun x8 =>
      (O.proj 3 x1).bind fun x9 =>
      (O.len x9).bind fun x10 =>
      (O.ne x8 x10).bind fun x11 =>
      some x11)).bind fun x7 =>
  cnd x7 (
    some [(.bool false)]) (
    W f_law08_within 1 [(.int 0), x0, x1]) := V_is rfl (by kernel_rfl)
theorem e_f_law08_within_1 (x0 x1 x2 : IV) : W f_law08_within 1 [x0, x1, x2] =
  (O.proj 3 x1).bind fun x3 =>
  (O.len x3).bind fun x4 =>
  (O.lt x0 x4).bind fun x5 =>
  cnd x5 (
    (O.index x3 x0).bind fun x6 =>
    (O.proj 3 x2).bind fun x7 =>
    (O.index x7 x0).bind fun x8 =>
    calls (W f_law08_within 0 [x6, x8]) 1 fun x9 =>
    (O.not x9).bind fun x10 =>
    cnd x10 (
      some [(.bool false)]) (
      (O.add .i64 x0 (.int 1)).bind fun x11 =>
      W f_law08_within 1 [x11, x1, x2])) (
    W f_law08_within 2 [(.int 0), x1, x2]) := V_is rfl (by kernel_rfl)
theorem e_f_law08_within_2 (x0 x1 x2 : IV) : W f_law08_within 2 [x0, x1, x2] =
  (O.proj 4 x1).bind fun x3 =>
  (O.len x3).bind fun x4 =>
  (O.lt x0 x4).bind fun x5 =>
  cnd x5 (
    (O.index x3 x0).bind fun x6 =>
    (O.proj 0 x6).bind fun x7 =>
    calls (W f_ref04_Get 0 [x2, x7]) 6 fun x8 x9 x10 x11 x12 x13 =>
    (O.not x13).bind fun x14 =>
    (cnd x14 (some (.bool true)) (
        (O.proj 1 x6).bind fun x15 =>
        (O.ne x15 (.int 0)).bind fun x16 =>
        (cnd x16 (
            (O.projs 1 5 x6).bind fun x17 =>
            (O.mkagg [x8, x9, x10, x11, x12]).bind fun x18 =>
            calls (W f_law08_within 0 [x17, x18]) 1 fun x19 =>
            (O.not x19).bind fun x20 =>
            some x20) (some (.bool false))).bind fun x17 =>
        some x17)).bind fun x15 =>
    cnd x15 (
      some [(.bool false)]) (
      (O.add .i64 x0 (.int 1)).bind fun x16 =>
      W f_law08_within 2 [x16, x1, x2])) (
    some [(.bool true)]) := V_is rfl (by kernel_rfl)
theorem e_f_ref08_Clean_0 (x0 : IV) : W f_ref08_Clean 0 [x0] =
  W f_ref08_Clean 1 [(.int 0), x0] := V_is rfl (by kernel_rfl)
theorem e_f_ref08_Clean_1 (x0 x1 : IV) : W f_ref08_Clean 1 [x0, x1] =
  (O.proj 5 x1).bind fun x2 =>
  (O.len x2).bind fun x3 =>
  (O.lt x0 x3).bind fun x4 =>
  cnd x4 (
    (O.index x2 x0).bind fun x5 =>
    calls (W f_ref08_Clean 0 [x5]) 1 fun x6 =>
    (O.not x6).bind fun x7 =>
    cnd x7 (
      some [(.bool false)]) (
      (O.add .i64 x0 (.int 1)).bind fun x8 =>
      W f_ref08_Clean 1 [x8, x1])) (
    W f_ref08_Clean 2 [(.int 0), x1]) := V_is rfl (by kernel_rfl)
theorem e_f_ref08_Clean_2 (x0 x1 : IV) : W f_ref08_Clean 2 [x0, x1] =
  (O.proj 6 x1).bind fun x2 =>
  (O.len x2).bind fun x3 =>
  (O.lt x0 x3).bind fun x4 =>
  cnd x4 (
    (O.index x2 x0).bind fun x5 =>
    (O.projs 4 7 x5).bind fun x6 =>
    calls (W f_ref08_Clean 0 [x6]) 1 fun x7 =>
    (O.not x7).bind fun x8 =>
    (cnd x8 (some (.bool true)) (
        (O.proj 3 x5).bind fun x9 =>
        (O.len x9).bind fun x10 =>
        (O.gt x10 (.int 0)).bind fun x11 =>
        (cnd x11 (
            (O.index x9 (.int 0)).bind fun x12 =>
            calls (W f_ref08_Nulls 0 [x12]) 1 fun x13 =>
            some x13) (some (.bool false))).bind fun x12 =>
        some x12)).bind fun x9 =>
    cnd x9 (
      some [(.bool false)]) (
      (O.add .i64 x0 (.int 1)).bind fun x10 =>
      W f_ref08_Clean 2 [x10, x1])) (
    some [(.bool true)]) := V_is rfl (by kernel_rfl)
theorem e_f_ref08_Nulls_0 (x0 : IV) : W f_ref08_Nulls 0 [x0] =
  (O.proj 0 x0).bind fun x1 =>
  (O.eq x1 (.int 0)).bind fun x2 =>
  cnd x2 (
    some [(.bool true)]) (
    W f_ref08_Nulls 1 [(.int 0), x0]) := V_is rfl (by kernel_rfl)
theorem e_f_ref08_Nulls_1 (x0 x1 : IV) : W f_ref08_Nulls 1 [x0, x1] =
  (O.proj 3 x1).bind fun x2 =>
  (O.len x2).bind fun x3 =>
  (O.lt x0 x3).bind fun x4 =>
  cnd x4 (
    (O.index x2 x0).bind fun x5 =>
    calls (W f_ref08_Nulls 0 [x5]) 1 fun x6 =>
    cnd x6 (
      some [(.bool true)]) (
      (O.add .i64 x0 (.int 1)).bind fun x7 =>
      W f_ref08_Nulls 1 [x7, x1])) (
    W f_ref08_Nulls 2 [(.int 0), x1]) := V_is rfl (by kernel_rfl)
theorem e_f_ref08_Nulls_2 (x0 x1 : IV) : W f_ref08_Nulls 2 [x0, x1] =
  (O.proj 4 x1).bind fun x2 =>
  (O.len x2).bind fun x3 =>
  (O.lt x0 x3).bind fun x4 =>
  cnd x4 (
    (O.index x2 x0).bind fun x5 =>
    (O.projs 1 5 x5).bind fun x6 =>
    calls (W f_ref08_Nulls 0 [x6]) 1 fun x7 =>
    cnd x7 (
      some [(.bool true)]) (
      (O.add .i64 x0 (.int 1)).bind fun x8 =>
      W f_ref08_Nulls 2 [x8, x1])) (
    some [(.bool false)]) := V_is rfl (by kernel_rfl)
theorem mixed : Try.prog.follows .mixedOrders = true := by kernel_rfl
theorem numbers : numbersOk specs = true := by kernel_rfl
theorem pr_ok : ∀ i s f, (i, s) ∈ specs → pr i = some f → PrimOk Try.prog f s := by
  intro i s f hm hp
  have hs := lookS_mem numbers hm
  unfold pr at hp
  split at hp
  · injection hp with hp; subst hp; have he := hs.symm.trans (show lookS 46 specs = some ⟨147, [.data 54], [.cells 54 [true]], true⟩ by kernel_rfl); injection he with he; subst he
    exact clone_ok mixed (e := 57) (fn := fnAt Try.prog 147) (root := rootAt Try.prog 147) (rest := restAt Try.prog 147) ⟨by kernel_rfl, by kernel_rfl, by kernel_rfl, by kernel_rfl, by kernel_rfl, of_decide_eq_true (by kernel_rfl), by kernel_rfl, by kernel_rfl, by kernel_rfl, by kernel_rfl, 80, by kernel_rfl, of_decide_eq_true (by kernel_rfl)⟩
  · injection hp with hp; subst hp; have he := hs.symm.trans (show lookS 47 specs = some ⟨108, [.data 55], [.cells 55 [true]], true⟩ by kernel_rfl); injection he with he; subst he
    exact clone_ok mixed (e := 101) (fn := fnAt Try.prog 108) (root := rootAt Try.prog 108) (rest := restAt Try.prog 108) ⟨by kernel_rfl, by kernel_rfl, by kernel_rfl, by kernel_rfl, by kernel_rfl, of_decide_eq_true (by kernel_rfl), by kernel_rfl, by kernel_rfl, by kernel_rfl, by kernel_rfl, 96, by kernel_rfl, of_decide_eq_true (by kernel_rfl)⟩
  · injection hp with hp; subst hp; have he := hs.symm.trans (show lookS 62 specs = some ⟨171, [.data 9, .data 9], [.whole 3], false⟩ by kernel_rfl); injection he with he; subst he
    exact compare_ok (fn := fnAt Try.prog 171) (ts := 9) (ti := 3) (by kernel_rfl) (by kernel_rfl) (by kernel_rfl) (by kernel_rfl) (by kernel_rfl) (by kernel_rfl) (by kernel_rfl)
  · cases hp
theorem soundW : ∀ k, Sound Try.prog specs (run (tab Try.prog specs blks 3000) pr k) := sound_tab mixed numbers (by kernel_rfl) pr_ok
end Go.CT.Defs
