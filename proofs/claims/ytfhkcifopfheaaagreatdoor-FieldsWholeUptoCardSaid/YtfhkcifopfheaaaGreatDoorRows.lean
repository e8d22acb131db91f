/-
  NARROWER THAN 'FOR EVERY INPUT', by the rows' own cells (each row's printed sentence says how): SchemaValid: loops, laid · SchemaChecks: loops, laid · SchemaAt: loops, laid · SchemaSub: loops, laid · DefaultsChecks: loops, laid · SchemaChanges: loops, laid · SchemaUnchanged: loops, laid · FieldsLeaves: loops, laid · FieldsSets: laid · FieldsParts: loops, laid · FieldsSplit: loops, laid · FieldsWhole: loops, laid.
  DERIVED. THE GIVEN ROWS OF THIS SEAT. 12 by the template 'for every input the law returns true; each argument reads behind the call as it read before'; 0 by the template 'total and deterministic' (their statements: YtfhkcifopfheaaaGreatDoorTotals.lean).
  GIVEN WITH THE SEED: the statements are not yours to turn. If you find one false, say at which input.
  Laid BY PROGRAM, IN A SANDBOX (cutbox-rows.mjs): the forced cells as the released guide's own fill.sh prints them over the translation dd015c22b225d88c… (all of the seat's roots in one cut). By AI agents, Wed Nov 11 2026. No macro, syntax, notation, axiom, sorry.
-/
import Derived.Test.YtfhkcifopfheaaaGreatDoorChecked
import GoSem.Claim
import GoSem.ClaimJoined
import GoSem.ClaimMapViews
import Derived.JoinedTies
import Derived.KernelRfl
namespace Go.Proofs.YtfhkcifopfheaaaGreatDoor
/- THE CELL 'sum', in the pinned program and in every row, IS THE sha256 OF THE DUMP (.gsa) THAT YtfhkcifopfheaaaGreatDoorProg.lean LOADS. Nothing in Lean hashes anything: it is a label: what it is worth is what the hold of that sum in a sandbox is worth. -/
noncomputable def Tryz.pinned : Pinned := { name := "ytfhkcifopfheaaagreatdoor", sum := "dd015c22b225d88c2b908a8d21a314f102e20f23f6789828852d0520d9b02926", checked := Tryz.checked }
namespace Rows
def none {H : Type} : Left H := { results := [], args := [] }

/- WHAT THE LISTED PACKAGE-LEVEL VARIABLES READ AS WHEN THE CALL BEGINS. Each datum BY PROGRAM (the guide's laid-datum.mjs) off the statement by which the dump's own 'gosem.cut.vars' lays the variable. In a bare row this is a premise. The card (YtfhkcifopfheaaaGreatDoorCards.lean) ties it to the program's text. -/
def laid_math_bits_deBruijn32tab {H : Type} : DataW H := .agg [.lit (.int .u8 0), .lit (.int .u8 1), .lit (.int .u8 28), .lit (.int .u8 2), .lit (.int .u8 29), .lit (.int .u8 14), .lit (.int .u8 24), .lit (.int .u8 3), .lit (.int .u8 30), .lit (.int .u8 22), .lit (.int .u8 20), .lit (.int .u8 15), .lit (.int .u8 25), .lit (.int .u8 17), .lit (.int .u8 4), .lit (.int .u8 8), .lit (.int .u8 31), .lit (.int .u8 27), .lit (.int .u8 13), .lit (.int .u8 23), .lit (.int .u8 21), .lit (.int .u8 19), .lit (.int .u8 16), .lit (.int .u8 7), .lit (.int .u8 26), .lit (.int .u8 12), .lit (.int .u8 18), .lit (.int .u8 6), .lit (.int .u8 11), .lit (.int .u8 5), .lit (.int .u8 10), .lit (.int .u8 9)]
def laid_math_bits_deBruijn64tab {H : Type} : DataW H := .agg [.lit (.int .u8 0), .lit (.int .u8 1), .lit (.int .u8 56), .lit (.int .u8 2), .lit (.int .u8 57), .lit (.int .u8 49), .lit (.int .u8 28), .lit (.int .u8 3), .lit (.int .u8 61), .lit (.int .u8 58), .lit (.int .u8 42), .lit (.int .u8 50), .lit (.int .u8 38), .lit (.int .u8 29), .lit (.int .u8 17), .lit (.int .u8 4), .lit (.int .u8 62), .lit (.int .u8 47), .lit (.int .u8 59), .lit (.int .u8 36), .lit (.int .u8 45), .lit (.int .u8 43), .lit (.int .u8 51), .lit (.int .u8 22), .lit (.int .u8 53), .lit (.int .u8 39), .lit (.int .u8 33), .lit (.int .u8 30), .lit (.int .u8 24), .lit (.int .u8 18), .lit (.int .u8 12), .lit (.int .u8 5), .lit (.int .u8 63), .lit (.int .u8 55), .lit (.int .u8 48), .lit (.int .u8 27), .lit (.int .u8 60), .lit (.int .u8 41), .lit (.int .u8 37), .lit (.int .u8 16), .lit (.int .u8 46), .lit (.int .u8 35), .lit (.int .u8 44), .lit (.int .u8 21), .lit (.int .u8 52), .lit (.int .u8 32), .lit (.int .u8 23), .lit (.int .u8 11), .lit (.int .u8 54), .lit (.int .u8 26), .lit (.int .u8 40), .lit (.int .u8 15), .lit (.int .u8 34), .lit (.int .u8 20), .lit (.int .u8 31), .lit (.int .u8 10), .lit (.int .u8 25), .lit (.int .u8 14), .lit (.int .u8 19), .lit (.int .u8 9), .lit (.int .u8 13), .lit (.int .u8 8), .lit (.int .u8 7), .lit (.int .u8 6)]
def laid_internal_strconv_uint64pow10 {H : Type} : DataW H := .agg [.lit (.int .u64 1), .lit (.int .u64 10), .lit (.int .u64 100), .lit (.int .u64 1000), .lit (.int .u64 10000), .lit (.int .u64 100000), .lit (.int .u64 1000000), .lit (.int .u64 10000000), .lit (.int .u64 100000000), .lit (.int .u64 1000000000), .lit (.int .u64 10000000000), .lit (.int .u64 100000000000), .lit (.int .u64 1000000000000), .lit (.int .u64 10000000000000), .lit (.int .u64 100000000000000), .lit (.int .u64 1000000000000000), .lit (.int .u64 10000000000000000), .lit (.int .u64 100000000000000000), .lit (.int .u64 1000000000000000000), .lit (.int .u64 10000000000000000000)]

/-- 'orchestratorlaw07.SchemaValid': WHATEVER THE INPUT: true; the input reads as it did. -/
def schemaValidSpec : ChangeSpec := { name := "schemaValid", fn := fun _ => fun
  | [d] => { results := [.lit (.bool true)], args := [d] }
  | _ => none }
def schemaValidRow : OpenClaim := { program := "ytfhkcifopfheaaagreatdoor", sum := "dd015c22b225d88c2b908a8d21a314f102e20f23f6789828852d0520d9b02926", func := "orchestrator/orchestratorlaw07.SchemaValid", spec := "schemaValid", inPlace := ["internal/bytealg.abigen_runtime_cmpstring", "internal/abi.NoEscape"], unfollowed := true, recurses := true, named := ["internal/strconv.uint64pow10", "math/bits.deBruijn32tab", "math/bits.deBruijn64tab"], loops := true, apart := false, laid := [("math/bits.deBruijn32tab", laid_math_bits_deBruijn32tab), ("math/bits.deBruijn64tab", laid_math_bits_deBruijn64tab), ("internal/strconv.uint64pow10", laid_internal_strconv_uint64pow10)] }
def SchemaValidSaid : Prop := schemaValidRow.holds Tryz.pinned (OpenSpec.ofChange schemaValidSpec)

/-- ITS FALSE NEIGHBOUR: 'it returns false'. Refute it at one input. -/
def schemaValidWrong : ChangeSpec := { name := "schemaValid", fn := fun _ => fun
  | [d] => { results := [.lit (.bool false)], args := [d] }
  | _ => none }
def SchemaValidWrongFalsely : Prop := schemaValidRow.holds Tryz.pinned (OpenSpec.ofChange schemaValidWrong)

/-- 'orchestratorlaw07.SchemaChecks': WHATEVER THE INPUT: true; the input reads as it did. -/
def schemaChecksSpec : ChangeSpec := { name := "schemaChecks", fn := fun _ => fun
  | [d1, d2] => { results := [.lit (.bool true)], args := [d1, d2] }
  | _ => none }
def schemaChecksRow : OpenClaim := { program := "ytfhkcifopfheaaagreatdoor", sum := "dd015c22b225d88c2b908a8d21a314f102e20f23f6789828852d0520d9b02926", func := "orchestrator/orchestratorlaw07.SchemaChecks", spec := "schemaChecks", inPlace := ["internal/bytealg.abigen_runtime_cmpstring", "internal/abi.NoEscape"], unfollowed := true, recurses := true, named := ["internal/strconv.uint64pow10", "math/bits.deBruijn32tab", "math/bits.deBruijn64tab"], loops := true, apart := false, laid := [("math/bits.deBruijn32tab", laid_math_bits_deBruijn32tab), ("math/bits.deBruijn64tab", laid_math_bits_deBruijn64tab), ("internal/strconv.uint64pow10", laid_internal_strconv_uint64pow10)] }
def SchemaChecksSaid : Prop := schemaChecksRow.holds Tryz.pinned (OpenSpec.ofChange schemaChecksSpec)

/-- ITS FALSE NEIGHBOUR: 'it returns false'. Refute it at one input. -/
def schemaChecksWrong : ChangeSpec := { name := "schemaChecks", fn := fun _ => fun
  | [d1, d2] => { results := [.lit (.bool false)], args := [d1, d2] }
  | _ => none }
def SchemaChecksWrongFalsely : Prop := schemaChecksRow.holds Tryz.pinned (OpenSpec.ofChange schemaChecksWrong)

/-- 'orchestratorlaw07.SchemaAt': WHATEVER THE INPUT: true; the input reads as it did. -/
def schemaAtSpec : ChangeSpec := { name := "schemaAt", fn := fun _ => fun
  | [d1, d2] => { results := [.lit (.bool true)], args := [d1, d2] }
  | _ => none }
def schemaAtRow : OpenClaim := { program := "ytfhkcifopfheaaagreatdoor", sum := "dd015c22b225d88c2b908a8d21a314f102e20f23f6789828852d0520d9b02926", func := "orchestrator/orchestratorlaw07.SchemaAt", spec := "schemaAt", inPlace := ["internal/bytealg.abigen_runtime_cmpstring", "internal/abi.NoEscape"], unfollowed := true, recurses := true, named := ["internal/strconv.uint64pow10", "math/bits.deBruijn32tab", "math/bits.deBruijn64tab"], loops := true, apart := false, laid := [("math/bits.deBruijn32tab", laid_math_bits_deBruijn32tab), ("math/bits.deBruijn64tab", laid_math_bits_deBruijn64tab), ("internal/strconv.uint64pow10", laid_internal_strconv_uint64pow10)] }
def SchemaAtSaid : Prop := schemaAtRow.holds Tryz.pinned (OpenSpec.ofChange schemaAtSpec)

/-- ITS FALSE NEIGHBOUR: 'it returns false'. Refute it at one input. -/
def schemaAtWrong : ChangeSpec := { name := "schemaAt", fn := fun _ => fun
  | [d1, d2] => { results := [.lit (.bool false)], args := [d1, d2] }
  | _ => none }
def SchemaAtWrongFalsely : Prop := schemaAtRow.holds Tryz.pinned (OpenSpec.ofChange schemaAtWrong)

/-- 'orchestratorlaw07.SchemaSub': WHATEVER THE INPUT: true; the input reads as it did. -/
def schemaSubSpec : ChangeSpec := { name := "schemaSub", fn := fun _ => fun
  | [d1, d2, d3] => { results := [.lit (.bool true)], args := [d1, d2, d3] }
  | _ => none }
def schemaSubRow : OpenClaim := { program := "ytfhkcifopfheaaagreatdoor", sum := "dd015c22b225d88c2b908a8d21a314f102e20f23f6789828852d0520d9b02926", func := "orchestrator/orchestratorlaw07.SchemaSub", spec := "schemaSub", inPlace := ["internal/bytealg.abigen_runtime_cmpstring", "internal/abi.NoEscape"], unfollowed := true, recurses := true, named := ["internal/strconv.uint64pow10", "math/bits.deBruijn32tab", "math/bits.deBruijn64tab"], loops := true, apart := false, laid := [("math/bits.deBruijn32tab", laid_math_bits_deBruijn32tab), ("math/bits.deBruijn64tab", laid_math_bits_deBruijn64tab), ("internal/strconv.uint64pow10", laid_internal_strconv_uint64pow10)] }
def SchemaSubSaid : Prop := schemaSubRow.holds Tryz.pinned (OpenSpec.ofChange schemaSubSpec)

/-- ITS FALSE NEIGHBOUR: 'it returns false'. Refute it at one input. -/
def schemaSubWrong : ChangeSpec := { name := "schemaSub", fn := fun _ => fun
  | [d1, d2, d3] => { results := [.lit (.bool false)], args := [d1, d2, d3] }
  | _ => none }
def SchemaSubWrongFalsely : Prop := schemaSubRow.holds Tryz.pinned (OpenSpec.ofChange schemaSubWrong)

/-- 'orchestratorlaw08.DefaultsChecks': WHATEVER THE INPUT: true; the input reads as it did. -/
def defaultsChecksSpec : ChangeSpec := { name := "defaultsChecks", fn := fun _ => fun
  | [d1, d2] => { results := [.lit (.bool true)], args := [d1, d2] }
  | _ => none }
def defaultsChecksRow : OpenClaim := { program := "ytfhkcifopfheaaagreatdoor", sum := "dd015c22b225d88c2b908a8d21a314f102e20f23f6789828852d0520d9b02926", func := "orchestrator/orchestratorlaw08.DefaultsChecks", spec := "defaultsChecks", inPlace := ["internal/bytealg.abigen_runtime_cmpstring", "internal/abi.NoEscape"], unfollowed := true, recurses := true, named := ["internal/strconv.uint64pow10", "math/bits.deBruijn32tab", "math/bits.deBruijn64tab"], loops := true, apart := false, laid := [("math/bits.deBruijn32tab", laid_math_bits_deBruijn32tab), ("math/bits.deBruijn64tab", laid_math_bits_deBruijn64tab), ("internal/strconv.uint64pow10", laid_internal_strconv_uint64pow10)] }
def DefaultsChecksSaid : Prop := defaultsChecksRow.holds Tryz.pinned (OpenSpec.ofChange defaultsChecksSpec)

/-- ITS FALSE NEIGHBOUR: 'it returns false'. Refute it at one input. -/
def defaultsChecksWrong : ChangeSpec := { name := "defaultsChecks", fn := fun _ => fun
  | [d1, d2] => { results := [.lit (.bool false)], args := [d1, d2] }
  | _ => none }
def DefaultsChecksWrongFalsely : Prop := defaultsChecksRow.holds Tryz.pinned (OpenSpec.ofChange defaultsChecksWrong)

/-- 'orchestratorlaw07.SchemaChanges': WHATEVER THE INPUT: true; the input reads as it did. -/
def schemaChangesSpec : ChangeSpec := { name := "schemaChanges", fn := fun _ => fun
  | [d1, d2, d3] => { results := [.lit (.bool true)], args := [d1, d2, d3] }
  | _ => none }
def schemaChangesRow : OpenClaim := { program := "ytfhkcifopfheaaagreatdoor", sum := "dd015c22b225d88c2b908a8d21a314f102e20f23f6789828852d0520d9b02926", func := "orchestrator/orchestratorlaw07.SchemaChanges", spec := "schemaChanges", inPlace := ["internal/bytealg.abigen_runtime_cmpstring", "internal/abi.NoEscape"], unfollowed := true, recurses := true, named := ["internal/strconv.uint64pow10", "math/bits.deBruijn32tab", "math/bits.deBruijn64tab"], loops := true, apart := false, laid := [("math/bits.deBruijn32tab", laid_math_bits_deBruijn32tab), ("math/bits.deBruijn64tab", laid_math_bits_deBruijn64tab), ("internal/strconv.uint64pow10", laid_internal_strconv_uint64pow10)] }
def SchemaChangesSaid : Prop := schemaChangesRow.holds Tryz.pinned (OpenSpec.ofChange schemaChangesSpec)

/-- ITS FALSE NEIGHBOUR: 'it returns false'. Refute it at one input. -/
def schemaChangesWrong : ChangeSpec := { name := "schemaChanges", fn := fun _ => fun
  | [d1, d2, d3] => { results := [.lit (.bool false)], args := [d1, d2, d3] }
  | _ => none }
def SchemaChangesWrongFalsely : Prop := schemaChangesRow.holds Tryz.pinned (OpenSpec.ofChange schemaChangesWrong)

/-- 'orchestratorlaw07.SchemaUnchanged': WHATEVER THE INPUT: true; the input reads as it did. -/
def schemaUnchangedSpec : ChangeSpec := { name := "schemaUnchanged", fn := fun _ => fun
  | [d1, d2, d3] => { results := [.lit (.bool true)], args := [d1, d2, d3] }
  | _ => none }
def schemaUnchangedRow : OpenClaim := { program := "ytfhkcifopfheaaagreatdoor", sum := "dd015c22b225d88c2b908a8d21a314f102e20f23f6789828852d0520d9b02926", func := "orchestrator/orchestratorlaw07.SchemaUnchanged", spec := "schemaUnchanged", inPlace := ["internal/bytealg.abigen_runtime_cmpstring", "internal/abi.NoEscape"], unfollowed := true, recurses := true, named := ["internal/strconv.uint64pow10", "math/bits.deBruijn32tab", "math/bits.deBruijn64tab"], loops := true, apart := false, laid := [("math/bits.deBruijn32tab", laid_math_bits_deBruijn32tab), ("math/bits.deBruijn64tab", laid_math_bits_deBruijn64tab), ("internal/strconv.uint64pow10", laid_internal_strconv_uint64pow10)] }
def SchemaUnchangedSaid : Prop := schemaUnchangedRow.holds Tryz.pinned (OpenSpec.ofChange schemaUnchangedSpec)

/-- ITS FALSE NEIGHBOUR: 'it returns false'. Refute it at one input. -/
def schemaUnchangedWrong : ChangeSpec := { name := "schemaUnchanged", fn := fun _ => fun
  | [d1, d2, d3] => { results := [.lit (.bool false)], args := [d1, d2, d3] }
  | _ => none }
def SchemaUnchangedWrongFalsely : Prop := schemaUnchangedRow.holds Tryz.pinned (OpenSpec.ofChange schemaUnchangedWrong)

/-- 'orchestratorlaw10.FieldsLeaves': WHATEVER THE INPUT: true; the input reads as it did. -/
def fieldsLeavesSpec : ChangeSpec := { name := "fieldsLeaves", fn := fun _ => fun
  | [d1, d2] => { results := [.lit (.bool true)], args := [d1, d2] }
  | _ => none }
def fieldsLeavesRow : OpenClaim := { program := "ytfhkcifopfheaaagreatdoor", sum := "dd015c22b225d88c2b908a8d21a314f102e20f23f6789828852d0520d9b02926", func := "orchestrator/orchestratorlaw10.FieldsLeaves", spec := "fieldsLeaves", inPlace := ["internal/bytealg.abigen_runtime_cmpstring", "internal/abi.NoEscape"], unfollowed := true, recurses := true, named := ["internal/strconv.uint64pow10", "math/bits.deBruijn32tab", "math/bits.deBruijn64tab"], loops := true, apart := false, laid := [("math/bits.deBruijn32tab", laid_math_bits_deBruijn32tab), ("math/bits.deBruijn64tab", laid_math_bits_deBruijn64tab), ("internal/strconv.uint64pow10", laid_internal_strconv_uint64pow10)] }
def FieldsLeavesSaid : Prop := fieldsLeavesRow.holds Tryz.pinned (OpenSpec.ofChange fieldsLeavesSpec)

/-- ITS FALSE NEIGHBOUR: 'it returns false'. Refute it at one input. -/
def fieldsLeavesWrong : ChangeSpec := { name := "fieldsLeaves", fn := fun _ => fun
  | [d1, d2] => { results := [.lit (.bool false)], args := [d1, d2] }
  | _ => none }
def FieldsLeavesWrongFalsely : Prop := fieldsLeavesRow.holds Tryz.pinned (OpenSpec.ofChange fieldsLeavesWrong)

/-- 'orchestratorlaw10.FieldsSets': WHATEVER THE INPUT: true; the input reads as it did. -/
def fieldsSetsSpec : ChangeSpec := { name := "fieldsSets", fn := fun _ => fun
  | [d1, d2] => { results := [.lit (.bool true)], args := [d1, d2] }
  | _ => none }
def fieldsSetsRow : OpenClaim := { program := "ytfhkcifopfheaaagreatdoor", sum := "dd015c22b225d88c2b908a8d21a314f102e20f23f6789828852d0520d9b02926", func := "orchestrator/orchestratorlaw10.FieldsSets", spec := "fieldsSets", inPlace := ["internal/bytealg.abigen_runtime_cmpstring", "internal/abi.NoEscape"], unfollowed := true, recurses := true, named := ["internal/strconv.uint64pow10", "math/bits.deBruijn32tab", "math/bits.deBruijn64tab"], apart := false, laid := [("math/bits.deBruijn32tab", laid_math_bits_deBruijn32tab), ("math/bits.deBruijn64tab", laid_math_bits_deBruijn64tab), ("internal/strconv.uint64pow10", laid_internal_strconv_uint64pow10)] }
def FieldsSetsSaid : Prop := fieldsSetsRow.holds Tryz.pinned (OpenSpec.ofChange fieldsSetsSpec)

/-- ITS FALSE NEIGHBOUR: 'it returns false'. Refute it at one input. -/
def fieldsSetsWrong : ChangeSpec := { name := "fieldsSets", fn := fun _ => fun
  | [d1, d2] => { results := [.lit (.bool false)], args := [d1, d2] }
  | _ => none }
def FieldsSetsWrongFalsely : Prop := fieldsSetsRow.holds Tryz.pinned (OpenSpec.ofChange fieldsSetsWrong)

/-- 'orchestratorlaw10.FieldsParts': WHATEVER THE INPUT: true; the input reads as it did. -/
def fieldsPartsSpec : ChangeSpec := { name := "fieldsParts", fn := fun _ => fun
  | [d1, d2, d3] => { results := [.lit (.bool true)], args := [d1, d2, d3] }
  | _ => none }
def fieldsPartsRow : OpenClaim := { program := "ytfhkcifopfheaaagreatdoor", sum := "dd015c22b225d88c2b908a8d21a314f102e20f23f6789828852d0520d9b02926", func := "orchestrator/orchestratorlaw10.FieldsParts", spec := "fieldsParts", inPlace := ["internal/bytealg.abigen_runtime_cmpstring", "internal/abi.NoEscape"], unfollowed := true, recurses := true, named := ["internal/strconv.uint64pow10", "math/bits.deBruijn32tab", "math/bits.deBruijn64tab"], loops := true, apart := false, laid := [("math/bits.deBruijn32tab", laid_math_bits_deBruijn32tab), ("math/bits.deBruijn64tab", laid_math_bits_deBruijn64tab), ("internal/strconv.uint64pow10", laid_internal_strconv_uint64pow10)] }
def FieldsPartsSaid : Prop := fieldsPartsRow.holds Tryz.pinned (OpenSpec.ofChange fieldsPartsSpec)

/-- ITS FALSE NEIGHBOUR: 'it returns false'. Refute it at one input. -/
def fieldsPartsWrong : ChangeSpec := { name := "fieldsParts", fn := fun _ => fun
  | [d1, d2, d3] => { results := [.lit (.bool false)], args := [d1, d2, d3] }
  | _ => none }
def FieldsPartsWrongFalsely : Prop := fieldsPartsRow.holds Tryz.pinned (OpenSpec.ofChange fieldsPartsWrong)

/-- 'orchestratorlaw10.FieldsSplit': WHATEVER THE INPUT: true; the input reads as it did. -/
def fieldsSplitSpec : ChangeSpec := { name := "fieldsSplit", fn := fun _ => fun
  | [d1, d2, d3] => { results := [.lit (.bool true)], args := [d1, d2, d3] }
  | _ => none }
def fieldsSplitRow : OpenClaim := { program := "ytfhkcifopfheaaagreatdoor", sum := "dd015c22b225d88c2b908a8d21a314f102e20f23f6789828852d0520d9b02926", func := "orchestrator/orchestratorlaw10.FieldsSplit", spec := "fieldsSplit", inPlace := ["internal/bytealg.abigen_runtime_cmpstring", "internal/abi.NoEscape"], unfollowed := true, recurses := true, named := ["internal/strconv.uint64pow10", "math/bits.deBruijn32tab", "math/bits.deBruijn64tab"], loops := true, apart := false, laid := [("math/bits.deBruijn32tab", laid_math_bits_deBruijn32tab), ("math/bits.deBruijn64tab", laid_math_bits_deBruijn64tab), ("internal/strconv.uint64pow10", laid_internal_strconv_uint64pow10)] }
def FieldsSplitSaid : Prop := fieldsSplitRow.holds Tryz.pinned (OpenSpec.ofChange fieldsSplitSpec)

/-- ITS FALSE NEIGHBOUR: 'it returns false'. Refute it at one input. -/
def fieldsSplitWrong : ChangeSpec := { name := "fieldsSplit", fn := fun _ => fun
  | [d1, d2, d3] => { results := [.lit (.bool false)], args := [d1, d2, d3] }
  | _ => none }
def FieldsSplitWrongFalsely : Prop := fieldsSplitRow.holds Tryz.pinned (OpenSpec.ofChange fieldsSplitWrong)

/-- 'orchestratorlaw10.FieldsWhole': WHATEVER THE INPUT: true; the input reads as it did. -/
def fieldsWholeSpec : ChangeSpec := { name := "fieldsWhole", fn := fun _ => fun
  | [d1, d2, d3] => { results := [.lit (.bool true)], args := [d1, d2, d3] }
  | _ => none }
def fieldsWholeRow : OpenClaim := { program := "ytfhkcifopfheaaagreatdoor", sum := "dd015c22b225d88c2b908a8d21a314f102e20f23f6789828852d0520d9b02926", func := "orchestrator/orchestratorlaw10.FieldsWhole", spec := "fieldsWhole", inPlace := ["internal/bytealg.abigen_runtime_cmpstring", "internal/abi.NoEscape"], unfollowed := true, recurses := true, named := ["internal/strconv.uint64pow10", "math/bits.deBruijn32tab", "math/bits.deBruijn64tab"], loops := true, apart := false, laid := [("math/bits.deBruijn32tab", laid_math_bits_deBruijn32tab), ("math/bits.deBruijn64tab", laid_math_bits_deBruijn64tab), ("internal/strconv.uint64pow10", laid_internal_strconv_uint64pow10)] }
def FieldsWholeSaid : Prop := fieldsWholeRow.holds Tryz.pinned (OpenSpec.ofChange fieldsWholeSpec)

/-- ITS FALSE NEIGHBOUR: 'it returns false'. Refute it at one input. -/
def fieldsWholeWrong : ChangeSpec := { name := "fieldsWhole", fn := fun _ => fun
  | [d1, d2, d3] => { results := [.lit (.bool false)], args := [d1, d2, d3] }
  | _ => none }
def FieldsWholeWrongFalsely : Prop := fieldsWholeRow.holds Tryz.pinned (OpenSpec.ofChange fieldsWholeWrong)

/- THE SECOND FORM. 'bulk': how many values and letters a reading holds, each counted each time it is reached (what is shared counts as often as it is met; a slice's spare places count too). A statement '..UptoSaid' is the law's where the arguments, and the package variables that the reading takes, are together of bulk at most 1048576: NARROWER than '..Said'. Prove '..Said' where nothing that the law and all that it calls make is longer than what came in: it says more and counts as full. Else prove '..UptoSaid'. A law counts once. -/
mutual
def uptoBulk {H : Type} : DataW H → Nat
  | .lit (.string bytes) => bytes.length + 1
  | .lit _ => 1
  | .nil => 1
  | .ptr d => uptoBulk d + 1
  | .slice elems spare => uptoBulkAll elems + uptoBulkAll spare + 1
  | .agg parts => uptoBulkAll parts + 1
  | .iface _ d => uptoBulk d + 1
  | .map entries => uptoBulkEntries entries + 1
  | .held _ => 1
def uptoBulkAll {H : Type} : List (DataW H) → Nat
  | [] => 0
  | d :: r => uptoBulk d + uptoBulkAll r
def uptoBulkEntries {H : Type} : List (Lit × DataW H) → Nat
  | [] => 0
  | x :: r => uptoBulkEntry x + uptoBulkEntries r
def uptoBulkEntry {H : Type} : Lit × DataW H → Nat
  | (.string bytes, d) => bytes.length + uptoBulk d + 1
  | (_, d) => uptoBulk d + 1
 end
def uptoSmall : (H : Type) → List (DataW H) → Bool := fun _ ds => decide (uptoBulkAll ds ≤ 1048576)
def OpenSpec.upto (s : _root_.Go.ChangeSpec) : _root_.Go.OpenSpec := { _root_.Go.OpenSpec.ofChange s with cond := some uptoSmall }

/-- 'orchestratorlaw07.SchemaValid', WHERE WHAT IT READS IS OF BULK AT MOST 1048576: true; the input reads as it did. -/
def schemaValidUptoRow : OpenClaim := { program := "ytfhkcifopfheaaagreatdoor", sum := "dd015c22b225d88c2b908a8d21a314f102e20f23f6789828852d0520d9b02926", func := "orchestrator/orchestratorlaw07.SchemaValid", spec := "schemaValid", inPlace := ["internal/bytealg.abigen_runtime_cmpstring", "internal/abi.NoEscape"], unfollowed := true, recurses := true, named := ["internal/strconv.uint64pow10", "math/bits.deBruijn32tab", "math/bits.deBruijn64tab"], loops := true, apart := false, laid := [("math/bits.deBruijn32tab", laid_math_bits_deBruijn32tab), ("math/bits.deBruijn64tab", laid_math_bits_deBruijn64tab), ("internal/strconv.uint64pow10", laid_internal_strconv_uint64pow10)], narrowed := true }
def SchemaValidUptoSaid : Prop := schemaValidUptoRow.holds Tryz.pinned (OpenSpec.upto schemaValidSpec)

/-- 'orchestratorlaw07.SchemaChecks', WHERE WHAT IT READS IS OF BULK AT MOST 1048576: true; the input reads as it did. -/
def schemaChecksUptoRow : OpenClaim := { program := "ytfhkcifopfheaaagreatdoor", sum := "dd015c22b225d88c2b908a8d21a314f102e20f23f6789828852d0520d9b02926", func := "orchestrator/orchestratorlaw07.SchemaChecks", spec := "schemaChecks", inPlace := ["internal/bytealg.abigen_runtime_cmpstring", "internal/abi.NoEscape"], unfollowed := true, recurses := true, named := ["internal/strconv.uint64pow10", "math/bits.deBruijn32tab", "math/bits.deBruijn64tab"], loops := true, apart := false, laid := [("math/bits.deBruijn32tab", laid_math_bits_deBruijn32tab), ("math/bits.deBruijn64tab", laid_math_bits_deBruijn64tab), ("internal/strconv.uint64pow10", laid_internal_strconv_uint64pow10)], narrowed := true }
def SchemaChecksUptoSaid : Prop := schemaChecksUptoRow.holds Tryz.pinned (OpenSpec.upto schemaChecksSpec)

/-- 'orchestratorlaw07.SchemaAt', WHERE WHAT IT READS IS OF BULK AT MOST 1048576: true; the input reads as it did. -/
def schemaAtUptoRow : OpenClaim := { program := "ytfhkcifopfheaaagreatdoor", sum := "dd015c22b225d88c2b908a8d21a314f102e20f23f6789828852d0520d9b02926", func := "orchestrator/orchestratorlaw07.SchemaAt", spec := "schemaAt", inPlace := ["internal/bytealg.abigen_runtime_cmpstring", "internal/abi.NoEscape"], unfollowed := true, recurses := true, named := ["internal/strconv.uint64pow10", "math/bits.deBruijn32tab", "math/bits.deBruijn64tab"], loops := true, apart := false, laid := [("math/bits.deBruijn32tab", laid_math_bits_deBruijn32tab), ("math/bits.deBruijn64tab", laid_math_bits_deBruijn64tab), ("internal/strconv.uint64pow10", laid_internal_strconv_uint64pow10)], narrowed := true }
def SchemaAtUptoSaid : Prop := schemaAtUptoRow.holds Tryz.pinned (OpenSpec.upto schemaAtSpec)

/-- 'orchestratorlaw07.SchemaSub', WHERE WHAT IT READS IS OF BULK AT MOST 1048576: true; the input reads as it did. -/
def schemaSubUptoRow : OpenClaim := { program := "ytfhkcifopfheaaagreatdoor", sum := "dd015c22b225d88c2b908a8d21a314f102e20f23f6789828852d0520d9b02926", func := "orchestrator/orchestratorlaw07.SchemaSub", spec := "schemaSub", inPlace := ["internal/bytealg.abigen_runtime_cmpstring", "internal/abi.NoEscape"], unfollowed := true, recurses := true, named := ["internal/strconv.uint64pow10", "math/bits.deBruijn32tab", "math/bits.deBruijn64tab"], loops := true, apart := false, laid := [("math/bits.deBruijn32tab", laid_math_bits_deBruijn32tab), ("math/bits.deBruijn64tab", laid_math_bits_deBruijn64tab), ("internal/strconv.uint64pow10", laid_internal_strconv_uint64pow10)], narrowed := true }
def SchemaSubUptoSaid : Prop := schemaSubUptoRow.holds Tryz.pinned (OpenSpec.upto schemaSubSpec)

/-- 'orchestratorlaw08.DefaultsChecks', WHERE WHAT IT READS IS OF BULK AT MOST 1048576: true; the input reads as it did. -/
def defaultsChecksUptoRow : OpenClaim := { program := "ytfhkcifopfheaaagreatdoor", sum := "dd015c22b225d88c2b908a8d21a314f102e20f23f6789828852d0520d9b02926", func := "orchestrator/orchestratorlaw08.DefaultsChecks", spec := "defaultsChecks", inPlace := ["internal/bytealg.abigen_runtime_cmpstring", "internal/abi.NoEscape"], unfollowed := true, recurses := true, named := ["internal/strconv.uint64pow10", "math/bits.deBruijn32tab", "math/bits.deBruijn64tab"], loops := true, apart := false, laid := [("math/bits.deBruijn32tab", laid_math_bits_deBruijn32tab), ("math/bits.deBruijn64tab", laid_math_bits_deBruijn64tab), ("internal/strconv.uint64pow10", laid_internal_strconv_uint64pow10)], narrowed := true }
def DefaultsChecksUptoSaid : Prop := defaultsChecksUptoRow.holds Tryz.pinned (OpenSpec.upto defaultsChecksSpec)

/-- 'orchestratorlaw07.SchemaChanges', WHERE WHAT IT READS IS OF BULK AT MOST 1048576: true; the input reads as it did. -/
def schemaChangesUptoRow : OpenClaim := { program := "ytfhkcifopfheaaagreatdoor", sum := "dd015c22b225d88c2b908a8d21a314f102e20f23f6789828852d0520d9b02926", func := "orchestrator/orchestratorlaw07.SchemaChanges", spec := "schemaChanges", inPlace := ["internal/bytealg.abigen_runtime_cmpstring", "internal/abi.NoEscape"], unfollowed := true, recurses := true, named := ["internal/strconv.uint64pow10", "math/bits.deBruijn32tab", "math/bits.deBruijn64tab"], loops := true, apart := false, laid := [("math/bits.deBruijn32tab", laid_math_bits_deBruijn32tab), ("math/bits.deBruijn64tab", laid_math_bits_deBruijn64tab), ("internal/strconv.uint64pow10", laid_internal_strconv_uint64pow10)], narrowed := true }
def SchemaChangesUptoSaid : Prop := schemaChangesUptoRow.holds Tryz.pinned (OpenSpec.upto schemaChangesSpec)

/-- 'orchestratorlaw07.SchemaUnchanged', WHERE WHAT IT READS IS OF BULK AT MOST 1048576: true; the input reads as it did. -/
def schemaUnchangedUptoRow : OpenClaim := { program := "ytfhkcifopfheaaagreatdoor", sum := "dd015c22b225d88c2b908a8d21a314f102e20f23f6789828852d0520d9b02926", func := "orchestrator/orchestratorlaw07.SchemaUnchanged", spec := "schemaUnchanged", inPlace := ["internal/bytealg.abigen_runtime_cmpstring", "internal/abi.NoEscape"], unfollowed := true, recurses := true, named := ["internal/strconv.uint64pow10", "math/bits.deBruijn32tab", "math/bits.deBruijn64tab"], loops := true, apart := false, laid := [("math/bits.deBruijn32tab", laid_math_bits_deBruijn32tab), ("math/bits.deBruijn64tab", laid_math_bits_deBruijn64tab), ("internal/strconv.uint64pow10", laid_internal_strconv_uint64pow10)], narrowed := true }
def SchemaUnchangedUptoSaid : Prop := schemaUnchangedUptoRow.holds Tryz.pinned (OpenSpec.upto schemaUnchangedSpec)

/-- 'orchestratorlaw10.FieldsLeaves', WHERE WHAT IT READS IS OF BULK AT MOST 1048576: true; the input reads as it did. -/
def fieldsLeavesUptoRow : OpenClaim := { program := "ytfhkcifopfheaaagreatdoor", sum := "dd015c22b225d88c2b908a8d21a314f102e20f23f6789828852d0520d9b02926", func := "orchestrator/orchestratorlaw10.FieldsLeaves", spec := "fieldsLeaves", inPlace := ["internal/bytealg.abigen_runtime_cmpstring", "internal/abi.NoEscape"], unfollowed := true, recurses := true, named := ["internal/strconv.uint64pow10", "math/bits.deBruijn32tab", "math/bits.deBruijn64tab"], loops := true, apart := false, laid := [("math/bits.deBruijn32tab", laid_math_bits_deBruijn32tab), ("math/bits.deBruijn64tab", laid_math_bits_deBruijn64tab), ("internal/strconv.uint64pow10", laid_internal_strconv_uint64pow10)], narrowed := true }
def FieldsLeavesUptoSaid : Prop := fieldsLeavesUptoRow.holds Tryz.pinned (OpenSpec.upto fieldsLeavesSpec)

/-- 'orchestratorlaw10.FieldsSets', WHERE WHAT IT READS IS OF BULK AT MOST 1048576: true; the input reads as it did. -/
def fieldsSetsUptoRow : OpenClaim := { program := "ytfhkcifopfheaaagreatdoor", sum := "dd015c22b225d88c2b908a8d21a314f102e20f23f6789828852d0520d9b02926", func := "orchestrator/orchestratorlaw10.FieldsSets", spec := "fieldsSets", inPlace := ["internal/bytealg.abigen_runtime_cmpstring", "internal/abi.NoEscape"], unfollowed := true, recurses := true, named := ["internal/strconv.uint64pow10", "math/bits.deBruijn32tab", "math/bits.deBruijn64tab"], apart := false, laid := [("math/bits.deBruijn32tab", laid_math_bits_deBruijn32tab), ("math/bits.deBruijn64tab", laid_math_bits_deBruijn64tab), ("internal/strconv.uint64pow10", laid_internal_strconv_uint64pow10)], narrowed := true }
def FieldsSetsUptoSaid : Prop := fieldsSetsUptoRow.holds Tryz.pinned (OpenSpec.upto fieldsSetsSpec)

/-- 'orchestratorlaw10.FieldsParts', WHERE WHAT IT READS IS OF BULK AT MOST 1048576: true; the input reads as it did. -/
def fieldsPartsUptoRow : OpenClaim := { program := "ytfhkcifopfheaaagreatdoor", sum := "dd015c22b225d88c2b908a8d21a314f102e20f23f6789828852d0520d9b02926", func := "orchestrator/orchestratorlaw10.FieldsParts", spec := "fieldsParts", inPlace := ["internal/bytealg.abigen_runtime_cmpstring", "internal/abi.NoEscape"], unfollowed := true, recurses := true, named := ["internal/strconv.uint64pow10", "math/bits.deBruijn32tab", "math/bits.deBruijn64tab"], loops := true, apart := false, laid := [("math/bits.deBruijn32tab", laid_math_bits_deBruijn32tab), ("math/bits.deBruijn64tab", laid_math_bits_deBruijn64tab), ("internal/strconv.uint64pow10", laid_internal_strconv_uint64pow10)], narrowed := true }
def FieldsPartsUptoSaid : Prop := fieldsPartsUptoRow.holds Tryz.pinned (OpenSpec.upto fieldsPartsSpec)

/-- 'orchestratorlaw10.FieldsSplit', WHERE WHAT IT READS IS OF BULK AT MOST 1048576: true; the input reads as it did. -/
def fieldsSplitUptoRow : OpenClaim := { program := "ytfhkcifopfheaaagreatdoor", sum := "dd015c22b225d88c2b908a8d21a314f102e20f23f6789828852d0520d9b02926", func := "orchestrator/orchestratorlaw10.FieldsSplit", spec := "fieldsSplit", inPlace := ["internal/bytealg.abigen_runtime_cmpstring", "internal/abi.NoEscape"], unfollowed := true, recurses := true, named := ["internal/strconv.uint64pow10", "math/bits.deBruijn32tab", "math/bits.deBruijn64tab"], loops := true, apart := false, laid := [("math/bits.deBruijn32tab", laid_math_bits_deBruijn32tab), ("math/bits.deBruijn64tab", laid_math_bits_deBruijn64tab), ("internal/strconv.uint64pow10", laid_internal_strconv_uint64pow10)], narrowed := true }
def FieldsSplitUptoSaid : Prop := fieldsSplitUptoRow.holds Tryz.pinned (OpenSpec.upto fieldsSplitSpec)

/-- 'orchestratorlaw10.FieldsWhole', WHERE WHAT IT READS IS OF BULK AT MOST 1048576: true; the input reads as it did. -/
def fieldsWholeUptoRow : OpenClaim := { program := "ytfhkcifopfheaaagreatdoor", sum := "dd015c22b225d88c2b908a8d21a314f102e20f23f6789828852d0520d9b02926", func := "orchestrator/orchestratorlaw10.FieldsWhole", spec := "fieldsWhole", inPlace := ["internal/bytealg.abigen_runtime_cmpstring", "internal/abi.NoEscape"], unfollowed := true, recurses := true, named := ["internal/strconv.uint64pow10", "math/bits.deBruijn32tab", "math/bits.deBruijn64tab"], loops := true, apart := false, laid := [("math/bits.deBruijn32tab", laid_math_bits_deBruijn32tab), ("math/bits.deBruijn64tab", laid_math_bits_deBruijn64tab), ("internal/strconv.uint64pow10", laid_internal_strconv_uint64pow10)], narrowed := true }
def FieldsWholeUptoSaid : Prop := fieldsWholeUptoRow.holds Tryz.pinned (OpenSpec.upto fieldsWholeSpec)

end Rows
end Go.Proofs.YtfhkcifopfheaaaGreatDoor
