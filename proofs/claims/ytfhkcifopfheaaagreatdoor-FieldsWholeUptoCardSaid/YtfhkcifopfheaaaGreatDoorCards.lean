/-
  DERIVED. GIVEN WITH THE SEED: THE CARDS: each row of YtfhkcifopfheaaaGreatDoorRows.lean that lists a variable, with what it lists TIED to the program's text (the seventh form; the later family's looks); each row that meets fmt, with fmt's text TOLD by the authors' own Lean function (tested against real Go, not proved from fmt's source: count such statements apart). THE CARD IS WHAT COUNTS. Prove the row's statement (the work); the ties are given (YtfhkcifopfheaaaGreatDoorTie.lean); close each card by the builder's one call (the guide's Derived/Test/ToyasCard.lean, 'card_holds'). Laid BY PROGRAM, IN A SANDBOX (cutbox-door.mjs). By AI agents, Wed Nov 11 2026. No macro, syntax, notation, axiom, sorry.
-/
import Derived.Test.YtfhkcifopfheaaaGreatDoorRows
import GoSem.ClaimSeven
namespace Go.Proofs.YtfhkcifopfheaaaGreatDoor
namespace Rows

/-- THE TIED CARD OF 'orchestratorlaw07.SchemaValid'. -/
def schemaValidCard : Claim7 := { stood := { row := schemaValidRow, standIns := [], harness := (true, "677e3334fbfb66bc1a51945975d71368d80c73fa1c2bcbd4f9c1ad7a90bf236d"), looks := false }, kinds := [], alts := [], laidByText := true, laidKinds := [.data, .data, .data], laidTests := true, laidLooks := .later }
def SchemaValidCardSaid : Prop := Claim7.holds Tryz.pinned (.plain (OpenSpec.ofChange schemaValidSpec)) schemaValidCard

/-- THE TIED CARD OF 'orchestratorlaw07.SchemaChecks'. -/
def schemaChecksCard : Claim7 := { stood := { row := schemaChecksRow, standIns := [], harness := (true, "677e3334fbfb66bc1a51945975d71368d80c73fa1c2bcbd4f9c1ad7a90bf236d"), looks := false }, kinds := [], alts := [], laidByText := true, laidKinds := [.data, .data, .data], laidTests := true, laidLooks := .later }
def SchemaChecksCardSaid : Prop := Claim7.holds Tryz.pinned (.plain (OpenSpec.ofChange schemaChecksSpec)) schemaChecksCard

/-- THE TIED CARD OF 'orchestratorlaw07.SchemaAt'. -/
def schemaAtCard : Claim7 := { stood := { row := schemaAtRow, standIns := [], harness := (true, "677e3334fbfb66bc1a51945975d71368d80c73fa1c2bcbd4f9c1ad7a90bf236d"), looks := false }, kinds := [], alts := [], laidByText := true, laidKinds := [.data, .data, .data], laidTests := true, laidLooks := .later }
def SchemaAtCardSaid : Prop := Claim7.holds Tryz.pinned (.plain (OpenSpec.ofChange schemaAtSpec)) schemaAtCard

/-- THE TIED CARD OF 'orchestratorlaw07.SchemaSub'. -/
def schemaSubCard : Claim7 := { stood := { row := schemaSubRow, standIns := [], harness := (true, "677e3334fbfb66bc1a51945975d71368d80c73fa1c2bcbd4f9c1ad7a90bf236d"), looks := false }, kinds := [], alts := [], laidByText := true, laidKinds := [.data, .data, .data], laidTests := true, laidLooks := .later }
def SchemaSubCardSaid : Prop := Claim7.holds Tryz.pinned (.plain (OpenSpec.ofChange schemaSubSpec)) schemaSubCard

/-- THE TIED CARD OF 'orchestratorlaw08.DefaultsChecks'. -/
def defaultsChecksCard : Claim7 := { stood := { row := defaultsChecksRow, standIns := [], harness := (true, "677e3334fbfb66bc1a51945975d71368d80c73fa1c2bcbd4f9c1ad7a90bf236d"), looks := false }, kinds := [], alts := [], laidByText := true, laidKinds := [.data, .data, .data], laidTests := true, laidLooks := .later }
def DefaultsChecksCardSaid : Prop := Claim7.holds Tryz.pinned (.plain (OpenSpec.ofChange defaultsChecksSpec)) defaultsChecksCard

/-- THE TIED CARD OF 'orchestratorlaw07.SchemaChanges'. -/
def schemaChangesCard : Claim7 := { stood := { row := schemaChangesRow, standIns := [], harness := (true, "677e3334fbfb66bc1a51945975d71368d80c73fa1c2bcbd4f9c1ad7a90bf236d"), looks := false }, kinds := [], alts := [], laidByText := true, laidKinds := [.data, .data, .data], laidTests := true, laidLooks := .later }
def SchemaChangesCardSaid : Prop := Claim7.holds Tryz.pinned (.plain (OpenSpec.ofChange schemaChangesSpec)) schemaChangesCard

/-- THE TIED CARD OF 'orchestratorlaw07.SchemaUnchanged'. -/
def schemaUnchangedCard : Claim7 := { stood := { row := schemaUnchangedRow, standIns := [], harness := (true, "677e3334fbfb66bc1a51945975d71368d80c73fa1c2bcbd4f9c1ad7a90bf236d"), looks := false }, kinds := [], alts := [], laidByText := true, laidKinds := [.data, .data, .data], laidTests := true, laidLooks := .later }
def SchemaUnchangedCardSaid : Prop := Claim7.holds Tryz.pinned (.plain (OpenSpec.ofChange schemaUnchangedSpec)) schemaUnchangedCard

/-- THE TIED CARD OF 'orchestratorlaw10.FieldsLeaves'. -/
def fieldsLeavesCard : Claim7 := { stood := { row := fieldsLeavesRow, standIns := [], harness := (true, "677e3334fbfb66bc1a51945975d71368d80c73fa1c2bcbd4f9c1ad7a90bf236d"), looks := false }, kinds := [], alts := [], laidByText := true, laidKinds := [.data, .data, .data], laidTests := true, laidLooks := .later }
def FieldsLeavesCardSaid : Prop := Claim7.holds Tryz.pinned (.plain (OpenSpec.ofChange fieldsLeavesSpec)) fieldsLeavesCard

/-- THE TIED CARD OF 'orchestratorlaw10.FieldsSets'. -/
def fieldsSetsCard : Claim7 := { stood := { row := fieldsSetsRow, standIns := [], harness := (true, "677e3334fbfb66bc1a51945975d71368d80c73fa1c2bcbd4f9c1ad7a90bf236d"), looks := false }, kinds := [], alts := [], laidByText := true, laidKinds := [.data, .data, .data], laidTests := true, laidLooks := .later }
def FieldsSetsCardSaid : Prop := Claim7.holds Tryz.pinned (.plain (OpenSpec.ofChange fieldsSetsSpec)) fieldsSetsCard

/-- THE TIED CARD OF 'orchestratorlaw10.FieldsParts'. -/
def fieldsPartsCard : Claim7 := { stood := { row := fieldsPartsRow, standIns := [], harness := (true, "677e3334fbfb66bc1a51945975d71368d80c73fa1c2bcbd4f9c1ad7a90bf236d"), looks := false }, kinds := [], alts := [], laidByText := true, laidKinds := [.data, .data, .data], laidTests := true, laidLooks := .later }
def FieldsPartsCardSaid : Prop := Claim7.holds Tryz.pinned (.plain (OpenSpec.ofChange fieldsPartsSpec)) fieldsPartsCard

/-- THE TIED CARD OF 'orchestratorlaw10.FieldsSplit'. -/
def fieldsSplitCard : Claim7 := { stood := { row := fieldsSplitRow, standIns := [], harness := (true, "677e3334fbfb66bc1a51945975d71368d80c73fa1c2bcbd4f9c1ad7a90bf236d"), looks := false }, kinds := [], alts := [], laidByText := true, laidKinds := [.data, .data, .data], laidTests := true, laidLooks := .later }
def FieldsSplitCardSaid : Prop := Claim7.holds Tryz.pinned (.plain (OpenSpec.ofChange fieldsSplitSpec)) fieldsSplitCard

/-- THE TIED CARD OF 'orchestratorlaw10.FieldsWhole'. -/
def fieldsWholeCard : Claim7 := { stood := { row := fieldsWholeRow, standIns := [], harness := (true, "677e3334fbfb66bc1a51945975d71368d80c73fa1c2bcbd4f9c1ad7a90bf236d"), looks := false }, kinds := [], alts := [], laidByText := true, laidKinds := [.data, .data, .data], laidTests := true, laidLooks := .later }
def FieldsWholeCardSaid : Prop := Claim7.holds Tryz.pinned (.plain (OpenSpec.ofChange fieldsWholeSpec)) fieldsWholeCard

/-- THE SECOND FORM's CARD OF 'orchestratorlaw07.SchemaValid'. -/
def schemaValidUptoCard : Claim7 := { stood := { row := schemaValidUptoRow, standIns := [], harness := (true, "677e3334fbfb66bc1a51945975d71368d80c73fa1c2bcbd4f9c1ad7a90bf236d"), looks := false }, kinds := [], alts := [], laidByText := true, laidKinds := [.data, .data, .data], laidTests := true, laidLooks := .later }
def SchemaValidUptoCardSaid : Prop := Claim7.holds Tryz.pinned (.plain (OpenSpec.upto schemaValidSpec)) schemaValidUptoCard

/-- THE SECOND FORM's CARD OF 'orchestratorlaw07.SchemaChecks'. -/
def schemaChecksUptoCard : Claim7 := { stood := { row := schemaChecksUptoRow, standIns := [], harness := (true, "677e3334fbfb66bc1a51945975d71368d80c73fa1c2bcbd4f9c1ad7a90bf236d"), looks := false }, kinds := [], alts := [], laidByText := true, laidKinds := [.data, .data, .data], laidTests := true, laidLooks := .later }
def SchemaChecksUptoCardSaid : Prop := Claim7.holds Tryz.pinned (.plain (OpenSpec.upto schemaChecksSpec)) schemaChecksUptoCard

/-- THE SECOND FORM's CARD OF 'orchestratorlaw07.SchemaAt'. -/
def schemaAtUptoCard : Claim7 := { stood := { row := schemaAtUptoRow, standIns := [], harness := (true, "677e3334fbfb66bc1a51945975d71368d80c73fa1c2bcbd4f9c1ad7a90bf236d"), looks := false }, kinds := [], alts := [], laidByText := true, laidKinds := [.data, .data, .data], laidTests := true, laidLooks := .later }
def SchemaAtUptoCardSaid : Prop := Claim7.holds Tryz.pinned (.plain (OpenSpec.upto schemaAtSpec)) schemaAtUptoCard

/-- THE SECOND FORM's CARD OF 'orchestratorlaw07.SchemaSub'. -/
def schemaSubUptoCard : Claim7 := { stood := { row := schemaSubUptoRow, standIns := [], harness := (true, "677e3334fbfb66bc1a51945975d71368d80c73fa1c2bcbd4f9c1ad7a90bf236d"), looks := false }, kinds := [], alts := [], laidByText := true, laidKinds := [.data, .data, .data], laidTests := true, laidLooks := .later }
def SchemaSubUptoCardSaid : Prop := Claim7.holds Tryz.pinned (.plain (OpenSpec.upto schemaSubSpec)) schemaSubUptoCard

/-- THE SECOND FORM's CARD OF 'orchestratorlaw08.DefaultsChecks'. -/
def defaultsChecksUptoCard : Claim7 := { stood := { row := defaultsChecksUptoRow, standIns := [], harness := (true, "677e3334fbfb66bc1a51945975d71368d80c73fa1c2bcbd4f9c1ad7a90bf236d"), looks := false }, kinds := [], alts := [], laidByText := true, laidKinds := [.data, .data, .data], laidTests := true, laidLooks := .later }
def DefaultsChecksUptoCardSaid : Prop := Claim7.holds Tryz.pinned (.plain (OpenSpec.upto defaultsChecksSpec)) defaultsChecksUptoCard

/-- THE SECOND FORM's CARD OF 'orchestratorlaw07.SchemaChanges'. -/
def schemaChangesUptoCard : Claim7 := { stood := { row := schemaChangesUptoRow, standIns := [], harness := (true, "677e3334fbfb66bc1a51945975d71368d80c73fa1c2bcbd4f9c1ad7a90bf236d"), looks := false }, kinds := [], alts := [], laidByText := true, laidKinds := [.data, .data, .data], laidTests := true, laidLooks := .later }
def SchemaChangesUptoCardSaid : Prop := Claim7.holds Tryz.pinned (.plain (OpenSpec.upto schemaChangesSpec)) schemaChangesUptoCard

/-- THE SECOND FORM's CARD OF 'orchestratorlaw07.SchemaUnchanged'. -/
def schemaUnchangedUptoCard : Claim7 := { stood := { row := schemaUnchangedUptoRow, standIns := [], harness := (true, "677e3334fbfb66bc1a51945975d71368d80c73fa1c2bcbd4f9c1ad7a90bf236d"), looks := false }, kinds := [], alts := [], laidByText := true, laidKinds := [.data, .data, .data], laidTests := true, laidLooks := .later }
def SchemaUnchangedUptoCardSaid : Prop := Claim7.holds Tryz.pinned (.plain (OpenSpec.upto schemaUnchangedSpec)) schemaUnchangedUptoCard

/-- THE SECOND FORM's CARD OF 'orchestratorlaw10.FieldsLeaves'. -/
def fieldsLeavesUptoCard : Claim7 := { stood := { row := fieldsLeavesUptoRow, standIns := [], harness := (true, "677e3334fbfb66bc1a51945975d71368d80c73fa1c2bcbd4f9c1ad7a90bf236d"), looks := false }, kinds := [], alts := [], laidByText := true, laidKinds := [.data, .data, .data], laidTests := true, laidLooks := .later }
def FieldsLeavesUptoCardSaid : Prop := Claim7.holds Tryz.pinned (.plain (OpenSpec.upto fieldsLeavesSpec)) fieldsLeavesUptoCard

/-- THE SECOND FORM's CARD OF 'orchestratorlaw10.FieldsSets'. -/
def fieldsSetsUptoCard : Claim7 := { stood := { row := fieldsSetsUptoRow, standIns := [], harness := (true, "677e3334fbfb66bc1a51945975d71368d80c73fa1c2bcbd4f9c1ad7a90bf236d"), looks := false }, kinds := [], alts := [], laidByText := true, laidKinds := [.data, .data, .data], laidTests := true, laidLooks := .later }
def FieldsSetsUptoCardSaid : Prop := Claim7.holds Tryz.pinned (.plain (OpenSpec.upto fieldsSetsSpec)) fieldsSetsUptoCard

/-- THE SECOND FORM's CARD OF 'orchestratorlaw10.FieldsParts'. -/
def fieldsPartsUptoCard : Claim7 := { stood := { row := fieldsPartsUptoRow, standIns := [], harness := (true, "677e3334fbfb66bc1a51945975d71368d80c73fa1c2bcbd4f9c1ad7a90bf236d"), looks := false }, kinds := [], alts := [], laidByText := true, laidKinds := [.data, .data, .data], laidTests := true, laidLooks := .later }
def FieldsPartsUptoCardSaid : Prop := Claim7.holds Tryz.pinned (.plain (OpenSpec.upto fieldsPartsSpec)) fieldsPartsUptoCard

/-- THE SECOND FORM's CARD OF 'orchestratorlaw10.FieldsSplit'. -/
def fieldsSplitUptoCard : Claim7 := { stood := { row := fieldsSplitUptoRow, standIns := [], harness := (true, "677e3334fbfb66bc1a51945975d71368d80c73fa1c2bcbd4f9c1ad7a90bf236d"), looks := false }, kinds := [], alts := [], laidByText := true, laidKinds := [.data, .data, .data], laidTests := true, laidLooks := .later }
def FieldsSplitUptoCardSaid : Prop := Claim7.holds Tryz.pinned (.plain (OpenSpec.upto fieldsSplitSpec)) fieldsSplitUptoCard

/-- THE SECOND FORM's CARD OF 'orchestratorlaw10.FieldsWhole'. -/
def fieldsWholeUptoCard : Claim7 := { stood := { row := fieldsWholeUptoRow, standIns := [], harness := (true, "677e3334fbfb66bc1a51945975d71368d80c73fa1c2bcbd4f9c1ad7a90bf236d"), looks := false }, kinds := [], alts := [], laidByText := true, laidKinds := [.data, .data, .data], laidTests := true, laidLooks := .later }
def FieldsWholeUptoCardSaid : Prop := Claim7.holds Tryz.pinned (.plain (OpenSpec.upto fieldsWholeSpec)) fieldsWholeUptoCard
end Rows
end Go.Proofs.YtfhkcifopfheaaaGreatDoor
