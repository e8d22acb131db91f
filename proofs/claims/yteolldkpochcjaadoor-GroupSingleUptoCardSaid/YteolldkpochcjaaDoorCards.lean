/-
  DERIVED. GIVEN WITH THE SEED: THE CARDS: each row of YteolldkpochcjaaDoorRows.lean that lists a variable, with what it lists TIED to the program's text (the seventh form; the later family's looks); each row that meets fmt, with fmt's text TOLD by the authors' own Lean function (tested against real Go, not proved from fmt's source: count such statements apart). THE CARD IS WHAT COUNTS. Prove the row's statement (the work); the ties are given (YteolldkpochcjaaDoorTie.lean); close each card by the builder's one call (the guide's Derived/Test/ToyasCard.lean, 'card_holds'). Laid BY PROGRAM, IN A SANDBOX (cutbox-door.mjs). By AI agents, Wed Nov 11 2026. No macro, syntax, notation, axiom, sorry.
-/
import Derived.Test.YteolldkpochcjaaDoorRows
import GoSem.ClaimSeven
namespace Go.Proofs.YteolldkpochcjaaDoor
namespace Rows

/-- THE TIED CARD OF 'orchestratorlaw27.GroupSafety'. -/
def groupSafetyCard : Claim7 := { stood := { row := groupSafetyRow, standIns := [], harness := (true, "2f22c614cf72a02e9acce35dd796f12e796faeda887de996ff9cc63f5e21927e"), looks := false }, kinds := [], alts := [], laidByText := true, laidKinds := [.data, .pinned], laidTests := true, laidLooks := .later }
def GroupSafetyCardSaid : Prop := Claim7.holds Tryd.pinned (.plain (OpenSpec.ofChange groupSafetySpec)) groupSafetyCard

/-- THE TIED CARD OF 'orchestratorlaw27.GroupSingle'. -/
def groupSingleCard : Claim7 := { stood := { row := groupSingleRow, standIns := [], harness := (true, "2f22c614cf72a02e9acce35dd796f12e796faeda887de996ff9cc63f5e21927e"), looks := false }, kinds := [], alts := [], laidByText := true, laidKinds := [.data, .pinned], laidTests := true, laidLooks := .later }
def GroupSingleCardSaid : Prop := Claim7.holds Tryd.pinned (.plain (OpenSpec.ofChange groupSingleSpec)) groupSingleCard

/-- THE SECOND FORM's CARD OF 'orchestratorlaw27.GroupSafety'. -/
def groupSafetyUptoCard : Claim7 := { stood := { row := groupSafetyUptoRow, standIns := [], harness := (true, "2f22c614cf72a02e9acce35dd796f12e796faeda887de996ff9cc63f5e21927e"), looks := false }, kinds := [], alts := [], laidByText := true, laidKinds := [.data, .pinned], laidTests := true, laidLooks := .later }
def GroupSafetyUptoCardSaid : Prop := Claim7.holds Tryd.pinned (.plain (OpenSpec.upto groupSafetySpec)) groupSafetyUptoCard

/-- THE SECOND FORM's CARD OF 'orchestratorlaw27.GroupSingle'. -/
def groupSingleUptoCard : Claim7 := { stood := { row := groupSingleUptoRow, standIns := [], harness := (true, "2f22c614cf72a02e9acce35dd796f12e796faeda887de996ff9cc63f5e21927e"), looks := false }, kinds := [], alts := [], laidByText := true, laidKinds := [.data, .pinned], laidTests := true, laidLooks := .later }
def GroupSingleUptoCardSaid : Prop := Claim7.holds Tryd.pinned (.plain (OpenSpec.upto groupSingleSpec)) groupSingleUptoCard
end Rows
end Go.Proofs.YteolldkpochcjaaDoor
