/-
  DERIVED. GIVEN WITH THE SEED: THE CARDS: each row of YtfealnpkfnjbkaaGreatDoorRows.lean that lists a variable, with what it lists TIED to the program's text (the seventh form; the later family's looks); each row that meets fmt, with fmt's text TOLD by the authors' own Lean function (tested against real Go, not proved from fmt's source: count such statements apart). THE CARD IS WHAT COUNTS. Prove the row's statement (the work); the ties are given (YtfealnpkfnjbkaaGreatDoorTie.lean); close each card by the builder's one call (the guide's Derived/Test/ToyasCard.lean, 'card_holds'). Laid BY PROGRAM, IN A SANDBOX (cutbox-door.mjs). By AI agents, Wed Nov 11 2026. No macro, syntax, notation, axiom, sorry.
-/
import Derived.Test.YtfealnpkfnjbkaaGreatDoorRows
import GoSem.ClaimSeven
namespace Go.Proofs.YtfealnpkfnjbkaaGreatDoor
namespace Rows

/-- THE TIED CARD OF 'orchestratorlaw11.ApplyMerges'. -/
def applyMergesCard : Claim7 := { stood := { row := applyMergesRow, standIns := [], harness := (true, "4c7f3dff6a09d6677ed7c3ed1456c95ba5cdd0a1d8358e66cb9e9eb77a35946f"), looks := true }, kinds := [], alts := [], laidByText := true, laidKinds := [.data, .data, .data, .sentinel, .sentinel], laidTests := true, laidLooks := .later }
def ApplyMergesCardSaid : Prop := Claim7.holds Tryz.pinned (.plain (OpenSpec.ofChange applyMergesSpec)) applyMergesCard

/-- THE TIED CARD OF 'orchestratorlaw11.ApplyUpdates'. -/
def applyUpdatesCard : Claim7 := { stood := { row := applyUpdatesRow, standIns := [], harness := (true, "4c7f3dff6a09d6677ed7c3ed1456c95ba5cdd0a1d8358e66cb9e9eb77a35946f"), looks := true }, kinds := [], alts := [], laidByText := true, laidKinds := [.data, .data, .data, .sentinel, .sentinel], laidTests := true, laidLooks := .later }
def ApplyUpdatesCardSaid : Prop := Claim7.holds Tryz.pinned (.plain (OpenSpec.ofChange applyUpdatesSpec)) applyUpdatesCard

/-- THE TIED CARD OF 'orchestratorlaw11.ApplyOwners'. -/
def applyOwnersCard : Claim7 := { stood := { row := applyOwnersRow, standIns := [], harness := (true, "4c7f3dff6a09d6677ed7c3ed1456c95ba5cdd0a1d8358e66cb9e9eb77a35946f"), looks := true }, kinds := [], alts := [], laidByText := true, laidKinds := [.data, .data, .data, .sentinel, .sentinel], laidTests := true, laidLooks := .later }
def ApplyOwnersCardSaid : Prop := Claim7.holds Tryz.pinned (.plain (OpenSpec.ofChange applyOwnersSpec)) applyOwnersCard

/-- THE TIED CARD OF 'orchestratorlaw11.ApplyConflicts'. -/
def applyConflictsCard : Claim7 := { stood := { row := applyConflictsRow, standIns := [], harness := (true, "4c7f3dff6a09d6677ed7c3ed1456c95ba5cdd0a1d8358e66cb9e9eb77a35946f"), looks := true }, kinds := [], alts := [], laidByText := true, laidKinds := [.data, .data, .data, .sentinel, .sentinel], laidTests := true, laidLooks := .later }
def ApplyConflictsCardSaid : Prop := Claim7.holds Tryz.pinned (.plain (OpenSpec.ofChange applyConflictsSpec)) applyConflictsCard

/-- THE TIED CARD OF 'orchestratorlaw11.ApplyWithdraws'. -/
def applyWithdrawsCard : Claim7 := { stood := { row := applyWithdrawsRow, standIns := [], harness := (true, "4c7f3dff6a09d6677ed7c3ed1456c95ba5cdd0a1d8358e66cb9e9eb77a35946f"), looks := true }, kinds := [], alts := [], laidByText := true, laidKinds := [.data, .data, .data, .sentinel, .sentinel], laidTests := true, laidLooks := .later }
def ApplyWithdrawsCardSaid : Prop := Claim7.holds Tryz.pinned (.plain (OpenSpec.ofChange applyWithdrawsSpec)) applyWithdrawsCard

/-- THE SECOND FORM's CARD OF 'orchestratorlaw11.ApplyMerges'. -/
def applyMergesUptoCard : Claim7 := { stood := { row := applyMergesUptoRow, standIns := [], harness := (true, "4c7f3dff6a09d6677ed7c3ed1456c95ba5cdd0a1d8358e66cb9e9eb77a35946f"), looks := true }, kinds := [], alts := [], laidByText := true, laidKinds := [.data, .data, .data, .sentinel, .sentinel], laidTests := true, laidLooks := .later }
def ApplyMergesUptoCardSaid : Prop := Claim7.holds Tryz.pinned (.plain (OpenSpec.upto applyMergesSpec)) applyMergesUptoCard

/-- THE SECOND FORM's CARD OF 'orchestratorlaw11.ApplyUpdates'. -/
def applyUpdatesUptoCard : Claim7 := { stood := { row := applyUpdatesUptoRow, standIns := [], harness := (true, "4c7f3dff6a09d6677ed7c3ed1456c95ba5cdd0a1d8358e66cb9e9eb77a35946f"), looks := true }, kinds := [], alts := [], laidByText := true, laidKinds := [.data, .data, .data, .sentinel, .sentinel], laidTests := true, laidLooks := .later }
def ApplyUpdatesUptoCardSaid : Prop := Claim7.holds Tryz.pinned (.plain (OpenSpec.upto applyUpdatesSpec)) applyUpdatesUptoCard

/-- THE SECOND FORM's CARD OF 'orchestratorlaw11.ApplyOwners'. -/
def applyOwnersUptoCard : Claim7 := { stood := { row := applyOwnersUptoRow, standIns := [], harness := (true, "4c7f3dff6a09d6677ed7c3ed1456c95ba5cdd0a1d8358e66cb9e9eb77a35946f"), looks := true }, kinds := [], alts := [], laidByText := true, laidKinds := [.data, .data, .data, .sentinel, .sentinel], laidTests := true, laidLooks := .later }
def ApplyOwnersUptoCardSaid : Prop := Claim7.holds Tryz.pinned (.plain (OpenSpec.upto applyOwnersSpec)) applyOwnersUptoCard

/-- THE SECOND FORM's CARD OF 'orchestratorlaw11.ApplyConflicts'. -/
def applyConflictsUptoCard : Claim7 := { stood := { row := applyConflictsUptoRow, standIns := [], harness := (true, "4c7f3dff6a09d6677ed7c3ed1456c95ba5cdd0a1d8358e66cb9e9eb77a35946f"), looks := true }, kinds := [], alts := [], laidByText := true, laidKinds := [.data, .data, .data, .sentinel, .sentinel], laidTests := true, laidLooks := .later }
def ApplyConflictsUptoCardSaid : Prop := Claim7.holds Tryz.pinned (.plain (OpenSpec.upto applyConflictsSpec)) applyConflictsUptoCard

/-- THE SECOND FORM's CARD OF 'orchestratorlaw11.ApplyWithdraws'. -/
def applyWithdrawsUptoCard : Claim7 := { stood := { row := applyWithdrawsUptoRow, standIns := [], harness := (true, "4c7f3dff6a09d6677ed7c3ed1456c95ba5cdd0a1d8358e66cb9e9eb77a35946f"), looks := true }, kinds := [], alts := [], laidByText := true, laidKinds := [.data, .data, .data, .sentinel, .sentinel], laidTests := true, laidLooks := .later }
def ApplyWithdrawsUptoCardSaid : Prop := Claim7.holds Tryz.pinned (.plain (OpenSpec.upto applyWithdrawsSpec)) applyWithdrawsUptoCard
end Rows
end Go.Proofs.YtfealnpkfnjbkaaGreatDoor
