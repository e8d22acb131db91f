/-
  NARROWER THAN 'FOR EVERY INPUT', by the rows' own cells (each row's printed sentence says how): DefaultsFill: loops · DefaultsPrune: loops · DefaultsIdempotent: loops.
  DERIVED. THE GIVEN ROWS OF THIS SEAT. 12 by the template 'for every input the law returns true; each argument reads behind the call as it read before'; 0 by the template 'total and deterministic' (their statements: YtcamikkadiiobaaTotals.lean).
  GIVEN WITH THE SEED: the statements are not yours to turn. If you find one false, say at which input.
  Laid BY PROGRAM, IN A SANDBOX (cutbox-rows.mjs): the forced cells as the released guide's own fill.sh prints them over the translation dba9fadc07051487… (all of the seat's roots in one cut). By AI agents, Wed Nov 11 2026. No macro, syntax, notation, axiom, sorry.
-/
import Derived.Test.YtcamikkadiiobaaChecked
import GoSem.Claim
import GoSem.ClaimJoined
import GoSem.ClaimMapViews
import Derived.JoinedTies
import Derived.KernelRfl
namespace Go.Proofs.Ytcamikkadiiobaa
/- THE CELL 'sum', in the pinned program and in every row, IS THE sha256 OF THE DUMP (.gsa) THAT YtcamikkadiiobaaProg.lean LOADS. Nothing in Lean hashes anything: it is a label: what it is worth is what the hold of that sum in a sandbox is worth. -/
noncomputable def Try.pinned : Pinned := { name := "ytcamikkadiiobaa", sum := "dba9fadc07051487b07980d7945e0ddd09e9d55d4de75b90e6e76ac25c6b17a5", checked := Try.checked }
namespace Rows
def none {H : Type} : Left H := { results := [], args := [] }

/-- 'orchestratorlaw25.RlogAppends': WHATEVER THE INPUT: true; the input reads as it did. -/
def rlogAppendsSpec : ChangeSpec := { name := "rlogAppends", fn := fun _ => fun
  | [d1, d2, d3, d4] => { results := [.lit (.bool true)], args := [d1, d2, d3, d4] }
  | _ => none }
def rlogAppendsRow : OpenClaim := { program := "ytcamikkadiiobaa", sum := "dba9fadc07051487b07980d7945e0ddd09e9d55d4de75b90e6e76ac25c6b17a5", func := "orchestrator/orchestratorlaw25.RlogAppends", spec := "rlogAppends", apart := false }
def RlogAppendsSaid : Prop := rlogAppendsRow.holds Try.pinned (OpenSpec.ofChange rlogAppendsSpec)

/-- ITS FALSE NEIGHBOUR: 'it returns false'. Refute it at one input. -/
def rlogAppendsWrong : ChangeSpec := { name := "rlogAppends", fn := fun _ => fun
  | [d1, d2, d3, d4] => { results := [.lit (.bool false)], args := [d1, d2, d3, d4] }
  | _ => none }
def RlogAppendsWrongFalsely : Prop := rlogAppendsRow.holds Try.pinned (OpenSpec.ofChange rlogAppendsWrong)

/-- 'orchestratorlaw25.RlogMatching': WHATEVER THE INPUT: true; the input reads as it did. -/
def rlogMatchingSpec : ChangeSpec := { name := "rlogMatching", fn := fun _ => fun
  | [d] => { results := [.lit (.bool true)], args := [d] }
  | _ => none }
def rlogMatchingRow : OpenClaim := { program := "ytcamikkadiiobaa", sum := "dba9fadc07051487b07980d7945e0ddd09e9d55d4de75b90e6e76ac25c6b17a5", func := "orchestrator/orchestratorlaw25.RlogMatching", spec := "rlogMatching", apart := false }
def RlogMatchingSaid : Prop := rlogMatchingRow.holds Try.pinned (OpenSpec.ofChange rlogMatchingSpec)

/-- ITS FALSE NEIGHBOUR: 'it returns false'. Refute it at one input. -/
def rlogMatchingWrong : ChangeSpec := { name := "rlogMatching", fn := fun _ => fun
  | [d] => { results := [.lit (.bool false)], args := [d] }
  | _ => none }
def RlogMatchingWrongFalsely : Prop := rlogMatchingRow.holds Try.pinned (OpenSpec.ofChange rlogMatchingWrong)

/-- 'orchestratorlaw25.RlogRepairs': WHATEVER THE INPUT: true; the input reads as it did. -/
def rlogRepairsSpec : ChangeSpec := { name := "rlogRepairs", fn := fun _ => fun
  | [d1, d2] => { results := [.lit (.bool true)], args := [d1, d2] }
  | _ => none }
def rlogRepairsRow : OpenClaim := { program := "ytcamikkadiiobaa", sum := "dba9fadc07051487b07980d7945e0ddd09e9d55d4de75b90e6e76ac25c6b17a5", func := "orchestrator/orchestratorlaw25.RlogRepairs", spec := "rlogRepairs", apart := false }
def RlogRepairsSaid : Prop := rlogRepairsRow.holds Try.pinned (OpenSpec.ofChange rlogRepairsSpec)

/-- ITS FALSE NEIGHBOUR: 'it returns false'. Refute it at one input. -/
def rlogRepairsWrong : ChangeSpec := { name := "rlogRepairs", fn := fun _ => fun
  | [d1, d2] => { results := [.lit (.bool false)], args := [d1, d2] }
  | _ => none }
def RlogRepairsWrongFalsely : Prop := rlogRepairsRow.holds Try.pinned (OpenSpec.ofChange rlogRepairsWrong)

/-- 'orchestratorlaw25.RlogReads': WHATEVER THE INPUT: true; the input reads as it did. -/
def rlogReadsSpec : ChangeSpec := { name := "rlogReads", fn := fun _ => fun
  | [d1, d2, d3, d4] => { results := [.lit (.bool true)], args := [d1, d2, d3, d4] }
  | _ => none }
def rlogReadsRow : OpenClaim := { program := "ytcamikkadiiobaa", sum := "dba9fadc07051487b07980d7945e0ddd09e9d55d4de75b90e6e76ac25c6b17a5", func := "orchestrator/orchestratorlaw25.RlogReads", spec := "rlogReads", apart := false }
def RlogReadsSaid : Prop := rlogReadsRow.holds Try.pinned (OpenSpec.ofChange rlogReadsSpec)

/-- ITS FALSE NEIGHBOUR: 'it returns false'. Refute it at one input. -/
def rlogReadsWrong : ChangeSpec := { name := "rlogReads", fn := fun _ => fun
  | [d1, d2, d3, d4] => { results := [.lit (.bool false)], args := [d1, d2, d3, d4] }
  | _ => none }
def RlogReadsWrongFalsely : Prop := rlogReadsRow.holds Try.pinned (OpenSpec.ofChange rlogReadsWrong)

/-- 'orchestratorlaw08.DefaultsFill': WHATEVER THE INPUT: true; the input reads as it did. -/
def defaultsFillSpec : ChangeSpec := { name := "defaultsFill", fn := fun _ => fun
  | [d1, d2] => { results := [.lit (.bool true)], args := [d1, d2] }
  | _ => none }
def defaultsFillRow : OpenClaim := { program := "ytcamikkadiiobaa", sum := "dba9fadc07051487b07980d7945e0ddd09e9d55d4de75b90e6e76ac25c6b17a5", func := "orchestrator/orchestratorlaw08.DefaultsFill", spec := "defaultsFill", inPlace := ["internal/bytealg.abigen_runtime_cmpstring"], unfollowed := true, recurses := true, loops := true, apart := false }
def DefaultsFillSaid : Prop := defaultsFillRow.holds Try.pinned (OpenSpec.ofChange defaultsFillSpec)

/-- ITS FALSE NEIGHBOUR: 'it returns false'. Refute it at one input. -/
def defaultsFillWrong : ChangeSpec := { name := "defaultsFill", fn := fun _ => fun
  | [d1, d2] => { results := [.lit (.bool false)], args := [d1, d2] }
  | _ => none }
def DefaultsFillWrongFalsely : Prop := defaultsFillRow.holds Try.pinned (OpenSpec.ofChange defaultsFillWrong)

/-- 'orchestratorlaw08.DefaultsPrune': WHATEVER THE INPUT: true; the input reads as it did. -/
def defaultsPruneSpec : ChangeSpec := { name := "defaultsPrune", fn := fun _ => fun
  | [d1, d2] => { results := [.lit (.bool true)], args := [d1, d2] }
  | _ => none }
def defaultsPruneRow : OpenClaim := { program := "ytcamikkadiiobaa", sum := "dba9fadc07051487b07980d7945e0ddd09e9d55d4de75b90e6e76ac25c6b17a5", func := "orchestrator/orchestratorlaw08.DefaultsPrune", spec := "defaultsPrune", inPlace := ["internal/bytealg.abigen_runtime_cmpstring"], unfollowed := true, recurses := true, loops := true, apart := false }
def DefaultsPruneSaid : Prop := defaultsPruneRow.holds Try.pinned (OpenSpec.ofChange defaultsPruneSpec)

/-- ITS FALSE NEIGHBOUR: 'it returns false'. Refute it at one input. -/
def defaultsPruneWrong : ChangeSpec := { name := "defaultsPrune", fn := fun _ => fun
  | [d1, d2] => { results := [.lit (.bool false)], args := [d1, d2] }
  | _ => none }
def DefaultsPruneWrongFalsely : Prop := defaultsPruneRow.holds Try.pinned (OpenSpec.ofChange defaultsPruneWrong)

/-- 'orchestratorlaw08.DefaultsIdempotent': WHATEVER THE INPUT: true; the input reads as it did. -/
def defaultsIdempotentSpec : ChangeSpec := { name := "defaultsIdempotent", fn := fun _ => fun
  | [d1, d2] => { results := [.lit (.bool true)], args := [d1, d2] }
  | _ => none }
def defaultsIdempotentRow : OpenClaim := { program := "ytcamikkadiiobaa", sum := "dba9fadc07051487b07980d7945e0ddd09e9d55d4de75b90e6e76ac25c6b17a5", func := "orchestrator/orchestratorlaw08.DefaultsIdempotent", spec := "defaultsIdempotent", inPlace := ["internal/bytealg.abigen_runtime_cmpstring"], unfollowed := true, recurses := true, loops := true, apart := false }
def DefaultsIdempotentSaid : Prop := defaultsIdempotentRow.holds Try.pinned (OpenSpec.ofChange defaultsIdempotentSpec)

/-- ITS FALSE NEIGHBOUR: 'it returns false'. Refute it at one input. -/
def defaultsIdempotentWrong : ChangeSpec := { name := "defaultsIdempotent", fn := fun _ => fun
  | [d1, d2] => { results := [.lit (.bool false)], args := [d1, d2] }
  | _ => none }
def DefaultsIdempotentWrongFalsely : Prop := defaultsIdempotentRow.holds Try.pinned (OpenSpec.ofChange defaultsIdempotentWrong)

/-- 'orchestratorlaw26.MemberSays': WHATEVER THE INPUT: true; the input reads as it did. -/
def memberSaysSpec : ChangeSpec := { name := "memberSays", fn := fun _ => fun
  | [d1, d2] => { results := [.lit (.bool true)], args := [d1, d2] }
  | _ => none }
def memberSaysRow : OpenClaim := { program := "ytcamikkadiiobaa", sum := "dba9fadc07051487b07980d7945e0ddd09e9d55d4de75b90e6e76ac25c6b17a5", func := "orchestrator/orchestratorlaw26.MemberSays", spec := "memberSays", inPlace := ["slices.overlaps[int]"], unfollowed := true, recurses := true, apart := false }
def MemberSaysSaid : Prop := memberSaysRow.holds Try.pinned (OpenSpec.ofChange memberSaysSpec)

/-- ITS FALSE NEIGHBOUR: 'it returns false'. Refute it at one input. -/
def memberSaysWrong : ChangeSpec := { name := "memberSays", fn := fun _ => fun
  | [d1, d2] => { results := [.lit (.bool false)], args := [d1, d2] }
  | _ => none }
def MemberSaysWrongFalsely : Prop := memberSaysRow.holds Try.pinned (OpenSpec.ofChange memberSaysWrong)

/-- 'orchestratorlaw26.MemberVotes': WHATEVER THE INPUT: true; the input reads as it did. -/
def memberVotesSpec : ChangeSpec := { name := "memberVotes", fn := fun _ => fun
  | [d1, d2] => { results := [.lit (.bool true)], args := [d1, d2] }
  | _ => none }
def memberVotesRow : OpenClaim := { program := "ytcamikkadiiobaa", sum := "dba9fadc07051487b07980d7945e0ddd09e9d55d4de75b90e6e76ac25c6b17a5", func := "orchestrator/orchestratorlaw26.MemberVotes", spec := "memberVotes", inPlace := ["slices.overlaps[int]"], unfollowed := true, recurses := true, apart := false }
def MemberVotesSaid : Prop := memberVotesRow.holds Try.pinned (OpenSpec.ofChange memberVotesSpec)

/-- ITS FALSE NEIGHBOUR: 'it returns false'. Refute it at one input. -/
def memberVotesWrong : ChangeSpec := { name := "memberVotes", fn := fun _ => fun
  | [d1, d2] => { results := [.lit (.bool false)], args := [d1, d2] }
  | _ => none }
def MemberVotesWrongFalsely : Prop := memberVotesRow.holds Try.pinned (OpenSpec.ofChange memberVotesWrong)

/-- 'orchestratorlaw26.MemberKeeps': WHATEVER THE INPUT: true; the input reads as it did. -/
def memberKeepsSpec : ChangeSpec := { name := "memberKeeps", fn := fun _ => fun
  | [d1, d2] => { results := [.lit (.bool true)], args := [d1, d2] }
  | _ => none }
def memberKeepsRow : OpenClaim := { program := "ytcamikkadiiobaa", sum := "dba9fadc07051487b07980d7945e0ddd09e9d55d4de75b90e6e76ac25c6b17a5", func := "orchestrator/orchestratorlaw26.MemberKeeps", spec := "memberKeeps", inPlace := ["slices.overlaps[int]"], unfollowed := true, recurses := true, apart := false }
def MemberKeepsSaid : Prop := memberKeepsRow.holds Try.pinned (OpenSpec.ofChange memberKeepsSpec)

/-- ITS FALSE NEIGHBOUR: 'it returns false'. Refute it at one input. -/
def memberKeepsWrong : ChangeSpec := { name := "memberKeeps", fn := fun _ => fun
  | [d1, d2] => { results := [.lit (.bool false)], args := [d1, d2] }
  | _ => none }
def MemberKeepsWrongFalsely : Prop := memberKeepsRow.holds Try.pinned (OpenSpec.ofChange memberKeepsWrong)

/-- 'orchestratorlaw26.MemberLeads': WHATEVER THE INPUT: true; the input reads as it did. -/
def memberLeadsSpec : ChangeSpec := { name := "memberLeads", fn := fun _ => fun
  | [d1, d2] => { results := [.lit (.bool true)], args := [d1, d2] }
  | _ => none }
def memberLeadsRow : OpenClaim := { program := "ytcamikkadiiobaa", sum := "dba9fadc07051487b07980d7945e0ddd09e9d55d4de75b90e6e76ac25c6b17a5", func := "orchestrator/orchestratorlaw26.MemberLeads", spec := "memberLeads", inPlace := ["slices.overlaps[int]"], unfollowed := true, recurses := true, apart := false }
def MemberLeadsSaid : Prop := memberLeadsRow.holds Try.pinned (OpenSpec.ofChange memberLeadsSpec)

/-- ITS FALSE NEIGHBOUR: 'it returns false'. Refute it at one input. -/
def memberLeadsWrong : ChangeSpec := { name := "memberLeads", fn := fun _ => fun
  | [d1, d2] => { results := [.lit (.bool false)], args := [d1, d2] }
  | _ => none }
def MemberLeadsWrongFalsely : Prop := memberLeadsRow.holds Try.pinned (OpenSpec.ofChange memberLeadsWrong)

/-- 'orchestratorlaw26.MemberElects': WHATEVER THE INPUT: true; the input reads as it did. -/
def memberElectsSpec : ChangeSpec := { name := "memberElects", fn := fun _ => fun
  | [d1, d2, d3] => { results := [.lit (.bool true)], args := [d1, d2, d3] }
  | _ => none }
def memberElectsRow : OpenClaim := { program := "ytcamikkadiiobaa", sum := "dba9fadc07051487b07980d7945e0ddd09e9d55d4de75b90e6e76ac25c6b17a5", func := "orchestrator/orchestratorlaw26.MemberElects", spec := "memberElects", inPlace := ["slices.overlaps[int]"], unfollowed := true, recurses := true, apart := false }
def MemberElectsSaid : Prop := memberElectsRow.holds Try.pinned (OpenSpec.ofChange memberElectsSpec)

/-- ITS FALSE NEIGHBOUR: 'it returns false'. Refute it at one input. -/
def memberElectsWrong : ChangeSpec := { name := "memberElects", fn := fun _ => fun
  | [d1, d2, d3] => { results := [.lit (.bool false)], args := [d1, d2, d3] }
  | _ => none }
def MemberElectsWrongFalsely : Prop := memberElectsRow.holds Try.pinned (OpenSpec.ofChange memberElectsWrong)

/- THE SECOND FORM. 'bulk': how many values and letters a reading holds, each counted each time it is reached (what is shared counts as often as it is met; a slice's spare places count too). A statement '..UptoSaid' is the law's where the arguments, and the package variables that the reading takes, are together of bulk at most 1048576: NARROWER than '..Said'. Prove '..Said' where nothing that the law and all that it calls make is longer than what came in: it says more and counts as full. Else prove '..UptoSaid'. A law counts once. -/
mutual
def uptoBulk {H : Type} : DataW H → Nat
  | .lit (.string bytes) => bytes.length + 1
  | .lit _ => 1
  | .nil => 1
  | .ptr d => uptoBulk d + 1
  | .slice elems spare => uptoBulkAll elems + uptoBulkAll spare + 1
  | .agg parts => uptoBulkAll parts + 1
  | .iface _ d => uptoBulk d + 1
  | .map entries => uptoBulkEntries entries + 1
  | .held _ => 1
def uptoBulkAll {H : Type} : List (DataW H) → Nat
  | [] => 0
  | d :: r => uptoBulk d + uptoBulkAll r
def uptoBulkEntries {H : Type} : List (Lit × DataW H) → Nat
  | [] => 0
  | x :: r => uptoBulkEntry x + uptoBulkEntries r
def uptoBulkEntry {H : Type} : Lit × DataW H → Nat
  | (.string bytes, d) => bytes.length + uptoBulk d + 1
  | (_, d) => uptoBulk d + 1
 end
def uptoSmall : (H : Type) → List (DataW H) → Bool := fun _ ds => decide (uptoBulkAll ds ≤ 1048576)
def OpenSpec.upto (s : _root_.Go.ChangeSpec) : _root_.Go.OpenSpec := { _root_.Go.OpenSpec.ofChange s with cond := some uptoSmall }

/-- 'orchestratorlaw25.RlogAppends', WHERE WHAT IT READS IS OF BULK AT MOST 1048576: true; the input reads as it did. -/
def rlogAppendsUptoRow : OpenClaim := { program := "ytcamikkadiiobaa", sum := "dba9fadc07051487b07980d7945e0ddd09e9d55d4de75b90e6e76ac25c6b17a5", func := "orchestrator/orchestratorlaw25.RlogAppends", spec := "rlogAppends", apart := false, narrowed := true }
def RlogAppendsUptoSaid : Prop := rlogAppendsUptoRow.holds Try.pinned (OpenSpec.upto rlogAppendsSpec)

/-- 'orchestratorlaw25.RlogMatching', WHERE WHAT IT READS IS OF BULK AT MOST 1048576: true; the input reads as it did. -/
def rlogMatchingUptoRow : OpenClaim := { program := "ytcamikkadiiobaa", sum := "dba9fadc07051487b07980d7945e0ddd09e9d55d4de75b90e6e76ac25c6b17a5", func := "orchestrator/orchestratorlaw25.RlogMatching", spec := "rlogMatching", apart := false, narrowed := true }
def RlogMatchingUptoSaid : Prop := rlogMatchingUptoRow.holds Try.pinned (OpenSpec.upto rlogMatchingSpec)

/-- 'orchestratorlaw25.RlogRepairs', WHERE WHAT IT READS IS OF BULK AT MOST 1048576: true; the input reads as it did. -/
def rlogRepairsUptoRow : OpenClaim := { program := "ytcamikkadiiobaa", sum := "dba9fadc07051487b07980d7945e0ddd09e9d55d4de75b90e6e76ac25c6b17a5", func := "orchestrator/orchestratorlaw25.RlogRepairs", spec := "rlogRepairs", apart := false, narrowed := true }
def RlogRepairsUptoSaid : Prop := rlogRepairsUptoRow.holds Try.pinned (OpenSpec.upto rlogRepairsSpec)

/-- 'orchestratorlaw25.RlogReads', WHERE WHAT IT READS IS OF BULK AT MOST 1048576: true; the input reads as it did. -/
def rlogReadsUptoRow : OpenClaim := { program := "ytcamikkadiiobaa", sum := "dba9fadc07051487b07980d7945e0ddd09e9d55d4de75b90e6e76ac25c6b17a5", func := "orchestrator/orchestratorlaw25.RlogReads", spec := "rlogReads", apart := false, narrowed := true }
def RlogReadsUptoSaid : Prop := rlogReadsUptoRow.holds Try.pinned (OpenSpec.upto rlogReadsSpec)

/-- 'orchestratorlaw08.DefaultsFill', WHERE WHAT IT READS IS OF BULK AT MOST 1048576: true; the input reads as it did. -/
def defaultsFillUptoRow : OpenClaim := { program := "ytcamikkadiiobaa", sum := "dba9fadc07051487b07980d7945e0ddd09e9d55d4de75b90e6e76ac25c6b17a5", func := "orchestrator/orchestratorlaw08.DefaultsFill", spec := "defaultsFill", inPlace := ["internal/bytealg.abigen_runtime_cmpstring"], unfollowed := true, recurses := true, loops := true, apart := false, narrowed := true }
def DefaultsFillUptoSaid : Prop := defaultsFillUptoRow.holds Try.pinned (OpenSpec.upto defaultsFillSpec)

/-- 'orchestratorlaw08.DefaultsPrune', WHERE WHAT IT READS IS OF BULK AT MOST 1048576: true; the input reads as it did. -/
def defaultsPruneUptoRow : OpenClaim := { program := "ytcamikkadiiobaa", sum := "dba9fadc07051487b07980d7945e0ddd09e9d55d4de75b90e6e76ac25c6b17a5", func := "orchestrator/orchestratorlaw08.DefaultsPrune", spec := "defaultsPrune", inPlace := ["internal/bytealg.abigen_runtime_cmpstring"], unfollowed := true, recurses := true, loops := true, apart := false, narrowed := true }
def DefaultsPruneUptoSaid : Prop := defaultsPruneUptoRow.holds Try.pinned (OpenSpec.upto defaultsPruneSpec)

/-- 'orchestratorlaw08.DefaultsIdempotent', WHERE WHAT IT READS IS OF BULK AT MOST 1048576: true; the input reads as it did. -/
def defaultsIdempotentUptoRow : OpenClaim := { program := "ytcamikkadiiobaa", sum := "dba9fadc07051487b07980d7945e0ddd09e9d55d4de75b90e6e76ac25c6b17a5", func := "orchestrator/orchestratorlaw08.DefaultsIdempotent", spec := "defaultsIdempotent", inPlace := ["internal/bytealg.abigen_runtime_cmpstring"], unfollowed := true, recurses := true, loops := true, apart := false, narrowed := true }
def DefaultsIdempotentUptoSaid : Prop := defaultsIdempotentUptoRow.holds Try.pinned (OpenSpec.upto defaultsIdempotentSpec)

/-- 'orchestratorlaw26.MemberSays', WHERE WHAT IT READS IS OF BULK AT MOST 1048576: true; the input reads as it did. -/
def memberSaysUptoRow : OpenClaim := { program := "ytcamikkadiiobaa", sum := "dba9fadc07051487b07980d7945e0ddd09e9d55d4de75b90e6e76ac25c6b17a5", func := "orchestrator/orchestratorlaw26.MemberSays", spec := "memberSays", inPlace := ["slices.overlaps[int]"], unfollowed := true, recurses := true, apart := false, narrowed := true }
def MemberSaysUptoSaid : Prop := memberSaysUptoRow.holds Try.pinned (OpenSpec.upto memberSaysSpec)

/-- 'orchestratorlaw26.MemberVotes', WHERE WHAT IT READS IS OF BULK AT MOST 1048576: true; the input reads as it did. -/
def memberVotesUptoRow : OpenClaim := { program := "ytcamikkadiiobaa", sum := "dba9fadc07051487b07980d7945e0ddd09e9d55d4de75b90e6e76ac25c6b17a5", func := "orchestrator/orchestratorlaw26.MemberVotes", spec := "memberVotes", inPlace := ["slices.overlaps[int]"], unfollowed := true, recurses := true, apart := false, narrowed := true }
def MemberVotesUptoSaid : Prop := memberVotesUptoRow.holds Try.pinned (OpenSpec.upto memberVotesSpec)

/-- 'orchestratorlaw26.MemberKeeps', WHERE WHAT IT READS IS OF BULK AT MOST 1048576: true; the input reads as it did. -/
def memberKeepsUptoRow : OpenClaim := { program := "ytcamikkadiiobaa", sum := "dba9fadc07051487b07980d7945e0ddd09e9d55d4de75b90e6e76ac25c6b17a5", func := "orchestrator/orchestratorlaw26.MemberKeeps", spec := "memberKeeps", inPlace := ["slices.overlaps[int]"], unfollowed := true, recurses := true, apart := false, narrowed := true }
def MemberKeepsUptoSaid : Prop := memberKeepsUptoRow.holds Try.pinned (OpenSpec.upto memberKeepsSpec)

/-- 'orchestratorlaw26.MemberLeads', WHERE WHAT IT READS IS OF BULK AT MOST 1048576: true; the input reads as it did. -/
def memberLeadsUptoRow : OpenClaim := { program := "ytcamikkadiiobaa", sum := "dba9fadc07051487b07980d7945e0ddd09e9d55d4de75b90e6e76ac25c6b17a5", func := "orchestrator/orchestratorlaw26.MemberLeads", spec := "memberLeads", inPlace := ["slices.overlaps[int]"], unfollowed := true, recurses := true, apart := false, narrowed := true }
def MemberLeadsUptoSaid : Prop := memberLeadsUptoRow.holds Try.pinned (OpenSpec.upto memberLeadsSpec)

/-- 'orchestratorlaw26.MemberElects', WHERE WHAT IT READS IS OF BULK AT MOST 1048576: true; the input reads as it did. -/
def memberElectsUptoRow : OpenClaim := { program := "ytcamikkadiiobaa", sum := "dba9fadc07051487b07980d7945e0ddd09e9d55d4de75b90e6e76ac25c6b17a5", func := "orchestrator/orchestratorlaw26.MemberElects", spec := "memberElects", inPlace := ["slices.overlaps[int]"], unfollowed := true, recurses := true, apart := false, narrowed := true }
def MemberElectsUptoSaid : Prop := memberElectsUptoRow.holds Try.pinned (OpenSpec.upto memberElectsSpec)

end Rows
end Go.Proofs.Ytcamikkadiiobaa
