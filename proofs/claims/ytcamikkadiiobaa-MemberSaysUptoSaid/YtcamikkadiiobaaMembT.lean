import Derived.Test.YtcamikkadiiobaaCtC
import Derived.Test.YtcamikkadiiobaaCtIns
import Derived.Test.YtcamikkadiiobaaRows
set_option linter.unusedVariables false
set_option linter.unusedSimpArgs false
namespace Go.CT.Memb
open Go.Proofs
/-- orchestrator/orchestratorlaw26.MemberSays [.data 63, .data 64] → [.whole 4] -/
def f_law26_MemberSays : Nat := 0
/-- orchestrator/orchestratorlaw26.few [.data 64] → [.whole 4] -/
def f_law26_few : Nat := 1
/-- orchestrator/orchestratorlaw26.lives [] → [.whole 4] -/
def f_law26_lives : Nat := 2
/-- orchestrator/member.New [.data 3, .data 3, .data 3] → [.cells 68 [false, false, false, false, false, false, false, false, true, true, true, false, false, false, false, true, false], .whole 69] -/
def f_member_New : Nat := 3
/-- orchestrator/rlog.New [] → [.cells 24 [false, false, true]] -/
def f_rlog_New : Nat := 4
/-- orchestrator/member.Tick [.data 68] → [.cells 68 [false, false, false, false, false, false, false, false, true, true, true, false, false, false, false, true, false], .cells 77 [true]] -/
def f_member_Tick : Nat := 5
/-- orchestrator/member.copied [.data 68] → [.cells 68 [false, false, false, false, false, false, false, false, true, true, true, false, false, false, false, true, false]] -/
def f_member_copied : Nat := 6
/-- slices.Clone[[]int,int] [.data 66] → [.cells 66 [true]] -/
def f_slices_Clone : Nat := 7
/-- slices.Clone[[]orchestrator/api.Entry,orchestrator/api.Entry] [.data 22] → [.cells 22 [true]] -/
def f_slices_Clone_v2 : Nat := 8
/-- (*orchestrator/member.node).broadcast [.box 120 [false, false, false, false, false, false, false, false, true, true, true, false, false, false, false, true, false, true]] → [] -/
def f_member_node_broadcast : Nat := 9
/-- (*orchestrator/member.node).appendTo [.box 120 [false, false, false, false, false, false, false, false, true, true, true, false, false, false, false, true, false, true], .data 3] → [] -/
def f_member_node_appendTo : Nat := 10
/-- (*orchestrator/member.node).send [.box 120 [false, false, false, false, false, false, false, false, true, true, true, false, false, false, false, true, false, true], .data 3, .data 74] → [] -/
def f_member_node_send : Nat := 11
/-- orchestrator/rlog.TermAt [.data 24, .data 3] → [.whole 3, .whole 4] -/
def f_rlog_TermAt : Nat := 12
/-- orchestrator/rlog.Last [.data 24] → [.whole 3, .whole 3] -/
def f_rlog_Last : Nat := 13
/-- orchestrator/rlog.From [.data 24, .data 3, .data 3] → [.cells 22 [true], .whole 4] -/
def f_rlog_From : Nat := 14
/-- (*orchestrator/member.node).elect [.box 120 [false, false, false, false, false, false, false, false, true, true, true, false, false, false, false, true, false, true]] → [] -/
def f_member_node_elect : Nat := 15
/-- (*orchestrator/member.node).lead [.box 120 [false, false, false, false, false, false, false, false, true, true, true, false, false, false, false, true, false, true]] → [] -/
def f_member_node_lead : Nat := 16
/-- (*orchestrator/member.node).last [.rd 120] → [.whole 3] -/
def f_member_node_last : Nat := 17
/-- (*orchestrator/member.node).add [.box 120 [false, false, false, false, false, false, false, false, true, true, true, false, false, false, false, true, false, true], .data 9] → [] -/
def f_member_node_add : Nat := 18
/-- (*orchestrator/member.node).own [.box 120 [false, false, false, false, false, false, false, false, true, true, true, false, false, false, false, true, false, true]] → [] -/
def f_member_node_own : Nat := 19
/-- (*orchestrator/member.node).advance [.box 120 [false, false, false, false, false, false, false, false, true, true, true, false, false, false, false, true, false, true]] → [] -/
def f_member_node_advance : Nat := 20
/-- (*orchestrator/member.node).majority [.rd 120, .data 3] → [.whole 4] -/
def f_member_node_majority : Nat := 21
/-- (*orchestrator/member.node).commitTo [.box 120 [false, false, false, false, false, false, false, false, true, true, true, false, false, false, false, true, false, true], .data 3] → [] -/
def f_member_node_commitTo : Nat := 22
/-- orchestrator/member.Handle [.data 68, .data 74] → [.cells 68 [false, false, false, false, false, false, false, false, true, true, true, false, false, false, false, true, false], .cells 77 [true]] -/
def f_member_Handle : Nat := 23
/-- (*orchestrator/member.node).ignored [.rd 120, .data 74] → [.whole 4] -/
def f_member_node_ignored : Nat := 24
/-- slices.ContainsFunc[[]orchestrator/api.Entry,orchestrator/api.Entry] [.data 22, .fn 133 [74]] → [.whole 4] -/
def f_slices_ContainsFunc : Nat := 25
/-- slices.IndexFunc[[]orchestrator/api.Entry,orchestrator/api.Entry] [.data 22, .fn 133 [74]] → [.whole 3] -/
def f_slices_IndexFunc : Nat := 26
/-- (*orchestrator/member.node).ignored$1 [.data 40, .rd 74] → [.whole 4] -/
def f_member_node_ignored_1 : Nat := 27
/-- (*orchestrator/member.node).stale [.box 120 [false, false, false, false, false, false, false, false, true, true, true, false, false, false, false, true, false, true], .data 74] → [] -/
def f_member_node_stale : Nat := 28
/-- (*orchestrator/member.node).vote [.box 120 [false, false, false, false, false, false, false, false, true, true, true, false, false, false, false, true, false, true], .data 74] → [] -/
def f_member_node_vote : Nat := 29
/-- orchestrator/rlog.Newer [.data 3, .data 3, .data 3, .data 3] → [.whole 4] -/
def f_rlog_Newer : Nat := 30
/-- (*orchestrator/member.node).voted [.box 120 [false, false, false, false, false, false, false, false, true, true, true, false, false, false, false, true, false, true], .data 74] → [] -/
def f_member_node_voted : Nat := 31
/-- slices.BinarySearch[[]int,int] [.data 66, .data 3] → [.whole 3, .whole 4] -/
def f_slices_BinarySearch : Nat := 32
/-- cmp.Less[int] [.data 3, .data 3] → [.whole 4] -/
def f_cmp_Less : Nat := 33
/-- cmp.isNaN[int] [.data 3] → [.whole 4] -/
def f_cmp_isNaN : Nat := 34
/-- slices.isNaN[int] [.data 3] → [.whole 4] -/
def f_slices_isNaN : Nat := 35
/-- slices.Insert[[]int,int] [.own 66, .data 3, .own 66] → [.cells 66 [true]] -/
def f_slices_Insert : Nat := 36
/-- (*orchestrator/member.node).entries [.box 120 [false, false, false, false, false, false, false, false, true, true, true, false, false, false, false, true, false, true], .data 74] → [] -/
def f_member_node_entries : Nat := 37
/-- (*orchestrator/member.node).contradicts [.rd 120, .data 74] → [.whole 4] -/
def f_member_node_contradicts : Nat := 38
/-- (*orchestrator/member.node).follow [.box 120 [false, false, false, false, false, false, false, false, true, true, true, false, false, false, false, true, false, true], .data 3] → [] -/
def f_member_node_follow : Nat := 39
/-- orchestrator/rlog.Append [.data 24, .data 3, .data 3, .data 22] → [.cells 24 [false, false, true], .whole 3, .whole 4] -/
def f_rlog_Append : Nat := 40
/-- orchestrator/rlog.rises [.data 22, .data 3] → [.whole 4] -/
def f_rlog_rises : Nat := 41
/-- orchestrator/rlog.clone [.data 24] → [.cells 24 [false, false, true]] -/
def f_rlog_clone : Nat := 42
/-- orchestrator/rlog.hint [.data 24, .data 3, .data 3] → [.whole 3] -/
def f_rlog_hint : Nat := 43
/-- (*orchestrator/member.node).appended [.box 120 [false, false, false, false, false, false, false, false, true, true, true, false, false, false, false, true, false, true], .data 74] → [] -/
def f_member_node_appended : Nat := 44
/-- (*orchestrator/member.node).snapshot [.box 120 [false, false, false, false, false, false, false, false, true, true, true, false, false, false, false, true, false, true], .data 74] → [] -/
def f_member_node_snapshot : Nat := 45
/-- orchestrator/rlog.Compact [.data 24, .data 3] → [.cells 24 [false, false, true], .whole 69] -/
def f_rlog_Compact : Nat := 46
/-- orchestrator/member.Compact [.data 68, .data 3, .data 9] → [.cells 68 [false, false, false, false, false, false, false, false, true, true, true, false, false, false, false, true, false], .whole 69] -/
def f_member_Compact : Nat := 47
/-- orchestrator/member.Restart [.data 68] → [.cells 68 [false, false, false, false, false, false, false, false, true, true, true, false, false, false, false, true, false]] -/
def f_member_Restart : Nat := 48
/-- orchestrator/member.Propose [.data 68, .data 9] → [.cells 68 [false, false, false, false, false, false, false, false, true, true, true, false, false, false, false, true, false], .cells 77 [true], .whole 69] -/
def f_member_Propose : Nat := 49
/-- orchestrator/orchestratorref26.New [.data 3, .data 3, .data 3] → [.cells 68 [false, false, false, false, false, false, false, false, true, true, true, false, false, false, false, true, false], .whole 69] -/
def f_ref26_New : Nat := 50
/-- orchestrator/orchestratorref26.Same [.data 68, .data 68] → [.whole 4] -/
def f_ref26_Same : Nat := 51
/-- orchestrator/orchestratorref26.ints [.data 66, .data 66] → [.whole 4] -/
def f_ref26_ints : Nat := 52
/-- orchestrator/orchestratorref25.Same [.data 24, .data 24] → [.whole 4] -/
def f_ref25_Same : Nat := 53
/-- orchestrator/orchestratorref25.Entries [.data 22, .data 22] → [.whole 4] -/
def f_ref25_Entries : Nat := 54
/-- orchestrator/orchestratorlaw26.do [.data 68, .data 76] → [.cells 68 [false, false, false, false, false, false, false, false, true, true, true, false, false, false, false, true, false], .cells 77 [true], .whole 69] -/
def f_law26_do : Nat := 55
/-- orchestrator/orchestratorref26.Do [.data 68, .data 76] → [.whole 68, .cells 77 [true], .whole 69] -/
def f_ref26_Do : Nat := 56
/-- orchestrator/orchestratorref26.Tick [.data 68] → [.whole 68, .cells 77 [true]] -/
def f_ref26_Tick : Nat := 57
/-- orchestrator/orchestratorref26.all [.data 68] → [.cells 77 [true]] -/
def f_ref26_all : Nat := 58
/-- orchestrator/orchestratorref26.appendTo [.data 68, .data 3] → [.whole 74] -/
def f_ref26_appendTo : Nat := 59
/-- orchestrator/orchestratorref26.message [.data 68, .data 3, .data 3] → [.cells 74 [false, false, false, false, false, false, false, false, true, false]] -/
def f_ref26_message : Nat := 60
/-- orchestrator/orchestratorref25.TermAt [.data 24, .data 3] → [.whole 3, .whole 4] -/
def f_ref25_TermAt : Nat := 61
/-- orchestrator/orchestratorref25.From [.data 24, .data 3, .data 3] → [.whole 22, .whole 4] -/
def f_ref25_From : Nat := 62
/-- orchestrator/orchestratorref26.lead [.data 68] → [.whole 68, .cells 77 [true]] -/
def f_ref26_lead : Nat := 63
/-- orchestrator/orchestratorref25.Last [.data 24] → [.whole 3, .whole 3] -/
def f_ref25_Last : Nat := 64
/-- orchestrator/orchestratorref26.write [.data 68, .data 9] → [.whole 68] -/
def f_ref26_write : Nat := 65
/-- orchestrator/orchestratorref26.own [.data 68] → [.whole 68] -/
def f_ref26_own : Nat := 66
/-- orchestrator/orchestratorref26.set [.data 66, .data 3, .data 3] → [.cells 66 [true]] -/
def f_ref26_set : Nat := 67
/-- orchestrator/orchestratorref26.advance [.data 68] → [.whole 68] -/
def f_ref26_advance : Nat := 68
/-- orchestrator/orchestratorref26.agree [.data 68, .data 3] → [.whole 3] -/
def f_ref26_agree : Nat := 69
/-- orchestrator/orchestratorref26.Handle [.data 68, .data 74] → [.whole 68, .cells 77 [true]] -/
def f_ref26_Handle : Nat := 70
/-- orchestrator/orchestratorref26.ignored [.data 68, .data 74] → [.whole 4] -/
def f_ref26_ignored : Nat := 71
/-- orchestrator/orchestratorref26.stale [.data 68, .data 74] → [.cells 77 [true]] -/
def f_ref26_stale : Nat := 72
/-- orchestrator/orchestratorref26.reply [.data 68, .data 3, .data 3, .data 4, .data 3] → [.cells 77 [true]] -/
def f_ref26_reply : Nat := 73
/-- orchestrator/orchestratorref26.vote [.data 68, .data 74] → [.whole 68, .cells 77 [true]] -/
def f_ref26_vote : Nat := 74
/-- orchestrator/orchestratorref25.Newer [.data 3, .data 3, .data 3, .data 3] → [.whole 4] -/
def f_ref25_Newer : Nat := 75
/-- orchestrator/orchestratorref26.voted [.data 68, .data 74] → [.whole 68, .cells 77 [true]] -/
def f_ref26_voted : Nat := 76
/-- orchestrator/orchestratorref26.put [.data 66, .data 3] → [.whole 66] -/
def f_ref26_put : Nat := 77
/-- orchestrator/orchestratorref26.appended [.data 68, .data 74] → [.whole 68, .cells 77 [true]] -/
def f_ref26_appended : Nat := 78
/-- orchestrator/orchestratorref26.conflicts [.data 68, .data 74] → [.whole 4] -/
def f_ref26_conflicts : Nat := 79
/-- orchestrator/orchestratorref26.follow [.data 68, .data 3] → [.cells 68 [false, false, false, false, false, false, false, false, true, false, false, false, false, false, false, false, false]] -/
def f_ref26_follow : Nat := 80
/-- orchestrator/orchestratorref25.Append [.data 24, .data 3, .data 3, .data 22] → [.whole 24, .whole 3, .whole 4] -/
def f_ref25_Append : Nat := 81
/-- orchestrator/orchestratorref25.rises [.data 22, .data 3] → [.whole 4] -/
def f_ref25_rises : Nat := 82
/-- orchestrator/orchestratorref25.hint [.data 24, .data 3, .data 3] → [.whole 3] -/
def f_ref25_hint : Nat := 83
/-- orchestrator/orchestratorref26.acknowledged [.data 68, .data 74] → [.whole 68, .cells 77 [true]] -/
def f_ref26_acknowledged : Nat := 84
/-- orchestrator/orchestratorref26.installed [.data 68, .data 74] → [.whole 68, .cells 77 [true]] -/
def f_ref26_installed : Nat := 85
/-- orchestrator/orchestratorref25.Compact [.data 24, .data 3] → [.whole 24, .whole 69] -/
def f_ref25_Compact : Nat := 86
/-- orchestrator/orchestratorref26.Propose [.data 68, .data 9] → [.whole 68, .cells 77 [true], .whole 69] -/
def f_ref26_Propose : Nat := 87
/-- orchestrator/orchestratorref26.Compact [.data 68, .data 3, .data 9] → [.whole 68, .whole 69] -/
def f_ref26_Compact : Nat := 88
/-- orchestrator/orchestratorref26.Restart [.data 68] → [.cells 68 [false, false, false, false, false, false, false, false, true, true, true, false, false, false, false, false, false]] -/
def f_ref26_Restart : Nat := 89
/-- orchestrator/orchestratorref26.SameMessages [.data 77, .data 77] → [.whole 4] -/
def f_ref26_SameMessages : Nat := 90
/-- orchestrator/orchestratorlaw26.MemberVotes [.data 63, .data 64] → [.whole 4] -/
def f_law26_MemberVotes : Nat := 91
/-- orchestrator/orchestratorlaw26.MemberKeeps [.data 63, .data 64] → [.whole 4] -/
def f_law26_MemberKeeps : Nat := 92
/-- orchestrator/orchestratorref25.Valid [.data 24] → [.whole 4] -/
def f_ref25_Valid : Nat := 93
/-- orchestrator/orchestratorlaw26.MemberLeads [.data 63, .data 64] → [.whole 4] -/
def f_law26_MemberLeads : Nat := 94
/-- orchestrator/orchestratorlaw26.MemberElects [.data 63, .data 84, .data 74] → [.whole 4] -/
def f_law26_MemberElects : Nat := 95
def specs : List (Nat × Spec) := [
  (0, ⟨10, [.data 63, .data 64], [.whole 4], false⟩),
  (1, ⟨42, [.data 64], [.whole 4], false⟩),
  (2, ⟨43, [], [.whole 4], false⟩),
  (3, ⟨44, [.data 3, .data 3, .data 3], [.cells 68 [false, false, false, false, false, false, false, false, true, true, true, false, false, false, false, true, false], .whole 69], false⟩),
  (4, ⟨21, [], [.cells 24 [false, false, true]], false⟩),
  (5, ⟨50, [.data 68], [.cells 68 [false, false, false, false, false, false, false, false, true, true, true, false, false, false, false, true, false], .cells 77 [true]], true⟩),
  (6, ⟨88, [.data 68], [.cells 68 [false, false, false, false, false, false, false, false, true, true, true, false, false, false, false, true, false]], false⟩),
  (7, ⟨128, [.data 66], [.cells 66 [true]], false⟩),
  (8, ⟨59, [.data 22], [.cells 22 [true]], false⟩),
  (9, ⟨89, [.box 120 [false, false, false, false, false, false, false, false, true, true, true, false, false, false, false, true, false, true]], [], false⟩),
  (10, ⟨129, [.box 120 [false, false, false, false, false, false, false, false, true, true, true, false, false, false, false, true, false, true], .data 3], [], false⟩),
  (11, ⟨131, [.box 120 [false, false, false, false, false, false, false, false, true, true, true, false, false, false, false, true, false, true], .data 3, .data 74], [], false⟩),
  (12, ⟨23, [.data 24, .data 3], [.whole 3, .whole 4], false⟩),
  (13, ⟨22, [.data 24], [.whole 3, .whole 3], false⟩),
  (14, ⟨24, [.data 24, .data 3, .data 3], [.cells 22 [true], .whole 4], false⟩),
  (15, ⟨90, [.box 120 [false, false, false, false, false, false, false, false, true, true, true, false, false, false, false, true, false, true]], [], false⟩),
  (16, ⟨130, [.box 120 [false, false, false, false, false, false, false, false, true, true, true, false, false, false, false, true, false, true]], [], false⟩),
  (17, ⟨140, [.rd 120], [.whole 3], false⟩),
  (18, ⟨113, [.box 120 [false, false, false, false, false, false, false, false, true, true, true, false, false, false, false, true, false, true], .data 9], [], false⟩),
  (19, ⟨114, [.box 120 [false, false, false, false, false, false, false, false, true, true, true, false, false, false, false, true, false, true]], [], false⟩),
  (20, ⟨115, [.box 120 [false, false, false, false, false, false, false, false, true, true, true, false, false, false, false, true, false, true]], [], false⟩),
  (21, ⟨136, [.rd 120, .data 3], [.whole 4], false⟩),
  (22, ⟨139, [.box 120 [false, false, false, false, false, false, false, false, true, true, true, false, false, false, false, true, false, true], .data 3], [], false⟩),
  (23, ⟨51, [.data 68, .data 74], [.cells 68 [false, false, false, false, false, false, false, false, true, true, true, false, false, false, false, true, false], .cells 77 [true]], true⟩),
  (24, ⟨91, [.rd 120, .data 74], [.whole 4], false⟩),
  (25, ⟨132, [.data 22, .fn 133 [74]], [.whole 4], false⟩),
  (26, ⟨160, [.data 22, .fn 133 [74]], [.whole 3], false⟩),
  (27, ⟨133, [.data 40, .rd 74], [.whole 4], false⟩),
  (28, ⟨92, [.box 120 [false, false, false, false, false, false, false, false, true, true, true, false, false, false, false, true, false, true], .data 74], [], false⟩),
  (29, ⟨93, [.box 120 [false, false, false, false, false, false, false, false, true, true, true, false, false, false, false, true, false, true], .data 74], [], false⟩),
  (30, ⟨27, [.data 3, .data 3, .data 3, .data 3], [.whole 4], false⟩),
  (31, ⟨94, [.box 120 [false, false, false, false, false, false, false, false, true, true, true, false, false, false, false, true, false, true], .data 74], [], false⟩),
  (32, ⟨134, [.data 66, .data 3], [.whole 3, .whole 4], false⟩),
  (33, ⟨161, [.data 3, .data 3], [.whole 4], false⟩),
  (34, ⟨173, [.data 3], [.whole 4], false⟩),
  (35, ⟨162, [.data 3], [.whole 4], false⟩),
  (36, ⟨135, [.own 66, .data 3, .own 66], [.cells 66 [true]], false⟩),
  (37, ⟨95, [.box 120 [false, false, false, false, false, false, false, false, true, true, true, false, false, false, false, true, false, true], .data 74], [], false⟩),
  (38, ⟨137, [.rd 120, .data 74], [.whole 4], false⟩),
  (39, ⟨138, [.box 120 [false, false, false, false, false, false, false, false, true, true, true, false, false, false, false, true, false, true], .data 3], [], false⟩),
  (40, ⟨17, [.data 24, .data 3, .data 3, .data 22], [.cells 24 [false, false, true], .whole 3, .whole 4], false⟩),
  (41, ⟨55, [.data 22, .data 3], [.whole 4], false⟩),
  (42, ⟨56, [.data 24], [.cells 24 [false, false, true]], false⟩),
  (43, ⟨57, [.data 24, .data 3, .data 3], [.whole 3], false⟩),
  (44, ⟨96, [.box 120 [false, false, false, false, false, false, false, false, true, true, true, false, false, false, false, true, false, true], .data 74], [], false⟩),
  (45, ⟨97, [.box 120 [false, false, false, false, false, false, false, false, true, true, true, false, false, false, false, true, false, true], .data 74], [], false⟩),
  (46, ⟨54, [.data 24, .data 3], [.cells 24 [false, false, true], .whole 69], false⟩),
  (47, ⟨80, [.data 68, .data 3, .data 9], [.cells 68 [false, false, false, false, false, false, false, false, true, true, true, false, false, false, false, true, false], .whole 69], false⟩),
  (48, ⟨52, [.data 68], [.cells 68 [false, false, false, false, false, false, false, false, true, true, true, false, false, false, false, true, false]], false⟩),
  (49, ⟨81, [.data 68, .data 9], [.cells 68 [false, false, false, false, false, false, false, false, true, true, true, false, false, false, false, true, false], .cells 77 [true], .whole 69], true⟩),
  (50, ⟨45, [.data 3, .data 3, .data 3], [.cells 68 [false, false, false, false, false, false, false, false, true, true, true, false, false, false, false, true, false], .whole 69], false⟩),
  (51, ⟨46, [.data 68, .data 68], [.whole 4], false⟩),
  (52, ⟨82, [.data 66, .data 66], [.whole 4], false⟩),
  (53, ⟨19, [.data 24, .data 24], [.whole 4], false⟩),
  (54, ⟨32, [.data 22, .data 22], [.whole 4], false⟩),
  (55, ⟨47, [.data 68, .data 76], [.cells 68 [false, false, false, false, false, false, false, false, true, true, true, false, false, false, false, true, false], .cells 77 [true], .whole 69], true⟩),
  (56, ⟨48, [.data 68, .data 76], [.whole 68, .cells 77 [true], .whole 69], true⟩),
  (57, ⟨83, [.data 68], [.whole 68, .cells 77 [true]], true⟩),
  (58, ⟨116, [.data 68], [.cells 77 [true]], true⟩),
  (59, ⟨152, [.data 68, .data 3], [.whole 74], true⟩),
  (60, ⟨118, [.data 68, .data 3, .data 3], [.cells 74 [false, false, false, false, false, false, false, false, true, false]], false⟩),
  (61, ⟨30, [.data 24, .data 3], [.whole 3, .whole 4], false⟩),
  (62, ⟨31, [.data 24, .data 3, .data 3], [.whole 22, .whole 4], true⟩),
  (63, ⟨117, [.data 68], [.whole 68, .cells 77 [true]], true⟩),
  (64, ⟨29, [.data 24], [.whole 3, .whole 3], false⟩),
  (65, ⟨126, [.data 68, .data 9], [.whole 68], true⟩),
  (66, ⟨153, [.data 68], [.whole 68], true⟩),
  (67, ⟨158, [.data 66, .data 3, .data 3], [.cells 66 [true]], false⟩),
  (68, ⟨159, [.data 68], [.whole 68], true⟩),
  (69, ⟨172, [.data 68, .data 3], [.whole 3], false⟩),
  (70, ⟨84, [.data 68, .data 74], [.whole 68, .cells 77 [true]], true⟩),
  (71, ⟨119, [.data 68, .data 74], [.whole 4], false⟩),
  (72, ⟨120, [.data 68, .data 74], [.cells 77 [true]], true⟩),
  (73, ⟨154, [.data 68, .data 3, .data 3, .data 4, .data 3], [.cells 77 [true]], true⟩),
  (74, ⟨121, [.data 68, .data 74], [.whole 68, .cells 77 [true]], true⟩),
  (75, ⟨28, [.data 3, .data 3, .data 3, .data 3], [.whole 4], false⟩),
  (76, ⟨122, [.data 68, .data 74], [.whole 68, .cells 77 [true]], true⟩),
  (77, ⟨155, [.data 66, .data 3], [.whole 66], true⟩),
  (78, ⟨123, [.data 68, .data 74], [.whole 68, .cells 77 [true]], true⟩),
  (79, ⟨156, [.data 68, .data 74], [.whole 4], false⟩),
  (80, ⟨157, [.data 68, .data 3], [.cells 68 [false, false, false, false, false, false, false, false, true, false, false, false, false, false, false, false, false]], true⟩),
  (81, ⟨18, [.data 24, .data 3, .data 3, .data 22], [.whole 24, .whole 3, .whole 4], true⟩),
  (82, ⟨53, [.data 22, .data 3], [.whole 4], false⟩),
  (83, ⟨58, [.data 24, .data 3, .data 3], [.whole 3], false⟩),
  (84, ⟨124, [.data 68, .data 74], [.whole 68, .cells 77 [true]], true⟩),
  (85, ⟨125, [.data 68, .data 74], [.whole 68, .cells 77 [true]], true⟩),
  (86, ⟨127, [.data 24, .data 3], [.whole 24, .whole 69], true⟩),
  (87, ⟨85, [.data 68, .data 9], [.whole 68, .cells 77 [true], .whole 69], true⟩),
  (88, ⟨86, [.data 68, .data 3, .data 9], [.whole 68, .whole 69], true⟩),
  (89, ⟨87, [.data 68], [.cells 68 [false, false, false, false, false, false, false, false, true, true, true, false, false, false, false, false, false]], true⟩),
  (90, ⟨49, [.data 77, .data 77], [.whole 4], false⟩),
  (91, ⟨11, [.data 63, .data 64], [.whole 4], false⟩),
  (92, ⟨12, [.data 63, .data 64], [.whole 4], false⟩),
  (93, ⟨15, [.data 24], [.whole 4], false⟩),
  (94, ⟨13, [.data 63, .data 64], [.whole 4], false⟩),
  (95, ⟨14, [.data 63, .data 84, .data 74], [.whole 4], false⟩)]
def b0 : List Blk := [
  ⟨[(0, 0, [false, false, true, false, true, true, true, true, true, true]), (2, 0, [false, false, true, false, true, true, true, true, true, true]), (1, 0, []), (0, 0, [true, true, true, true, true, true, true])], ⟨21, 6, [(5, ⟨[], .one (.leaf (.ptr (.p 0 0)))⟩), (7, ⟨[], .one (.leaf (.ptr (.p 1 0)))⟩), (53, ⟨[], .one (.leaf (.at (.v 0) 64))⟩), (54, ⟨[], .one (.leaf (.at (.v 1) 3))⟩), (55, ⟨[], .one (.leaf (.at (.v 2) 3))⟩)], [(0, .box 68 (.agg 68 [.at (.v 3) 3, .at (.v 4) 3, .at (.v 5) 3, .at (.v 6) 3, .at (.v 7) 3, .at (.v 8) 3, .at (.v 9) 3, .at (.v 10) 3, .ref 2 66, .ref 3 66, .ref 4 66, .at (.v 11) 3, .at (.v 12) 3, .at (.v 13) 3, .at (.v 14) 3, .ref 5 22, .at (.v 15) 9])), (1, .box 68 (.leaf (.at (.v 16) 68))), (2, .arr 3 66 (.v 17)), (3, .arr 3 66 (.v 18)), (4, .arr 3 66 (.v 19)), (5, .arr 40 22 (.v 20))]⟩⟩]
def b1 : List Blk := [
  ⟨[(0, 0, [false, false, true, false, true, true]), (2, 0, [false, false, true, false, true, true]), (1, 0, []), (0, 0, [true, true, true])], ⟨3, 0, [(10, ⟨[], .one (.leaf (.at (.v 0) 64))⟩), (11, ⟨[], .one (.leaf (.at (.v 1) 3))⟩), (12, ⟨[], .one (.leaf (.at (.v 2) 3))⟩)], []⟩⟩,
  ⟨[(0, 0, [false, false, true, true, true, false, false, true, true, false, false, true, false, true, true]), (2, 0, [false, false, true, true, true, false, false, true, true, false, false, true, false, true, true]), (1, 2, []), (1, 1, []), (0, 0, [true, true, true, false, false, true, false, true, true]), (2, 0, [false, false, true, false, true, true]), (1, 0, []), (0, 0, [true, true, true])], ⟨6, 0, [(10, ⟨[], .one (.leaf (.at (.v 0) 64))⟩), (11, ⟨[], .one (.leaf (.at (.v 1) 3))⟩), (12, ⟨[], .one (.leaf (.at (.v 2) 3))⟩), (48, ⟨[], .one (.leaf (.at (.v 3) 22))⟩), (49, ⟨[], .one (.leaf (.at (.v 4) 3))⟩), (50, ⟨[], .one (.leaf (.at (.v 5) 3))⟩)], []⟩⟩]
def b5 : List Blk := [
  ⟨[(0, 0, [true, true, true, true, true])], ⟨31, 7, [(2, ⟨[], .one (.leaf (.ptr (.p 0 0)))⟩), (4, ⟨[], .one (.leaf (.ptr (.p 1 0)))⟩)], [(0, .box 68 (.agg 68 [.at (.v 0) 3, .at (.v 1) 3, .at (.v 2) 3, .at (.v 3) 3, .at (.v 4) 3, .at (.v 5) 3, .at (.v 6) 3, .at (.v 7) 3, .nil 66, .nil 66, .nil 66, .at (.v 8) 3, .at (.v 9) 3, .at (.v 10) 3, .at (.v 11) 3, .nil 22, .at (.v 12) 9])), (1, .box 120 (.agg 120 [.at (.v 13) 3, .at (.v 14) 3, .at (.v 15) 3, .at (.v 16) 3, .at (.v 17) 3, .at (.v 18) 3, .at (.v 19) 3, .at (.v 20) 3, .ref 2 66, .ref 3 66, .ref 4 66, .at (.v 21) 3, .at (.v 22) 3, .at (.v 23) 3, .at (.v 24) 3, .ref 5 22, .at (.v 25) 9, .ref 6 77])), (2, .arr 3 66 (.v 26)), (3, .arr 3 66 (.v 27)), (4, .arr 3 66 (.v 28)), (5, .arr 40 22 (.v 29)), (6, .arr 74 77 (.v 30))]⟩⟩]
def b9 : List Blk := [
  ⟨[(0, 0, [false, false, true]), (2, 0, [false, false, true]), (1, 0, [])], ⟨20, 11, [(0, ⟨[], .one (.leaf (.ptr (.p 5 0)))⟩), (7, ⟨[], .one (.leaf (.at (.v 0) 3))⟩), (8, ⟨[], .one (.leaf (.at (.v 1) 3))⟩)], [(5, .box 120 (.agg 120 [.at (.v 2) 3, .at (.v 3) 3, .at (.v 4) 3, .at (.v 5) 3, .at (.v 6) 3, .at (.v 7) 3, .at (.v 8) 3, .at (.v 9) 3, .ref 6 66, .ref 7 66, .ref 8 66, .at (.v 10) 3, .at (.v 11) 3, .at (.v 12) 3, .at (.v 13) 3, .ref 9 22, .at (.v 14) 9, .ref 10 77])), (6, .arr 3 66 (.v 15)), (7, .arr 3 66 (.v 16)), (8, .arr 3 66 (.v 17)), (9, .arr 40 22 (.v 18)), (10, .arr 74 77 (.v 19))]⟩⟩,
  ⟨[(1, 1, []), (0, 0, [true, true, true, false, false, true]), (2, 0, [false, false, true]), (1, 0, [])], ⟨20, 11, [(0, ⟨[], .one (.leaf (.ptr (.p 5 0)))⟩), (7, ⟨[], .one (.leaf (.at (.v 0) 3))⟩), (8, ⟨[], .one (.leaf (.at (.v 1) 3))⟩)], [(5, .box 120 (.agg 120 [.at (.v 2) 3, .at (.v 3) 3, .at (.v 4) 3, .at (.v 5) 3, .at (.v 6) 3, .at (.v 7) 3, .at (.v 8) 3, .at (.v 9) 3, .ref 6 66, .ref 7 66, .ref 8 66, .at (.v 10) 3, .at (.v 11) 3, .at (.v 12) 3, .at (.v 13) 3, .ref 9 22, .at (.v 14) 9, .ref 10 77])), (6, .arr 3 66 (.v 15)), (7, .arr 3 66 (.v 16)), (8, .arr 3 66 (.v 17)), (9, .arr 40 22 (.v 18)), (10, .arr 74 77 (.v 19))]⟩⟩]
def b15 : List Blk := [
  ⟨[(0, 0, [false, false, true, true, true, true, true]), (2, 0, [false, false, true, true, true, true, true]), (1, 0, [])], ⟨22, 11, [(0, ⟨[], .one (.leaf (.ptr (.p 5 0)))⟩), (2, ⟨[], .one (.leaf (.at (.v 0) 3))⟩), (3, ⟨[], .one (.leaf (.at (.v 1) 3))⟩), (66, ⟨[], .one (.leaf (.at (.v 2) 3))⟩), (67, ⟨[], .one (.leaf (.at (.v 3) 3))⟩)], [(5, .box 120 (.agg 120 [.at (.v 4) 3, .at (.v 5) 3, .at (.v 6) 3, .at (.v 7) 3, .at (.v 8) 3, .at (.v 9) 3, .at (.v 10) 3, .at (.v 11) 3, .ref 6 66, .ref 7 66, .ref 8 66, .at (.v 12) 3, .at (.v 13) 3, .at (.v 14) 3, .at (.v 15) 3, .ref 9 22, .at (.v 16) 9, .ref 10 77])), (6, .arr 3 66 (.v 17)), (7, .arr 3 66 (.v 18)), (8, .arr 3 66 (.v 19)), (9, .arr 40 22 (.v 20)), (10, .arr 74 77 (.v 21))]⟩⟩,
  ⟨[(1, 1, []), (0, 0, [true, true, true, false, false, true, true, true, true, true]), (2, 0, [false, false, true, true, true, true, true]), (1, 0, [])], ⟨22, 11, [(0, ⟨[], .one (.leaf (.ptr (.p 5 0)))⟩), (2, ⟨[], .one (.leaf (.at (.v 0) 3))⟩), (3, ⟨[], .one (.leaf (.at (.v 1) 3))⟩), (66, ⟨[], .one (.leaf (.at (.v 2) 3))⟩), (67, ⟨[], .one (.leaf (.at (.v 3) 3))⟩)], [(5, .box 120 (.agg 120 [.at (.v 4) 3, .at (.v 5) 3, .at (.v 6) 3, .at (.v 7) 3, .at (.v 8) 3, .at (.v 9) 3, .at (.v 10) 3, .at (.v 11) 3, .ref 6 66, .ref 7 66, .ref 8 66, .at (.v 12) 3, .at (.v 13) 3, .at (.v 14) 3, .at (.v 15) 3, .ref 9 22, .at (.v 16) 9, .ref 10 77])), (6, .arr 3 66 (.v 17)), (7, .arr 3 66 (.v 18)), (8, .arr 3 66 (.v 19)), (9, .arr 40 22 (.v 20)), (10, .arr 74 77 (.v 21))]⟩⟩]
def b16 : List Blk := [
  ⟨[(0, 0, [false, false, true, false, true, true]), (2, 0, [false, false, true, false, true, true]), (1, 0, []), (0, 0, [true, true, true])], ⟨19, 10, [(0, ⟨[], .one (.leaf (.ptr (.p 5 0)))⟩), (49, ⟨[], .one (.leaf (.at (.v 0) 3))⟩), (50, ⟨[], .one (.leaf (.at (.v 1) 3))⟩)], [(5, .box 120 (.agg 120 [.at (.v 2) 3, .at (.v 3) 3, .at (.v 4) 3, .at (.v 5) 3, .at (.v 6) 3, .at (.v 7) 3, .at (.v 8) 3, .at (.v 9) 3, .nil 66, .ref 6 66, .ref 7 66, .at (.v 10) 3, .at (.v 11) 3, .at (.v 12) 3, .at (.v 13) 3, .ref 8 22, .at (.v 14) 9, .ref 9 77])), (6, .arr 3 66 (.v 15)), (7, .arr 3 66 (.v 16)), (8, .arr 40 22 (.v 17)), (9, .arr 74 77 (.v 18))]⟩⟩,
  ⟨[(0, 0, [true, true, true, true])], ⟨18, 11, [(0, ⟨[], .one (.leaf (.ptr (.p 5 0)))⟩)], [(5, .box 120 (.agg 120 [.at (.v 0) 3, .at (.v 1) 3, .at (.v 2) 3, .at (.v 3) 3, .at (.v 4) 3, .at (.v 5) 3, .at (.v 6) 3, .at (.v 7) 3, .ref 6 66, .ref 7 66, .ref 8 66, .at (.v 8) 3, .at (.v 9) 3, .at (.v 10) 3, .at (.v 11) 3, .ref 9 22, .at (.v 12) 9, .ref 10 77])), (6, .arr 3 66 (.v 13)), (7, .arr 3 66 (.v 14)), (8, .arr 3 66 (.v 15)), (9, .arr 40 22 (.v 16)), (10, .arr 74 77 (.v 17))]⟩⟩]
def b20 : List Blk := [
  ⟨[(0, 0, [false, false, true]), (2, 0, [false, false, true]), (1, 0, [])], ⟨19, 11, [(0, ⟨[], .one (.leaf (.ptr (.p 5 0)))⟩), (2, ⟨[], .one (.leaf (.at (.v 0) 3))⟩)], [(5, .box 120 (.agg 120 [.at (.v 1) 3, .at (.v 2) 3, .at (.v 3) 3, .at (.v 4) 3, .at (.v 5) 3, .at (.v 6) 3, .at (.v 7) 3, .at (.v 8) 3, .ref 6 66, .ref 7 66, .ref 8 66, .at (.v 9) 3, .at (.v 10) 3, .at (.v 11) 3, .at (.v 12) 3, .ref 9 22, .at (.v 13) 9, .ref 10 77])), (6, .arr 3 66 (.v 14)), (7, .arr 3 66 (.v 15)), (8, .arr 3 66 (.v 16)), (9, .arr 40 22 (.v 17)), (10, .arr 74 77 (.v 18))]⟩⟩,
  ⟨[(0, 0, [false, false, true, false, true, false, false, true, false, false, true]), (2, 0, [false, false, true, false, true, false, false, true, false, false, true]), (1, 2, []), (0, 0, [true, true, false, false, true, false, false, true]), (1, 1, []), (0, 0, [true, true, false, false, true]), (2, 0, [false, false, true]), (1, 0, [])], ⟨22, 11, [(0, ⟨[], .one (.leaf (.ptr (.p 5 0)))⟩), (2, ⟨[], .one (.leaf (.at (.v 0) 3))⟩), (3, ⟨[], .one (.leaf (.at (.v 1) 3))⟩), (23, ⟨[], .one (.leaf (.ref 6 66))⟩), (24, ⟨[], .one (.leaf (.at (.v 2) 3))⟩), (25, ⟨[], .one (.leaf (.at (.v 3) 3))⟩)], [(5, .box 120 (.agg 120 [.at (.v 4) 3, .at (.v 5) 3, .at (.v 6) 3, .at (.v 7) 3, .at (.v 8) 3, .at (.v 9) 3, .at (.v 10) 3, .at (.v 11) 3, .ref 7 66, .ref 8 66, .ref 6 66, .at (.v 12) 3, .at (.v 13) 3, .at (.v 14) 3, .at (.v 15) 3, .ref 9 22, .at (.v 16) 9, .ref 10 77])), (6, .arr 3 66 (.v 17)), (7, .arr 3 66 (.v 18)), (8, .arr 3 66 (.v 19)), (9, .arr 40 22 (.v 20)), (10, .arr 74 77 (.v 21))]⟩⟩,
  ⟨[(1, 3, []), (0, 0, [true, true, true, false, false, true, false, true, false, false, true, false, false, true]), (2, 0, [false, false, true, false, true, false, false, true, false, false, true]), (1, 2, []), (0, 0, [true, true, false, false, true, false, false, true]), (1, 1, []), (0, 0, [true, true, false, false, true]), (2, 0, [false, false, true]), (1, 0, [])], ⟨22, 11, [(0, ⟨[], .one (.leaf (.ptr (.p 5 0)))⟩), (2, ⟨[], .one (.leaf (.at (.v 0) 3))⟩), (3, ⟨[], .one (.leaf (.at (.v 1) 3))⟩), (23, ⟨[], .one (.leaf (.ref 6 66))⟩), (24, ⟨[], .one (.leaf (.at (.v 2) 3))⟩), (25, ⟨[], .one (.leaf (.at (.v 3) 3))⟩)], [(5, .box 120 (.agg 120 [.at (.v 4) 3, .at (.v 5) 3, .at (.v 6) 3, .at (.v 7) 3, .at (.v 8) 3, .at (.v 9) 3, .at (.v 10) 3, .at (.v 11) 3, .ref 7 66, .ref 8 66, .ref 6 66, .at (.v 12) 3, .at (.v 13) 3, .at (.v 14) 3, .at (.v 15) 3, .ref 9 22, .at (.v 16) 9, .ref 10 77])), (6, .arr 3 66 (.v 17)), (7, .arr 3 66 (.v 18)), (8, .arr 3 66 (.v 19)), (9, .arr 40 22 (.v 20)), (10, .arr 74 77 (.v 21))]⟩⟩]
def b23 : List Blk := [
  ⟨[(0, 0, [true, true, true, true, true])], ⟨31, 7, [(3, ⟨[], .one (.leaf (.ptr (.p 0 0)))⟩), (4, ⟨[], .one (.leaf (.ptr (.p 1 0)))⟩), (6, ⟨[], .one (.leaf (.ptr (.p 2 0)))⟩)], [(0, .box 74 (.leaf (.at (.v 0) 74))), (1, .box 68 (.agg 68 [.at (.v 1) 3, .at (.v 2) 3, .at (.v 3) 3, .at (.v 4) 3, .at (.v 5) 3, .at (.v 6) 3, .at (.v 7) 3, .at (.v 8) 3, .nil 66, .nil 66, .nil 66, .at (.v 9) 3, .at (.v 10) 3, .at (.v 11) 3, .at (.v 12) 3, .nil 22, .at (.v 13) 9])), (2, .box 120 (.agg 120 [.at (.v 14) 3, .at (.v 15) 3, .at (.v 16) 3, .at (.v 17) 3, .at (.v 18) 3, .at (.v 19) 3, .at (.v 20) 3, .at (.v 21) 3, .ref 3 66, .ref 4 66, .ref 5 66, .at (.v 22) 3, .at (.v 23) 3, .at (.v 24) 3, .at (.v 25) 3, .ref 6 22, .at (.v 26) 9, .nil 77])), (3, .arr 3 66 (.v 27)), (4, .arr 3 66 (.v 28)), (5, .arr 3 66 (.v 29)), (6, .arr 40 22 (.v 30))]⟩⟩,
  ⟨[(1, 0, []), (0, 0, [true, true, true, true, true, true])], ⟨31, 7, [(4, ⟨[], .one (.leaf (.ptr (.p 0 0)))⟩), (6, ⟨[], .one (.leaf (.ptr (.p 1 0)))⟩)], [(0, .box 68 (.agg 68 [.at (.v 0) 3, .at (.v 1) 3, .at (.v 2) 3, .at (.v 3) 3, .at (.v 4) 3, .at (.v 5) 3, .at (.v 6) 3, .at (.v 7) 3, .nil 66, .nil 66, .nil 66, .at (.v 8) 3, .at (.v 9) 3, .at (.v 10) 3, .at (.v 11) 3, .nil 22, .at (.v 12) 9])), (1, .box 120 (.agg 120 [.at (.v 13) 3, .at (.v 14) 3, .at (.v 15) 3, .at (.v 16) 3, .at (.v 17) 3, .at (.v 18) 3, .at (.v 19) 3, .at (.v 20) 3, .ref 2 66, .ref 3 66, .ref 4 66, .at (.v 21) 3, .at (.v 22) 3, .at (.v 23) 3, .at (.v 24) 3, .ref 5 22, .at (.v 25) 9, .ref 6 77])), (2, .arr 3 66 (.v 26)), (3, .arr 3 66 (.v 27)), (4, .arr 3 66 (.v 28)), (5, .arr 40 22 (.v 29)), (6, .arr 74 77 (.v 30))]⟩⟩]
def b26 : List Blk := [
  ⟨[(0, 0, [false, false, true, false, true]), (2, 0, [false, false, true, false, true]), (1, 0, []), (0, 0, [true, true])], ⟨4, 0, [(0, ⟨[], .one (.leaf (.at (.v 0) 22))⟩), (1, ⟨[], .one (.leaf (.fn 133 [.im (.v 1) 74 0]))⟩), (7, ⟨[], .one (.leaf (.at (.v 2) 3))⟩), (8, ⟨[], .one (.leaf (.at (.v 3) 3))⟩)], []⟩⟩]
def b31 : List Blk := [
  ⟨[(0, 0, [true, true, true])], ⟨18, 11, [(0, ⟨[], .one (.leaf (.ptr (.p 5 0)))⟩)], [(5, .box 120 (.agg 120 [.at (.v 0) 3, .at (.v 1) 3, .at (.v 2) 3, .at (.v 3) 3, .at (.v 4) 3, .at (.v 5) 3, .at (.v 6) 3, .at (.v 7) 3, .ref 6 66, .ref 7 66, .ref 8 66, .at (.v 8) 3, .at (.v 9) 3, .at (.v 10) 3, .at (.v 11) 3, .ref 9 22, .at (.v 12) 9, .ref 10 77])), (6, .arr 3 66 (.v 13)), (7, .arr 3 66 (.v 14)), (8, .arr 3 66 (.v 15)), (9, .arr 40 22 (.v 16)), (10, .arr 74 77 (.v 17))]⟩⟩]
def b32 : List Blk := [
  ⟨[(0, 0, [false, false, false, true, true, true]), (2, 0, [false, false, false, true, true, true]), (1, 0, []), (0, 0, [true, true, true, true])], ⟨5, 0, [(0, ⟨[], .one (.leaf (.at (.v 0) 66))⟩), (1, ⟨[], .one (.leaf (.at (.v 1) 3))⟩), (6, ⟨[], .one (.leaf (.at (.v 2) 3))⟩), (7, ⟨[], .one (.leaf (.at (.v 3) 3))⟩), (8, ⟨[], .one (.leaf (.at (.v 4) 3))⟩)], []⟩⟩,
  ⟨[(1, 1, []), (2, 0, [false, false, false, true, true, true]), (1, 0, []), (0, 0, [true, true, true, true])], ⟨5, 0, [(0, ⟨[], .one (.leaf (.at (.v 0) 66))⟩), (1, ⟨[], .one (.leaf (.at (.v 1) 3))⟩), (6, ⟨[], .one (.leaf (.at (.v 2) 3))⟩), (7, ⟨[], .one (.leaf (.at (.v 3) 3))⟩), (8, ⟨[], .one (.leaf (.at (.v 4) 3))⟩)], []⟩⟩]
def b37 : List Blk := [
  ⟨[(0, 0, [true, true, true, true, true])], ⟨21, 12, [(0, ⟨[], .one (.leaf (.ptr (.p 5 0)))⟩), (3, ⟨[], .one (.leaf (.ptr (.p 6 0)))⟩), (5, ⟨[], .one (.leaf (.at (.v 0) 3))⟩), (6, ⟨[], .one (.leaf (.at (.v 1) 4))⟩)], [(5, .box 120 (.agg 120 [.at (.v 2) 3, .at (.v 3) 3, .at (.v 4) 3, .at (.v 5) 3, .at (.v 6) 3, .at (.v 7) 3, .at (.v 8) 3, .at (.v 9) 3, .ref 7 66, .ref 8 66, .ref 9 66, .at (.v 10) 3, .at (.v 11) 3, .at (.v 12) 3, .at (.v 13) 3, .ref 10 22, .at (.v 14) 9, .ref 11 77])), (6, .box 74 (.leaf (.at (.v 15) 74))), (7, .arr 3 66 (.v 16)), (8, .arr 3 66 (.v 17)), (9, .arr 3 66 (.v 18)), (10, .arr 40 22 (.v 19)), (11, .arr 74 77 (.v 20))]⟩⟩]
def b38 : List Blk := [
  ⟨[(0, 0, [false, false, true, false, true]), (2, 0, [false, false, true, false, true]), (1, 0, []), (0, 0, [true, true])], ⟨5, 1, [(0, ⟨[], .one (.leaf (.ptr (.im (.v 0) 120 0)))⟩), (3, ⟨[], .one (.leaf (.ptr (.p 0 0)))⟩), (11, ⟨[], .one (.leaf (.at (.v 1) 22))⟩), (12, ⟨[], .one (.leaf (.at (.v 2) 3))⟩), (13, ⟨[], .one (.leaf (.at (.v 3) 3))⟩)], [(0, .box 74 (.leaf (.at (.v 4) 74)))]⟩⟩]
def b40 : List Blk := [
  ⟨[(0, 0, [true, true, true, true])], ⟨7, 2, [(1, ⟨[], .one (.leaf (.at (.v 0) 3))⟩), (2, ⟨[], .one (.leaf (.at (.v 1) 3))⟩), (3, ⟨[], .one (.leaf (.at (.v 2) 22))⟩), (4, ⟨[], .one (.leaf (.ptr (.p 0 0)))⟩), (8, ⟨[], .one (.leaf (.ptr (.p 1 0)))⟩), (11, ⟨[], .one (.leaf (.at (.v 3) 3))⟩)], [(0, .box 24 (.leaf (.at (.v 4) 24))), (1, .box 24 (.agg 24 [.at (.v 5) 3, .at (.v 6) 3, .nil 22]))]⟩⟩,
  ⟨[(0, 0, [false, false, true, false, true, true, true, true, true, true, true, true]), (2, 0, [false, false, true, false, true, true, true, true, true, true, true, true]), (1, 0, []), (0, 0, [true, true, true, true, true, true, true, true, true])], ⟨12, 4, [(1, ⟨[], .one (.leaf (.at (.v 0) 3))⟩), (3, ⟨[], .one (.leaf (.at (.v 1) 22))⟩), (4, ⟨[], .one (.leaf (.ptr (.p 0 0)))⟩), (8, ⟨[], .one (.leaf (.ptr (.p 1 0)))⟩), (14, ⟨[], .one (.leaf (.ptr (.p 2 0)))⟩), (15, ⟨[], .one (.leaf (.at (.v 2) 3))⟩), (90, ⟨[], .one (.leaf (.at (.v 3) 22))⟩), (91, ⟨[], .one (.leaf (.at (.v 4) 3))⟩), (92, ⟨[], .one (.leaf (.at (.v 5) 3))⟩)], [(0, .box 24 (.leaf (.at (.v 6) 24))), (1, .box 24 (.agg 24 [.at (.v 7) 3, .at (.v 8) 3, .nil 22])), (2, .box 24 (.agg 24 [.at (.v 9) 3, .at (.v 10) 3, .ref 3 22])), (3, .arr 40 22 (.v 11))]⟩⟩,
  ⟨[(0, 0, [true, true, false, false, true, true, false, false, true, false, true, true, true, true, true, true, true, true]), (1, 1, []), (0, 0, [true, true, true, false, false, true, false, true, true, true, true, true, true, true, true]), (2, 0, [false, false, true, false, true, true, true, true, true, true, true, true]), (1, 0, []), (0, 0, [true, true, true, true, true, true, true, true, true])], ⟨13, 5, [(1, ⟨[], .one (.leaf (.at (.v 0) 3))⟩), (3, ⟨[], .one (.leaf (.at (.v 1) 22))⟩), (4, ⟨[], .one (.leaf (.ptr (.p 0 0)))⟩), (8, ⟨[], .one (.leaf (.ptr (.p 1 0)))⟩), (14, ⟨[], .one (.leaf (.ptr (.p 2 0)))⟩), (15, ⟨[], .one (.leaf (.at (.v 2) 3))⟩), (17, ⟨[], .one (.leaf (.ptr (.p 3 0)))⟩), (90, ⟨[], .one (.leaf (.at (.v 3) 22))⟩), (91, ⟨[], .one (.leaf (.at (.v 4) 3))⟩), (92, ⟨[], .one (.leaf (.at (.v 5) 3))⟩)], [(0, .box 24 (.leaf (.at (.v 6) 24))), (1, .box 24 (.agg 24 [.at (.v 7) 3, .at (.v 8) 3, .nil 22])), (2, .box 24 (.agg 24 [.at (.v 9) 3, .at (.v 10) 3, .ref 4 22])), (3, .box 40 (.leaf (.at (.v 11) 40))), (4, .arr 40 22 (.v 12))]⟩⟩,
  ⟨[(0, 0, [true, true, true, false, false, true, true, false, false, true, false, true, true, true, true, true, true, true, true]), (1, 1, []), (0, 0, [true, true, true, false, false, true, false, true, true, true, true, true, true, true, true]), (2, 0, [false, false, true, false, true, true, true, true, true, true, true, true]), (1, 0, []), (0, 0, [true, true, true, true, true, true, true, true, true])], ⟨12, 4, [(1, ⟨[], .one (.leaf (.at (.v 0) 3))⟩), (3, ⟨[], .one (.leaf (.at (.v 1) 22))⟩), (4, ⟨[], .one (.leaf (.ptr (.p 0 0)))⟩), (8, ⟨[], .one (.leaf (.ptr (.p 1 0)))⟩), (14, ⟨[], .one (.leaf (.ptr (.p 2 0)))⟩), (15, ⟨[], .one (.leaf (.at (.v 2) 3))⟩), (90, ⟨[], .one (.leaf (.at (.v 3) 22))⟩), (91, ⟨[], .one (.leaf (.at (.v 4) 3))⟩), (92, ⟨[], .one (.leaf (.at (.v 5) 3))⟩)], [(0, .box 24 (.leaf (.at (.v 6) 24))), (1, .box 24 (.agg 24 [.at (.v 7) 3, .at (.v 8) 3, .nil 22])), (2, .box 24 (.agg 24 [.at (.v 9) 3, .at (.v 10) 3, .ref 3 22])), (3, .arr 40 22 (.v 11))]⟩⟩]
def b41 : List Blk := [
  ⟨[(0, 0, [false, false, true, false, true]), (2, 0, [false, false, true, false, true]), (1, 0, []), (0, 0, [true, true])], ⟨4, 0, [(1, ⟨[], .one (.leaf (.at (.v 0) 3))⟩), (7, ⟨[], .one (.leaf (.at (.v 1) 22))⟩), (8, ⟨[], .one (.leaf (.at (.v 2) 3))⟩), (9, ⟨[], .one (.leaf (.at (.v 3) 3))⟩)], []⟩⟩]
def b43 : List Blk := [
  ⟨[(0, 0, [false, false, true, false, true, true]), (2, 0, [false, false, true, false, true, true]), (1, 0, []), (0, 0, [true, true, true])], ⟨3, 1, [(2, ⟨[], .one (.leaf (.at (.v 0) 3))⟩), (3, ⟨[], .one (.leaf (.ptr (.p 0 0)))⟩), (9, ⟨[], .one (.leaf (.at (.v 1) 3))⟩)], [(0, .box 24 (.leaf (.at (.v 2) 24)))]⟩⟩]
def b45 : List Blk := [
  ⟨[(0, 0, [true, true, true, true, true, true])], ⟨22, 14, [(0, ⟨[], .one (.leaf (.ptr (.p 5 0)))⟩), (3, ⟨[], .one (.leaf (.ptr (.p 6 0)))⟩), (4, ⟨[], .one (.leaf (.ptr (.p 7 0)))⟩)], [(5, .box 120 (.agg 120 [.at (.v 0) 3, .at (.v 1) 3, .at (.v 2) 3, .at (.v 3) 3, .at (.v 4) 3, .at (.v 5) 3, .at (.v 6) 3, .at (.v 7) 3, .ref 8 66, .ref 9 66, .ref 10 66, .at (.v 8) 3, .at (.v 9) 3, .at (.v 10) 3, .at (.v 11) 3, .ref 11 22, .at (.v 12) 9, .ref 12 77])), (6, .box 74 (.leaf (.at (.v 13) 74))), (7, .box 24 (.agg 24 [.at (.v 14) 3, .at (.v 15) 3, .ref 13 22])), (8, .arr 3 66 (.v 16)), (9, .arr 3 66 (.v 17)), (10, .arr 3 66 (.v 18)), (11, .arr 40 22 (.v 19)), (12, .arr 74 77 (.v 20)), (13, .arr 40 22 (.v 21))]⟩⟩]
def b49 : List Blk := [
  ⟨[(0, 0, [true, true, true, true, true, true, true])], ⟨31, 7, [(4, ⟨[], .one (.leaf (.ptr (.p 0 0)))⟩), (7, ⟨[], .one (.leaf (.ptr (.p 1 0)))⟩)], [(0, .box 68 (.agg 68 [.at (.v 0) 3, .at (.v 1) 3, .at (.v 2) 3, .at (.v 3) 3, .at (.v 4) 3, .at (.v 5) 3, .at (.v 6) 3, .at (.v 7) 3, .nil 66, .nil 66, .nil 66, .at (.v 8) 3, .at (.v 9) 3, .at (.v 10) 3, .at (.v 11) 3, .nil 22, .at (.v 12) 9])), (1, .box 120 (.agg 120 [.at (.v 13) 3, .at (.v 14) 3, .at (.v 15) 3, .at (.v 16) 3, .at (.v 17) 3, .at (.v 18) 3, .at (.v 19) 3, .at (.v 20) 3, .ref 2 66, .ref 3 66, .ref 4 66, .at (.v 21) 3, .at (.v 22) 3, .at (.v 23) 3, .at (.v 24) 3, .ref 5 22, .at (.v 25) 9, .ref 6 77])), (2, .arr 3 66 (.v 26)), (3, .arr 3 66 (.v 27)), (4, .arr 3 66 (.v 28)), (5, .arr 40 22 (.v 29)), (6, .arr 74 77 (.v 30))]⟩⟩]
def b52 : List Blk := [
  ⟨[(0, 0, [false, false, true, false, true, true]), (2, 0, [false, false, true, false, true, true]), (1, 0, []), (0, 0, [true, true, true])], ⟨3, 0, [(0, ⟨[], .one (.leaf (.at (.v 0) 66))⟩), (1, ⟨[], .one (.leaf (.at (.v 1) 66))⟩), (5, ⟨[], .one (.leaf (.at (.v 2) 3))⟩)], []⟩⟩]
def b54 : List Blk := [
  ⟨[(0, 0, [false, false, true, false, true, true]), (2, 0, [false, false, true, false, true, true]), (1, 0, []), (0, 0, [true, true, true])], ⟨3, 0, [(0, ⟨[], .one (.leaf (.at (.v 0) 22))⟩), (1, ⟨[], .one (.leaf (.at (.v 1) 22))⟩), (5, ⟨[], .one (.leaf (.at (.v 2) 3))⟩)], []⟩⟩]
def b57 : List Blk := [
  ⟨[(0, 0, [false, false, true, false, true, true, true, true, true, true, true, true, true, true, true, true]), (2, 0, [false, false, true, false, true, true, true, true, true, true, true, true, true, true, true, true]), (1, 0, []), (0, 0, [true, true, true, true, true, true, true, true, true, true, true, true, true])], ⟨32, 4, [(1, ⟨[], .one (.leaf (.ptr (.p 0 0)))⟩), (2, ⟨[], .one (.leaf (.ptr (.p 1 0)))⟩), (4, ⟨[], .one (.leaf (.ref 2 77))⟩), (5, ⟨[], .one (.leaf (.at (.v 0) 3))⟩)], [(0, .box 68 (.agg 68 [.at (.v 1) 3, .at (.v 2) 3, .at (.v 3) 3, .at (.v 4) 3, .at (.v 5) 3, .at (.v 6) 3, .at (.v 7) 3, .at (.v 8) 3, .ref 3 66, .at (.v 9) 66, .at (.v 10) 66, .at (.v 11) 3, .at (.v 12) 3, .at (.v 13) 3, .at (.v 14) 3, .at (.v 15) 22, .at (.v 16) 9])), (1, .box 68 (.agg 68 [.at (.v 17) 3, .at (.v 18) 3, .at (.v 19) 3, .at (.v 20) 3, .at (.v 21) 3, .at (.v 22) 3, .at (.v 23) 3, .at (.v 24) 3, .nil 66, .nil 66, .nil 66, .at (.v 25) 3, .at (.v 26) 3, .at (.v 27) 3, .at (.v 28) 3, .nil 22, .at (.v 29) 9])), (2, .arr 74 77 (.v 30)), (3, .arr 3 66 (.v 31))]⟩⟩,
  ⟨[(1, 1, []), (0, 0, [true, true, false, false, true, false, true, true, true, true, true, true, true, true, true, true, true, true]), (2, 0, [false, false, true, false, true, true, true, true, true, true, true, true, true, true, true, true]), (1, 0, []), (0, 0, [true, true, true, true, true, true, true, true, true, true, true, true, true])], ⟨32, 4, [(1, ⟨[], .one (.leaf (.ptr (.p 0 0)))⟩), (2, ⟨[], .one (.leaf (.ptr (.p 1 0)))⟩), (4, ⟨[], .one (.leaf (.ref 2 77))⟩), (5, ⟨[], .one (.leaf (.at (.v 0) 3))⟩)], [(0, .box 68 (.agg 68 [.at (.v 1) 3, .at (.v 2) 3, .at (.v 3) 3, .at (.v 4) 3, .at (.v 5) 3, .at (.v 6) 3, .at (.v 7) 3, .at (.v 8) 3, .ref 3 66, .at (.v 9) 66, .at (.v 10) 66, .at (.v 11) 3, .at (.v 12) 3, .at (.v 13) 3, .at (.v 14) 3, .at (.v 15) 22, .at (.v 16) 9])), (1, .box 68 (.agg 68 [.at (.v 17) 3, .at (.v 18) 3, .at (.v 19) 3, .at (.v 20) 3, .at (.v 21) 3, .at (.v 22) 3, .at (.v 23) 3, .at (.v 24) 3, .nil 66, .nil 66, .nil 66, .at (.v 25) 3, .at (.v 26) 3, .at (.v 27) 3, .at (.v 28) 3, .nil 22, .at (.v 29) 9])), (2, .arr 74 77 (.v 30)), (3, .arr 3 66 (.v 31))]⟩⟩]
def b58 : List Blk := [
  ⟨[(0, 0, [false, false, true, false, true, true]), (2, 0, [false, false, true, false, true, true]), (1, 0, []), (0, 0, [true, true, true])], ⟨3, 2, [(1, ⟨[], .one (.leaf (.ptr (.p 0 0)))⟩), (3, ⟨[], .one (.leaf (.ref 1 77))⟩), (4, ⟨[], .one (.leaf (.at (.v 0) 3))⟩)], [(0, .box 68 (.leaf (.at (.v 1) 68))), (1, .arr 74 77 (.v 2))]⟩⟩,
  ⟨[(1, 1, []), (0, 0, [true, true, false, false, true, false, true, true]), (2, 0, [false, false, true, false, true, true]), (1, 0, []), (0, 0, [true, true, true])], ⟨3, 2, [(1, ⟨[], .one (.leaf (.ptr (.p 0 0)))⟩), (3, ⟨[], .one (.leaf (.ref 1 77))⟩), (4, ⟨[], .one (.leaf (.at (.v 0) 3))⟩)], [(0, .box 68 (.leaf (.at (.v 1) 68))), (1, .arr 74 77 (.v 2))]⟩⟩]
def b63 : List Blk := [
  ⟨[(0, 0, [false, false, true, false, true, true, true, true, true, true, true, true]), (2, 0, [false, false, true, false, true, true, true, true, true, true, true, true]), (1, 0, []), (0, 0, [true, true, true, true, true, true, true, true, true])], ⟨31, 4, [(1, ⟨[], .one (.leaf (.ptr (.p 0 0)))⟩), (2, ⟨[], .one (.leaf (.ptr (.p 1 0)))⟩), (4, ⟨[], .one (.leaf (.at (.v 0) 3))⟩), (6, ⟨[], .one (.leaf (.at (.v 1) 3))⟩)], [(0, .box 68 (.agg 68 [.at (.v 2) 3, .at (.v 3) 3, .at (.v 4) 3, .at (.v 5) 3, .at (.v 6) 3, .at (.v 7) 3, .at (.v 8) 3, .at (.v 9) 3, .nil 66, .ref 2 66, .ref 3 66, .at (.v 10) 3, .at (.v 11) 3, .at (.v 12) 3, .at (.v 13) 3, .at (.v 14) 22, .at (.v 15) 9])), (1, .box 68 (.agg 68 [.at (.v 16) 3, .at (.v 17) 3, .at (.v 18) 3, .at (.v 19) 3, .at (.v 20) 3, .at (.v 21) 3, .at (.v 22) 3, .at (.v 23) 3, .nil 66, .nil 66, .nil 66, .at (.v 24) 3, .at (.v 25) 3, .at (.v 26) 3, .at (.v 27) 3, .nil 22, .at (.v 28) 9])), (2, .arr 3 66 (.v 29)), (3, .arr 3 66 (.v 30))]⟩⟩]
def b68 : List Blk := [
  ⟨[(0, 0, [false, false, true, false, true, true]), (2, 0, [false, false, true, false, true, true]), (1, 0, []), (0, 0, [true, true, true])], ⟨15, 2, [(1, ⟨[], .one (.leaf (.ptr (.p 0 0)))⟩), (2, ⟨[], .one (.leaf (.ptr (.p 1 0)))⟩), (5, ⟨[], .one (.leaf (.at (.v 0) 3))⟩)], [(0, .box 68 (.leaf (.at (.v 1) 68))), (1, .box 68 (.agg 68 [.at (.v 2) 3, .at (.v 3) 3, .at (.v 4) 3, .at (.v 5) 3, .at (.v 6) 3, .at (.v 7) 3, .at (.v 8) 3, .at (.v 9) 3, .nil 66, .nil 66, .nil 66, .at (.v 10) 3, .at (.v 11) 3, .at (.v 12) 3, .at (.v 13) 3, .nil 22, .at (.v 14) 9]))]⟩⟩]
def b69 : List Blk := [
  ⟨[(0, 0, [false, false, true, false, true, true]), (2, 0, [false, false, true, false, true, true]), (1, 0, []), (0, 0, [true, true, true])], ⟨4, 1, [(1, ⟨[], .one (.leaf (.at (.v 0) 3))⟩), (2, ⟨[], .one (.leaf (.ptr (.p 0 0)))⟩), (5, ⟨[], .one (.leaf (.at (.v 1) 3))⟩), (6, ⟨[], .one (.leaf (.at (.v 2) 3))⟩)], [(0, .box 68 (.leaf (.at (.v 3) 68)))]⟩⟩,
  ⟨[(1, 1, []), (0, 0, [true, true, false, false, true, false, true, true]), (2, 0, [false, false, true, false, true, true]), (1, 0, []), (0, 0, [true, true, true])], ⟨4, 1, [(1, ⟨[], .one (.leaf (.at (.v 0) 3))⟩), (2, ⟨[], .one (.leaf (.ptr (.p 0 0)))⟩), (5, ⟨[], .one (.leaf (.at (.v 1) 3))⟩), (6, ⟨[], .one (.leaf (.at (.v 2) 3))⟩)], [(0, .box 68 (.leaf (.at (.v 3) 68)))]⟩⟩]
def b70 : List Blk := [
  ⟨[(0, 0, [true, true, true, true])], ⟨15, 3, [(2, ⟨[], .one (.leaf (.ptr (.p 0 0)))⟩), (3, ⟨[], .one (.leaf (.ptr (.p 1 0)))⟩), (4, ⟨[], .one (.leaf (.ptr (.p 2 0)))⟩)], [(0, .box 68 (.leaf (.at (.v 0) 68))), (1, .box 74 (.leaf (.at (.v 1) 74))), (2, .box 68 (.agg 68 [.at (.v 2) 3, .at (.v 3) 3, .at (.v 4) 3, .at (.v 5) 3, .at (.v 6) 3, .at (.v 7) 3, .at (.v 8) 3, .at (.v 9) 3, .nil 66, .nil 66, .nil 66, .at (.v 10) 3, .at (.v 11) 3, .at (.v 12) 3, .at (.v 13) 3, .nil 22, .at (.v 14) 9]))]⟩⟩]
def b71 : List Blk := [
  ⟨[(0, 0, [false, false, true, false, true, true]), (2, 0, [false, false, true, false, true, true]), (1, 0, []), (0, 0, [true, true, true])], ⟨2, 1, [(3, ⟨[], .one (.leaf (.ptr (.p 0 0)))⟩), (5, ⟨[], .one (.leaf (.at (.v 0) 3))⟩)], [(0, .box 74 (.leaf (.at (.v 1) 74)))]⟩⟩]
def b74 : List Blk := [
  ⟨[(0, 0, [true, true, true, true])], ⟨32, 3, [(2, ⟨[], .one (.leaf (.ptr (.p 0 0)))⟩), (3, ⟨[], .one (.leaf (.ptr (.p 1 0)))⟩), (4, ⟨[], .one (.leaf (.ptr (.p 2 0)))⟩), (8, ⟨[], .one (.leaf (.at (.v 0) 4))⟩)], [(0, .box 68 (.agg 68 [.at (.v 1) 3, .at (.v 2) 3, .at (.v 3) 3, .at (.v 4) 3, .at (.v 5) 3, .at (.v 6) 3, .at (.v 7) 3, .at (.v 8) 3, .at (.v 9) 66, .at (.v 10) 66, .at (.v 11) 66, .at (.v 12) 3, .at (.v 13) 3, .at (.v 14) 3, .at (.v 15) 3, .at (.v 16) 22, .at (.v 17) 9])), (1, .box 74 (.leaf (.at (.v 18) 74))), (2, .box 68 (.agg 68 [.at (.v 19) 3, .at (.v 20) 3, .at (.v 21) 3, .at (.v 22) 3, .at (.v 23) 3, .at (.v 24) 3, .at (.v 25) 3, .at (.v 26) 3, .nil 66, .nil 66, .nil 66, .at (.v 27) 3, .at (.v 28) 3, .at (.v 29) 3, .at (.v 30) 3, .nil 22, .at (.v 31) 9]))]⟩⟩]
def b77 : List Blk := [
  ⟨[(0, 0, [false, false, false, true, true]), (2, 0, [false, false, false, true, true]), (1, 0, []), (0, 0, [true, true, true])], ⟨3, 0, [(0, ⟨[], .one (.leaf (.at (.v 0) 66))⟩), (1, ⟨[], .one (.leaf (.at (.v 1) 3))⟩), (5, ⟨[], .one (.leaf (.at (.v 2) 3))⟩)], []⟩⟩]
def b78 : List Blk := [
  ⟨[(0, 0, [true, true, true, true, true, true, true, true])], ⟨33, 4, [(2, ⟨[], .one (.leaf (.ptr (.p 0 0)))⟩), (3, ⟨[], .one (.leaf (.ptr (.p 1 0)))⟩), (4, ⟨[], .one (.leaf (.ptr (.p 2 0)))⟩), (7, ⟨[], .one (.leaf (.at (.v 0) 3))⟩), (9, ⟨[], .one (.leaf (.at (.v 1) 3))⟩)], [(0, .box 68 (.agg 68 [.at (.v 2) 3, .at (.v 3) 3, .at (.v 4) 3, .at (.v 5) 3, .at (.v 6) 3, .at (.v 7) 3, .at (.v 8) 3, .at (.v 9) 3, .ref 3 66, .at (.v 10) 66, .at (.v 11) 66, .at (.v 12) 3, .at (.v 13) 3, .at (.v 14) 3, .at (.v 15) 3, .at (.v 16) 22, .at (.v 17) 9])), (1, .box 74 (.leaf (.at (.v 18) 74))), (2, .box 68 (.agg 68 [.at (.v 19) 3, .at (.v 20) 3, .at (.v 21) 3, .at (.v 22) 3, .at (.v 23) 3, .at (.v 24) 3, .at (.v 25) 3, .at (.v 26) 3, .nil 66, .nil 66, .nil 66, .at (.v 27) 3, .at (.v 28) 3, .at (.v 29) 3, .at (.v 30) 3, .nil 22, .at (.v 31) 9])), (3, .arr 3 66 (.v 32))]⟩⟩,
  ⟨[(0, 0, [true, true, true, true, true, true, true, true, true])], ⟨32, 4, [(2, ⟨[], .one (.leaf (.ptr (.p 0 0)))⟩), (3, ⟨[], .one (.leaf (.ptr (.p 1 0)))⟩), (4, ⟨[], .one (.leaf (.ptr (.p 2 0)))⟩), (7, ⟨[], .one (.leaf (.at (.v 0) 3))⟩)], [(0, .box 68 (.agg 68 [.at (.v 1) 3, .at (.v 2) 3, .at (.v 3) 3, .at (.v 4) 3, .at (.v 5) 3, .at (.v 6) 3, .at (.v 7) 3, .at (.v 8) 3, .ref 3 66, .at (.v 9) 66, .at (.v 10) 66, .at (.v 11) 3, .at (.v 12) 3, .at (.v 13) 3, .at (.v 14) 3, .at (.v 15) 22, .at (.v 16) 9])), (1, .box 74 (.leaf (.at (.v 17) 74))), (2, .box 68 (.agg 68 [.at (.v 18) 3, .at (.v 19) 3, .at (.v 20) 3, .at (.v 21) 3, .at (.v 22) 3, .at (.v 23) 3, .at (.v 24) 3, .at (.v 25) 3, .nil 66, .nil 66, .nil 66, .at (.v 26) 3, .at (.v 27) 3, .at (.v 28) 3, .at (.v 29) 3, .nil 22, .at (.v 30) 9])), (3, .arr 3 66 (.v 31))]⟩⟩]
def b79 : List Blk := [
  ⟨[(0, 0, [false, false, true, false, true]), (2, 0, [false, false, true, false, true]), (1, 0, []), (0, 0, [true, true])], ⟨3, 2, [(2, ⟨[], .one (.leaf (.ptr (.p 0 0)))⟩), (3, ⟨[], .one (.leaf (.ptr (.p 1 0)))⟩), (5, ⟨[], .one (.leaf (.at (.v 0) 3))⟩)], [(0, .box 68 (.leaf (.at (.v 1) 68))), (1, .box 74 (.leaf (.at (.v 2) 74)))]⟩⟩,
  ⟨[(0, 0, [false, false, true, false, false, true, false, false, true, false, true]), (2, 0, [false, false, true, false, false, true, false, false, true, false, true]), (1, 2, []), (1, 1, []), (0, 0, [true, true, false, false, true, false, true]), (2, 0, [false, false, true, false, true]), (1, 0, []), (0, 0, [true, true])], ⟨4, 2, [(2, ⟨[], .one (.leaf (.ptr (.p 0 0)))⟩), (3, ⟨[], .one (.leaf (.ptr (.p 1 0)))⟩), (5, ⟨[], .one (.leaf (.at (.v 0) 3))⟩), (6, ⟨[], .one (.leaf (.at (.v 1) 3))⟩)], [(0, .box 68 (.leaf (.at (.v 2) 68))), (1, .box 74 (.leaf (.at (.v 3) 74)))]⟩⟩]
def b81 : List Blk := [
  ⟨[(0, 0, [false, false, true, false, true, true]), (2, 0, [false, false, true, false, true, true]), (1, 0, []), (0, 0, [true, true, true])], ⟨7, 2, [(1, ⟨[], .one (.leaf (.at (.v 0) 3))⟩), (2, ⟨[], .one (.leaf (.at (.v 1) 3))⟩), (3, ⟨[], .one (.leaf (.at (.v 2) 22))⟩), (4, ⟨[], .one (.leaf (.ptr (.p 0 0)))⟩), (8, ⟨[], .one (.leaf (.ptr (.p 1 0)))⟩), (11, ⟨[], .one (.leaf (.at (.v 3) 3))⟩)], [(0, .box 24 (.leaf (.at (.v 4) 24))), (1, .box 24 (.agg 24 [.at (.v 5) 3, .at (.v 6) 3, .nil 22]))]⟩⟩,
  ⟨[(0, 0, [true, true, true, true])], ⟨5, 2, [(1, ⟨[], .one (.leaf (.at (.v 0) 3))⟩), (3, ⟨[], .one (.leaf (.at (.v 1) 22))⟩), (4, ⟨[], .one (.leaf (.ptr (.p 0 0)))⟩), (8, ⟨[], .one (.leaf (.ptr (.p 1 0)))⟩)], [(0, .box 24 (.leaf (.at (.v 2) 24))), (1, .box 24 (.agg 24 [.at (.v 3) 3, .at (.v 4) 3, .nil 22]))]⟩⟩,
  ⟨[(0, 0, [false, false, true, false, true, true, true, true, true, true, true, true]), (2, 0, [false, false, true, false, true, true, true, true, true, true, true, true]), (1, 2, []), (0, 0, [true, true, true, true, true, true, true, true, true])], ⟨9, 3, [(1, ⟨[], .one (.leaf (.at (.v 0) 3))⟩), (3, ⟨[], .one (.leaf (.at (.v 1) 22))⟩), (4, ⟨[], .one (.leaf (.ptr (.p 0 0)))⟩), (8, ⟨[], .one (.leaf (.ptr (.p 1 0)))⟩), (14, ⟨[], .one (.leaf (.at (.v 2) 3))⟩), (15, ⟨[], .one (.leaf (.at (.v 3) 3))⟩), (16, ⟨[], .one (.leaf (.ref 2 22))⟩), (17, ⟨[], .one (.leaf (.at (.v 4) 3))⟩)], [(0, .box 24 (.leaf (.at (.v 5) 24))), (1, .box 24 (.agg 24 [.at (.v 6) 3, .at (.v 7) 3, .nil 22])), (2, .arr 40 22 (.v 8))]⟩⟩,
  ⟨[(0, 0, [true, true, true, true, true, true, true, true, true])], ⟨6, 3, [(1, ⟨[], .one (.leaf (.at (.v 0) 3))⟩), (3, ⟨[], .one (.leaf (.at (.v 1) 22))⟩), (4, ⟨[], .one (.leaf (.ptr (.p 0 0)))⟩), (8, ⟨[], .one (.leaf (.ptr (.p 1 0)))⟩), (16, ⟨[], .one (.leaf (.ref 2 22))⟩)], [(0, .box 24 (.leaf (.at (.v 2) 24))), (1, .box 24 (.agg 24 [.at (.v 3) 3, .at (.v 4) 3, .nil 22])), (2, .arr 40 22 (.v 5))]⟩⟩,
  ⟨[(0, 0, [true, true, true, true, true, true, true, true, true, true])], ⟨6, 3, [(1, ⟨[], .one (.leaf (.at (.v 0) 3))⟩), (3, ⟨[], .one (.leaf (.at (.v 1) 22))⟩), (4, ⟨[], .one (.leaf (.ptr (.p 0 0)))⟩), (8, ⟨[], .one (.leaf (.ptr (.p 1 0)))⟩), (16, ⟨[], .one (.leaf (.ref 2 22))⟩)], [(0, .box 24 (.leaf (.at (.v 2) 24))), (1, .box 24 (.agg 24 [.at (.v 3) 3, .at (.v 4) 3, .nil 22])), (2, .arr 40 22 (.v 5))]⟩⟩,
  ⟨[(0, 0, [true, true, true, true, true, true, true, true, true, true, true, true])], ⟨5, 3, [(4, ⟨[], .one (.leaf (.ptr (.p 0 0)))⟩), (8, ⟨[], .one (.leaf (.ptr (.p 1 0)))⟩), (16, ⟨[], .one (.leaf (.ref 2 22))⟩), (19, ⟨[], .one (.leaf (.at (.v 0) 3))⟩)], [(0, .box 24 (.leaf (.at (.v 1) 24))), (1, .box 24 (.agg 24 [.at (.v 2) 3, .at (.v 3) 3, .nil 22])), (2, .arr 40 22 (.v 4))]⟩⟩]
def b82 : List Blk := [
  ⟨[(0, 0, [false, false, true, false, true]), (2, 0, [false, false, true, false, true]), (1, 0, []), (0, 0, [true, true])], ⟨3, 0, [(0, ⟨[], .one (.leaf (.at (.v 0) 22))⟩), (1, ⟨[], .one (.leaf (.at (.v 1) 3))⟩), (5, ⟨[], .one (.leaf (.at (.v 2) 3))⟩)], []⟩⟩]
def b83 : List Blk := [
  ⟨[(0, 0, [false, false, false, true, true]), (2, 0, [false, false, false, true, true]), (1, 0, []), (0, 0, [true, true, true])], ⟨3, 1, [(2, ⟨[], .one (.leaf (.at (.v 0) 3))⟩), (3, ⟨[], .one (.leaf (.ptr (.p 0 0)))⟩), (7, ⟨[], .one (.leaf (.at (.v 1) 3))⟩)], [(0, .box 24 (.leaf (.at (.v 2) 24)))]⟩⟩]
def b84 : List Blk := [
  ⟨[(0, 0, [true, true, false, true, false, true, true, true]), (0, 0, [true, true, true, true])], ⟨16, 3, [(2, ⟨[], .one (.leaf (.ptr (.p 0 0)))⟩), (3, ⟨[], .one (.leaf (.ptr (.p 1 0)))⟩), (4, ⟨[], .one (.leaf (.ptr (.p 2 0)))⟩), (8, ⟨[], .one (.leaf (.at (.v 0) 3))⟩)], [(0, .box 68 (.leaf (.at (.v 1) 68))), (1, .box 74 (.leaf (.at (.v 2) 74))), (2, .box 68 (.agg 68 [.at (.v 3) 3, .at (.v 4) 3, .at (.v 5) 3, .at (.v 6) 3, .at (.v 7) 3, .at (.v 8) 3, .at (.v 9) 3, .at (.v 10) 3, .nil 66, .nil 66, .nil 66, .at (.v 11) 3, .at (.v 12) 3, .at (.v 13) 3, .at (.v 14) 3, .nil 22, .at (.v 15) 9]))]⟩⟩,
  ⟨[(0, 0, [true, true, true, true, true, true])], ⟨17, 3, [(2, ⟨[], .one (.leaf (.ptr (.p 0 0)))⟩), (3, ⟨[], .one (.leaf (.ptr (.p 1 0)))⟩), (4, ⟨[], .one (.leaf (.ptr (.p 2 0)))⟩), (6, ⟨[], .one (.leaf (.at (.v 0) 3))⟩), (9, ⟨[], .one (.leaf (.at (.v 1) 3))⟩)], [(0, .box 68 (.leaf (.at (.v 2) 68))), (1, .box 74 (.leaf (.at (.v 3) 74))), (2, .box 68 (.agg 68 [.at (.v 4) 3, .at (.v 5) 3, .at (.v 6) 3, .at (.v 7) 3, .at (.v 8) 3, .at (.v 9) 3, .at (.v 10) 3, .at (.v 11) 3, .nil 66, .nil 66, .nil 66, .at (.v 12) 3, .at (.v 13) 3, .at (.v 14) 3, .at (.v 15) 3, .nil 22, .at (.v 16) 9]))]⟩⟩,
  ⟨[(0, 0, [true, true, true, false, true, false, true, true, true]), (0, 0, [true, true, true, true])], ⟨16, 3, [(2, ⟨[], .one (.leaf (.ptr (.p 0 0)))⟩), (3, ⟨[], .one (.leaf (.ptr (.p 1 0)))⟩), (4, ⟨[], .one (.leaf (.ptr (.p 2 0)))⟩), (8, ⟨[], .one (.leaf (.at (.v 0) 3))⟩)], [(0, .box 68 (.leaf (.at (.v 1) 68))), (1, .box 74 (.leaf (.at (.v 2) 74))), (2, .box 68 (.agg 68 [.at (.v 3) 3, .at (.v 4) 3, .at (.v 5) 3, .at (.v 6) 3, .at (.v 7) 3, .at (.v 8) 3, .at (.v 9) 3, .at (.v 10) 3, .nil 66, .nil 66, .nil 66, .at (.v 11) 3, .at (.v 12) 3, .at (.v 13) 3, .at (.v 14) 3, .nil 22, .at (.v 15) 9]))]⟩⟩]
def b85 : List Blk := [
  ⟨[(0, 0, [true, true, true, true, true, true])], ⟨31, 4, [(2, ⟨[], .one (.leaf (.ptr (.p 0 0)))⟩), (3, ⟨[], .one (.leaf (.ptr (.p 1 0)))⟩), (4, ⟨[], .one (.leaf (.ptr (.p 2 0)))⟩)], [(0, .box 68 (.agg 68 [.at (.v 0) 3, .at (.v 1) 3, .at (.v 2) 3, .at (.v 3) 3, .at (.v 4) 3, .at (.v 5) 3, .at (.v 6) 3, .at (.v 7) 3, .ref 3 66, .at (.v 8) 66, .at (.v 9) 66, .at (.v 10) 3, .at (.v 11) 3, .at (.v 12) 3, .at (.v 13) 3, .at (.v 14) 22, .at (.v 15) 9])), (1, .box 74 (.leaf (.at (.v 16) 74))), (2, .box 68 (.agg 68 [.at (.v 17) 3, .at (.v 18) 3, .at (.v 19) 3, .at (.v 20) 3, .at (.v 21) 3, .at (.v 22) 3, .at (.v 23) 3, .at (.v 24) 3, .nil 66, .nil 66, .nil 66, .at (.v 25) 3, .at (.v 26) 3, .at (.v 27) 3, .at (.v 28) 3, .nil 22, .at (.v 29) 9])), (3, .arr 3 66 (.v 30))]⟩⟩]
def b90 : List Blk := [
  ⟨[(0, 0, [false, false, true, false, true, true]), (2, 0, [false, false, true, false, true, true]), (1, 0, []), (0, 0, [true, true, true])], ⟨3, 0, [(0, ⟨[], .one (.leaf (.at (.v 0) 77))⟩), (1, ⟨[], .one (.leaf (.at (.v 1) 77))⟩), (5, ⟨[], .one (.leaf (.at (.v 2) 3))⟩)], []⟩⟩]
def b91 : List Blk := [
  ⟨[(0, 0, [false, false, true, false, true, true, true, true]), (2, 0, [false, false, true, false, true, true, true, true]), (1, 0, []), (0, 0, [true, true, true, true, true])], ⟨22, 7, [(2, ⟨[], .one (.leaf (.ptr (.p 0 0)))⟩), (5, ⟨[], .one (.leaf (.ptr (.p 1 0)))⟩), (7, ⟨[], .one (.leaf (.ref 2 82))⟩), (37, ⟨[], .one (.leaf (.at (.v 0) 64))⟩), (38, ⟨[], .one (.leaf (.at (.v 1) 3))⟩), (39, ⟨[], .one (.leaf (.at (.v 2) 3))⟩)], [(0, .box 63 (.leaf (.at (.v 3) 63))), (1, .box 68 (.agg 68 [.at (.v 4) 3, .at (.v 5) 3, .at (.v 6) 3, .at (.v 7) 3, .at (.v 8) 3, .at (.v 9) 3, .at (.v 10) 3, .at (.v 11) 3, .ref 3 66, .ref 4 66, .ref 5 66, .at (.v 12) 3, .at (.v 13) 3, .at (.v 14) 3, .at (.v 15) 3, .ref 6 22, .at (.v 16) 9])), (2, .arr 83 82 (.v 17)), (3, .arr 3 66 (.v 18)), (4, .arr 3 66 (.v 19)), (5, .arr 3 66 (.v 20)), (6, .arr 40 22 (.v 21))]⟩⟩,
  ⟨[(0, 0, [true, true, true, true, false, false, true, true, false, false, true, false, true, true, true, true]), (1, 1, []), (0, 0, [true, true, true, false, false, true, false, true, true, true, true]), (2, 0, [false, false, true, false, true, true, true, true]), (1, 0, []), (0, 0, [true, true, true, true, true])], ⟨40, 9, [(2, ⟨[], .one (.leaf (.ptr (.p 0 0)))⟩), (5, ⟨[], .one (.leaf (.ptr (.p 1 0)))⟩), (7, ⟨[], .one (.leaf (.ref 2 82))⟩), (10, ⟨[], .one (.leaf (.ptr (.p 3 0)))⟩), (11, ⟨[], .one (.leaf (.ref 4 77))⟩), (37, ⟨[], .one (.leaf (.at (.v 0) 64))⟩), (38, ⟨[], .one (.leaf (.at (.v 1) 3))⟩), (39, ⟨[], .one (.leaf (.at (.v 2) 3))⟩)], [(0, .box 63 (.leaf (.at (.v 3) 63))), (1, .box 68 (.agg 68 [.at (.v 4) 3, .at (.v 5) 3, .at (.v 6) 3, .at (.v 7) 3, .at (.v 8) 3, .at (.v 9) 3, .at (.v 10) 3, .at (.v 11) 3, .at (.v 12) 66, .at (.v 13) 66, .at (.v 14) 66, .at (.v 15) 3, .at (.v 16) 3, .at (.v 17) 3, .at (.v 18) 3, .at (.v 19) 22, .at (.v 20) 9])), (2, .arr 83 82 (.v 21)), (3, .box 68 (.agg 68 [.at (.v 22) 3, .at (.v 23) 3, .at (.v 24) 3, .at (.v 25) 3, .at (.v 26) 3, .at (.v 27) 3, .at (.v 28) 3, .at (.v 29) 3, .ref 5 66, .ref 6 66, .ref 7 66, .at (.v 30) 3, .at (.v 31) 3, .at (.v 32) 3, .at (.v 33) 3, .ref 8 22, .at (.v 34) 9])), (4, .arr 74 77 (.v 35)), (5, .arr 3 66 (.v 36)), (6, .arr 3 66 (.v 37)), (7, .arr 3 66 (.v 38)), (8, .arr 40 22 (.v 39))]⟩⟩,
  ⟨[(0, 0, [false, false, true, false, true, true, true, true, true]), (2, 0, [false, false, true, false, true, true, true, true, true]), (1, 4, []), (0, 0, [true, true, true, true, true, true])], ⟨4, 0, [(7, ⟨[], .one (.leaf (.at (.v 0) 82))⟩), (117, ⟨[], .one (.leaf (.at (.v 1) 82))⟩), (118, ⟨[], .one (.leaf (.at (.v 2) 3))⟩), (119, ⟨[], .one (.leaf (.at (.v 3) 3))⟩)], []⟩⟩,
  ⟨[(0, 0, [false, false, true, false, true, true, true, true, false, false, true, true, false, false, true, false, true, true, true, true]), (2, 0, [false, false, true, false, true, true, true, true, false, false, true, true, false, false, true, false, true, true, true, true]), (1, 2, []), (0, 0, [true, true, true, true, true, false, false, true, true, false, false, true, false, true, true, true, true]), (1, 1, []), (0, 0, [true, true, true, false, false, true, false, true, true, true, true]), (2, 0, [false, false, true, false, true, true, true, true]), (1, 0, []), (0, 0, [true, true, true, true, true])], ⟨42, 9, [(2, ⟨[], .one (.leaf (.ptr (.p 0 0)))⟩), (5, ⟨[], .one (.leaf (.ptr (.p 1 0)))⟩), (7, ⟨[], .one (.leaf (.ref 2 82))⟩), (10, ⟨[], .one (.leaf (.ptr (.p 3 0)))⟩), (37, ⟨[], .one (.leaf (.at (.v 0) 64))⟩), (38, ⟨[], .one (.leaf (.at (.v 1) 3))⟩), (39, ⟨[], .one (.leaf (.at (.v 2) 3))⟩), (93, ⟨[], .one (.leaf (.ref 4 77))⟩), (94, ⟨[], .one (.leaf (.at (.v 3) 3))⟩), (95, ⟨[], .one (.leaf (.at (.v 4) 3))⟩)], [(0, .box 63 (.leaf (.at (.v 5) 63))), (1, .box 68 (.agg 68 [.at (.v 6) 3, .at (.v 7) 3, .at (.v 8) 3, .at (.v 9) 3, .at (.v 10) 3, .at (.v 11) 3, .at (.v 12) 3, .at (.v 13) 3, .at (.v 14) 66, .at (.v 15) 66, .at (.v 16) 66, .at (.v 17) 3, .at (.v 18) 3, .at (.v 19) 3, .at (.v 20) 3, .at (.v 21) 22, .at (.v 22) 9])), (2, .arr 83 82 (.v 23)), (3, .box 68 (.agg 68 [.at (.v 24) 3, .at (.v 25) 3, .at (.v 26) 3, .at (.v 27) 3, .at (.v 28) 3, .at (.v 29) 3, .at (.v 30) 3, .at (.v 31) 3, .ref 5 66, .ref 6 66, .ref 7 66, .at (.v 32) 3, .at (.v 33) 3, .at (.v 34) 3, .at (.v 35) 3, .ref 8 22, .at (.v 36) 9])), (4, .arr 74 77 (.v 37)), (5, .arr 3 66 (.v 38)), (6, .arr 3 66 (.v 39)), (7, .arr 3 66 (.v 40)), (8, .arr 40 22 (.v 41))]⟩⟩,
  ⟨[(0, 0, [false, false, true, true, false, false, true, true, false, false, true, false, true, true, true, true, true]), (2, 0, [false, false, true, true, false, false, true, true, false, false, true, false, true, true, true, true, true]), (1, 6, []), (1, 5, []), (0, 0, [true, true, true, false, false, true, false, true, true, true, true, true]), (2, 0, [false, false, true, false, true, true, true, true, true]), (1, 4, []), (0, 0, [true, true, true, true, true, true])], ⟨8, 1, [(7, ⟨[], .one (.leaf (.at (.v 0) 82))⟩), (16, ⟨[], .one (.leaf (.ptr (.p 0 0)))⟩), (117, ⟨[], .one (.leaf (.at (.v 1) 82))⟩), (118, ⟨[], .one (.leaf (.at (.v 2) 3))⟩), (119, ⟨[], .one (.leaf (.at (.v 3) 3))⟩), (126, ⟨[], .one (.leaf (.at (.v 4) 82))⟩), (127, ⟨[], .one (.leaf (.at (.v 5) 3))⟩), (128, ⟨[], .one (.leaf (.at (.v 6) 3))⟩)], [(0, .box 83 (.leaf (.at (.v 7) 83)))]⟩⟩,
  ⟨[(1, 3, []), (0, 0, [true, true, true, false, false, true, false, true, true, true, true, false, false, true, true, false, false, true, false, true, true, true, true]), (2, 0, [false, false, true, false, true, true, true, true, false, false, true, true, false, false, true, false, true, true, true, true]), (1, 2, []), (0, 0, [true, true, true, true, true, false, false, true, true, false, false, true, false, true, true, true, true]), (1, 1, []), (0, 0, [true, true, true, false, false, true, false, true, true, true, true]), (2, 0, [false, false, true, false, true, true, true, true]), (1, 0, []), (0, 0, [true, true, true, true, true])], ⟨42, 9, [(2, ⟨[], .one (.leaf (.ptr (.p 0 0)))⟩), (5, ⟨[], .one (.leaf (.ptr (.p 1 0)))⟩), (7, ⟨[], .one (.leaf (.ref 2 82))⟩), (10, ⟨[], .one (.leaf (.ptr (.p 3 0)))⟩), (37, ⟨[], .one (.leaf (.at (.v 0) 64))⟩), (38, ⟨[], .one (.leaf (.at (.v 1) 3))⟩), (39, ⟨[], .one (.leaf (.at (.v 2) 3))⟩), (93, ⟨[], .one (.leaf (.ref 4 77))⟩), (94, ⟨[], .one (.leaf (.at (.v 3) 3))⟩), (95, ⟨[], .one (.leaf (.at (.v 4) 3))⟩)], [(0, .box 63 (.leaf (.at (.v 5) 63))), (1, .box 68 (.agg 68 [.at (.v 6) 3, .at (.v 7) 3, .at (.v 8) 3, .at (.v 9) 3, .at (.v 10) 3, .at (.v 11) 3, .at (.v 12) 3, .at (.v 13) 3, .at (.v 14) 66, .at (.v 15) 66, .at (.v 16) 66, .at (.v 17) 3, .at (.v 18) 3, .at (.v 19) 3, .at (.v 20) 3, .at (.v 21) 22, .at (.v 22) 9])), (2, .arr 83 82 (.v 23)), (3, .box 68 (.agg 68 [.at (.v 24) 3, .at (.v 25) 3, .at (.v 26) 3, .at (.v 27) 3, .at (.v 28) 3, .at (.v 29) 3, .at (.v 30) 3, .at (.v 31) 3, .ref 5 66, .ref 6 66, .ref 7 66, .at (.v 32) 3, .at (.v 33) 3, .at (.v 34) 3, .at (.v 35) 3, .ref 8 22, .at (.v 36) 9])), (4, .arr 74 77 (.v 37)), (5, .arr 3 66 (.v 38)), (6, .arr 3 66 (.v 39)), (7, .arr 3 66 (.v 40)), (8, .arr 40 22 (.v 41))]⟩⟩]
def b92 : List Blk := [
  ⟨[(0, 0, [false, false, true, false, true, true, true]), (2, 0, [false, false, true, false, true, true, true]), (1, 0, []), (0, 0, [true, true, true, true])], ⟨20, 5, [(5, ⟨[], .one (.leaf (.ptr (.p 0 0)))⟩), (33, ⟨[], .one (.leaf (.at (.v 0) 64))⟩), (34, ⟨[], .one (.leaf (.at (.v 1) 3))⟩), (35, ⟨[], .one (.leaf (.at (.v 2) 3))⟩)], [(0, .box 68 (.agg 68 [.at (.v 3) 3, .at (.v 4) 3, .at (.v 5) 3, .at (.v 6) 3, .at (.v 7) 3, .at (.v 8) 3, .at (.v 9) 3, .at (.v 10) 3, .ref 1 66, .ref 2 66, .ref 3 66, .at (.v 11) 3, .at (.v 12) 3, .at (.v 13) 3, .at (.v 14) 3, .ref 4 22, .at (.v 15) 9])), (1, .arr 3 66 (.v 16)), (2, .arr 3 66 (.v 17)), (3, .arr 3 66 (.v 18)), (4, .arr 40 22 (.v 19))]⟩⟩,
  ⟨[(0, 0, [false, false, true, false, true, true, true, true, false, false, true, true, false, false, true, false, true, true, true]), (2, 0, [false, false, true, false, true, true, true, true, false, false, true, true, false, false, true, false, true, true, true]), (1, 2, []), (0, 0, [true, true, true, true, true, false, false, true, true, false, false, true, false, true, true, true]), (1, 1, []), (0, 0, [true, true, true, false, false, true, false, true, true, true]), (2, 0, [false, false, true, false, true, true, true]), (1, 0, []), (0, 0, [true, true, true, true])], ⟨39, 6, [(5, ⟨[], .one (.leaf (.ptr (.p 0 0)))⟩), (9, ⟨[], .one (.leaf (.ptr (.p 1 0)))⟩), (12, ⟨[], .one (.leaf (.at (.v 0) 3))⟩), (14, ⟨[], .one (.leaf (.at (.v 1) 3))⟩), (33, ⟨[], .one (.leaf (.at (.v 2) 64))⟩), (34, ⟨[], .one (.leaf (.at (.v 3) 3))⟩), (35, ⟨[], .one (.leaf (.at (.v 4) 3))⟩)], [(0, .box 68 (.agg 68 [.at (.v 5) 3, .at (.v 6) 3, .at (.v 7) 3, .at (.v 8) 3, .at (.v 9) 3, .at (.v 10) 3, .at (.v 11) 3, .at (.v 12) 3, .at (.v 13) 66, .at (.v 14) 66, .at (.v 15) 66, .at (.v 16) 3, .at (.v 17) 3, .at (.v 18) 3, .at (.v 19) 3, .at (.v 20) 22, .at (.v 21) 9])), (1, .box 68 (.agg 68 [.at (.v 22) 3, .at (.v 23) 3, .at (.v 24) 3, .at (.v 25) 3, .at (.v 26) 3, .at (.v 27) 3, .at (.v 28) 3, .at (.v 29) 3, .ref 2 66, .ref 3 66, .ref 4 66, .at (.v 30) 3, .at (.v 31) 3, .at (.v 32) 3, .at (.v 33) 3, .ref 5 22, .at (.v 34) 9])), (2, .arr 3 66 (.v 35)), (3, .arr 3 66 (.v 36)), (4, .arr 3 66 (.v 37)), (5, .arr 40 22 (.v 38))]⟩⟩]
def b94 : List Blk := [
  ⟨[(0, 0, [false, false, true, false, true, true, true]), (2, 0, [false, false, true, false, true, true, true]), (1, 0, []), (0, 0, [true, true, true, true])], ⟨20, 5, [(5, ⟨[], .one (.leaf (.ptr (.p 0 0)))⟩), (40, ⟨[], .one (.leaf (.at (.v 0) 64))⟩), (41, ⟨[], .one (.leaf (.at (.v 1) 3))⟩), (42, ⟨[], .one (.leaf (.at (.v 2) 3))⟩)], [(0, .box 68 (.agg 68 [.at (.v 3) 3, .at (.v 4) 3, .at (.v 5) 3, .at (.v 6) 3, .at (.v 7) 3, .at (.v 8) 3, .at (.v 9) 3, .at (.v 10) 3, .ref 1 66, .ref 2 66, .ref 3 66, .at (.v 11) 3, .at (.v 12) 3, .at (.v 13) 3, .at (.v 14) 3, .ref 4 22, .at (.v 15) 9])), (1, .arr 3 66 (.v 16)), (2, .arr 3 66 (.v 17)), (3, .arr 3 66 (.v 18)), (4, .arr 40 22 (.v 19))]⟩⟩,
  ⟨[(0, 0, [false, false, true, true, true, true, false, true, false, true, true, false, false, true, true, false, false, true, false, true, true, true]), (2, 0, [false, false, true, true, true, true, false, true, false, true, true, false, false, true, true, false, false, true, false, true, true, true]), (1, 2, []), (0, 0, [true, true, true, false, false, true, true, false, false, true, false, true, true, true]), (1, 1, []), (0, 0, [true, true, true, false, false, true, false, true, true, true]), (2, 0, [false, false, true, false, true, true, true]), (1, 0, []), (0, 0, [true, true, true, true])], ⟨39, 6, [(5, ⟨[], .one (.leaf (.ptr (.p 0 0)))⟩), (9, ⟨[], .one (.leaf (.ptr (.p 1 0)))⟩), (12, ⟨[], .one (.leaf (.at (.v 0) 3))⟩), (16, ⟨[], .one (.leaf (.at (.v 1) 3))⟩), (40, ⟨[], .one (.leaf (.at (.v 2) 64))⟩), (41, ⟨[], .one (.leaf (.at (.v 3) 3))⟩), (42, ⟨[], .one (.leaf (.at (.v 4) 3))⟩)], [(0, .box 68 (.agg 68 [.at (.v 5) 3, .at (.v 6) 3, .at (.v 7) 3, .at (.v 8) 3, .at (.v 9) 3, .at (.v 10) 3, .at (.v 11) 3, .at (.v 12) 3, .at (.v 13) 66, .at (.v 14) 66, .at (.v 15) 66, .at (.v 16) 3, .at (.v 17) 3, .at (.v 18) 3, .at (.v 19) 3, .at (.v 20) 22, .at (.v 21) 9])), (1, .box 68 (.agg 68 [.at (.v 22) 3, .at (.v 23) 3, .at (.v 24) 3, .at (.v 25) 3, .at (.v 26) 3, .at (.v 27) 3, .at (.v 28) 3, .at (.v 29) 3, .ref 2 66, .ref 3 66, .ref 4 66, .at (.v 30) 3, .at (.v 31) 3, .at (.v 32) 3, .at (.v 33) 3, .ref 5 22, .at (.v 34) 9])), (2, .arr 3 66 (.v 35)), (3, .arr 3 66 (.v 36)), (4, .arr 3 66 (.v 37)), (5, .arr 40 22 (.v 38))]⟩⟩,
  ⟨[(0, 0, [true, true, true, false, false, true, true, false, false, true, false, true, true, true]), (1, 1, []), (0, 0, [true, true, true, false, false, true, false, true, true, true]), (2, 0, [false, false, true, false, true, true, true]), (1, 0, []), (0, 0, [true, true, true, true])], ⟨37, 6, [(5, ⟨[], .one (.leaf (.ptr (.p 0 0)))⟩), (9, ⟨[], .one (.leaf (.ptr (.p 1 0)))⟩), (40, ⟨[], .one (.leaf (.at (.v 0) 64))⟩), (41, ⟨[], .one (.leaf (.at (.v 1) 3))⟩), (42, ⟨[], .one (.leaf (.at (.v 2) 3))⟩)], [(0, .box 68 (.agg 68 [.at (.v 3) 3, .at (.v 4) 3, .at (.v 5) 3, .at (.v 6) 3, .at (.v 7) 3, .at (.v 8) 3, .at (.v 9) 3, .at (.v 10) 3, .at (.v 11) 66, .at (.v 12) 66, .at (.v 13) 66, .at (.v 14) 3, .at (.v 15) 3, .at (.v 16) 3, .at (.v 17) 3, .at (.v 18) 22, .at (.v 19) 9])), (1, .box 68 (.agg 68 [.at (.v 20) 3, .at (.v 21) 3, .at (.v 22) 3, .at (.v 23) 3, .at (.v 24) 3, .at (.v 25) 3, .at (.v 26) 3, .at (.v 27) 3, .ref 2 66, .ref 3 66, .ref 4 66, .at (.v 28) 3, .at (.v 29) 3, .at (.v 30) 3, .at (.v 31) 3, .ref 5 22, .at (.v 32) 9])), (2, .arr 3 66 (.v 33)), (3, .arr 3 66 (.v 34)), (4, .arr 3 66 (.v 35)), (5, .arr 40 22 (.v 36))]⟩⟩,
  ⟨[(0, 0, [false, false, true, false, true, false, true, false, true, true, true, false, false, true, true, false, false, true, false, true, true, true]), (2, 0, [false, false, true, false, true, false, true, false, true, true, true, false, false, true, true, false, false, true, false, true, true, true]), (1, 4, []), (0, 0, [true, true, false, true, false, true, true, true, false, false, true, true, false, false, true, false, true, true, true]), (0, 0, [true, true, true, true, false, false, true, true, false, false, true, false, true, true, true]), (1, 1, []), (0, 0, [true, true, true, false, false, true, false, true, true, true]), (2, 0, [false, false, true, false, true, true, true]), (1, 0, []), (0, 0, [true, true, true, true])], ⟨40, 6, [(5, ⟨[], .one (.leaf (.ptr (.p 0 0)))⟩), (9, ⟨[], .one (.leaf (.ptr (.p 1 0)))⟩), (17, ⟨[], .one (.leaf (.at (.v 0) 3))⟩), (40, ⟨[], .one (.leaf (.at (.v 1) 64))⟩), (41, ⟨[], .one (.leaf (.at (.v 2) 3))⟩), (42, ⟨[], .one (.leaf (.at (.v 3) 3))⟩), (130, ⟨[], .one (.leaf (.ref 2 66))⟩), (131, ⟨[], .one (.leaf (.at (.v 4) 3))⟩), (132, ⟨[], .one (.leaf (.at (.v 5) 3))⟩)], [(0, .box 68 (.agg 68 [.at (.v 6) 3, .at (.v 7) 3, .at (.v 8) 3, .at (.v 9) 3, .at (.v 10) 3, .at (.v 11) 3, .at (.v 12) 3, .at (.v 13) 3, .at (.v 14) 66, .at (.v 15) 66, .at (.v 16) 66, .at (.v 17) 3, .at (.v 18) 3, .at (.v 19) 3, .at (.v 20) 3, .at (.v 21) 22, .at (.v 22) 9])), (1, .box 68 (.agg 68 [.at (.v 23) 3, .at (.v 24) 3, .at (.v 25) 3, .at (.v 26) 3, .at (.v 27) 3, .at (.v 28) 3, .at (.v 29) 3, .at (.v 30) 3, .ref 3 66, .ref 4 66, .ref 2 66, .at (.v 31) 3, .at (.v 32) 3, .at (.v 33) 3, .at (.v 34) 3, .ref 5 22, .at (.v 35) 9])), (2, .arr 3 66 (.v 36)), (3, .arr 3 66 (.v 37)), (4, .arr 3 66 (.v 38)), (5, .arr 40 22 (.v 39))]⟩⟩,
  ⟨[(0, 0, [true, true, true, true, false, false, true, true, false, false, true, false, true, true, true]), (1, 1, []), (0, 0, [true, true, true, false, false, true, false, true, true, true]), (2, 0, [false, false, true, false, true, true, true]), (1, 0, []), (0, 0, [true, true, true, true])], ⟨37, 6, [(5, ⟨[], .one (.leaf (.ptr (.p 0 0)))⟩), (9, ⟨[], .one (.leaf (.ptr (.p 1 0)))⟩), (40, ⟨[], .one (.leaf (.at (.v 0) 64))⟩), (41, ⟨[], .one (.leaf (.at (.v 1) 3))⟩), (42, ⟨[], .one (.leaf (.at (.v 2) 3))⟩)], [(0, .box 68 (.agg 68 [.at (.v 3) 3, .at (.v 4) 3, .at (.v 5) 3, .at (.v 6) 3, .at (.v 7) 3, .at (.v 8) 3, .at (.v 9) 3, .at (.v 10) 3, .at (.v 11) 66, .at (.v 12) 66, .at (.v 13) 66, .at (.v 14) 3, .at (.v 15) 3, .at (.v 16) 3, .at (.v 17) 3, .at (.v 18) 22, .at (.v 19) 9])), (1, .box 68 (.agg 68 [.at (.v 20) 3, .at (.v 21) 3, .at (.v 22) 3, .at (.v 23) 3, .at (.v 24) 3, .at (.v 25) 3, .at (.v 26) 3, .at (.v 27) 3, .ref 2 66, .ref 3 66, .ref 4 66, .at (.v 28) 3, .at (.v 29) 3, .at (.v 30) 3, .at (.v 31) 3, .ref 5 22, .at (.v 32) 9])), (2, .arr 3 66 (.v 33)), (3, .arr 3 66 (.v 34)), (4, .arr 3 66 (.v 35)), (5, .arr 40 22 (.v 36))]⟩⟩,
  ⟨[(1, 5, []), (0, 0, [true, true, true, false, false, true, false, true, false, true, false, true, true, true, false, false, true, true, false, false, true, false, true, true, true]), (2, 0, [false, false, true, false, true, false, true, false, true, true, true, false, false, true, true, false, false, true, false, true, true, true]), (1, 4, []), (0, 0, [true, true, false, true, false, true, true, true, false, false, true, true, false, false, true, false, true, true, true]), (0, 0, [true, true, true, true, false, false, true, true, false, false, true, false, true, true, true]), (1, 1, []), (0, 0, [true, true, true, false, false, true, false, true, true, true]), (2, 0, [false, false, true, false, true, true, true]), (1, 0, []), (0, 0, [true, true, true, true])], ⟨40, 6, [(5, ⟨[], .one (.leaf (.ptr (.p 0 0)))⟩), (9, ⟨[], .one (.leaf (.ptr (.p 1 0)))⟩), (17, ⟨[], .one (.leaf (.at (.v 0) 3))⟩), (40, ⟨[], .one (.leaf (.at (.v 1) 64))⟩), (41, ⟨[], .one (.leaf (.at (.v 2) 3))⟩), (42, ⟨[], .one (.leaf (.at (.v 3) 3))⟩), (130, ⟨[], .one (.leaf (.ref 2 66))⟩), (131, ⟨[], .one (.leaf (.at (.v 4) 3))⟩), (132, ⟨[], .one (.leaf (.at (.v 5) 3))⟩)], [(0, .box 68 (.agg 68 [.at (.v 6) 3, .at (.v 7) 3, .at (.v 8) 3, .at (.v 9) 3, .at (.v 10) 3, .at (.v 11) 3, .at (.v 12) 3, .at (.v 13) 3, .at (.v 14) 66, .at (.v 15) 66, .at (.v 16) 66, .at (.v 17) 3, .at (.v 18) 3, .at (.v 19) 3, .at (.v 20) 3, .at (.v 21) 22, .at (.v 22) 9])), (1, .box 68 (.agg 68 [.at (.v 23) 3, .at (.v 24) 3, .at (.v 25) 3, .at (.v 26) 3, .at (.v 27) 3, .at (.v 28) 3, .at (.v 29) 3, .at (.v 30) 3, .ref 3 66, .ref 4 66, .ref 2 66, .at (.v 31) 3, .at (.v 32) 3, .at (.v 33) 3, .at (.v 34) 3, .ref 5 22, .at (.v 35) 9])), (2, .arr 3 66 (.v 36)), (3, .arr 3 66 (.v 37)), (4, .arr 3 66 (.v 38)), (5, .arr 40 22 (.v 39))]⟩⟩]
def b95 : List Blk := [
  ⟨[(0, 0, [false, false, true, false, true, true, true, true, true]), (2, 0, [false, false, true, false, true, true, true, true, true]), (1, 0, []), (0, 0, [true, true, true, true, true, true])], ⟨22, 7, [(1, ⟨[], .one (.leaf (.at (.v 0) 84))⟩), (3, ⟨[], .one (.leaf (.ptr (.p 0 0)))⟩), (5, ⟨[], .one (.leaf (.ptr (.p 1 0)))⟩), (7, ⟨[], .one (.leaf (.ptr (.p 2 0)))⟩), (9, ⟨[], .one (.leaf (.at (.v 1) 3))⟩), (10, ⟨[], .one (.leaf (.at (.v 2) 3))⟩)], [(0, .box 63 (.leaf (.at (.v 3) 63))), (1, .box 74 (.leaf (.at (.v 4) 74))), (2, .box 68 (.agg 68 [.at (.v 5) 3, .at (.v 6) 3, .at (.v 7) 3, .at (.v 8) 3, .at (.v 9) 3, .at (.v 10) 3, .at (.v 11) 3, .at (.v 12) 3, .ref 3 66, .ref 4 66, .ref 5 66, .at (.v 13) 3, .at (.v 14) 3, .at (.v 15) 3, .at (.v 16) 3, .ref 6 22, .at (.v 17) 9])), (3, .arr 3 66 (.v 18)), (4, .arr 3 66 (.v 19)), (5, .arr 3 66 (.v 20)), (6, .arr 40 22 (.v 21))]⟩⟩,
  ⟨[(0, 0, [true, true, false, false, true, false, true, true, true, true, true]), (2, 0, [false, false, true, false, true, true, true, true, true]), (1, 0, []), (0, 0, [true, true, true, true, true, true])], ⟨22, 7, [(1, ⟨[], .one (.leaf (.at (.v 0) 84))⟩), (3, ⟨[], .one (.leaf (.ptr (.p 0 0)))⟩), (5, ⟨[], .one (.leaf (.ptr (.p 1 0)))⟩), (7, ⟨[], .one (.leaf (.ptr (.p 2 0)))⟩), (9, ⟨[], .one (.leaf (.at (.v 1) 3))⟩), (10, ⟨[], .one (.leaf (.at (.v 2) 3))⟩)], [(0, .box 63 (.leaf (.at (.v 3) 63))), (1, .box 74 (.leaf (.at (.v 4) 74))), (2, .box 68 (.agg 68 [.at (.v 5) 3, .at (.v 6) 3, .at (.v 7) 3, .at (.v 8) 3, .at (.v 9) 3, .at (.v 10) 3, .at (.v 11) 3, .at (.v 12) 3, .ref 3 66, .ref 4 66, .ref 5 66, .at (.v 13) 3, .at (.v 14) 3, .at (.v 15) 3, .at (.v 16) 3, .ref 6 22, .at (.v 17) 9])), (3, .arr 3 66 (.v 18)), (4, .arr 3 66 (.v 19)), (5, .arr 3 66 (.v 20)), (6, .arr 40 22 (.v 21))]⟩⟩,
  ⟨[(0, 0, [true, true, true, false, false, true, false, false, true, false, true, true, true, true, true]), (1, 1, []), (0, 0, [true, true, false, false, true, false, true, true, true, true, true]), (2, 0, [false, false, true, false, true, true, true, true, true]), (1, 0, []), (0, 0, [true, true, true, true, true, true])], ⟨22, 7, [(1, ⟨[], .one (.leaf (.at (.v 0) 84))⟩), (3, ⟨[], .one (.leaf (.ptr (.p 0 0)))⟩), (5, ⟨[], .one (.leaf (.ptr (.p 1 0)))⟩), (7, ⟨[], .one (.leaf (.ptr (.p 2 0)))⟩), (9, ⟨[], .one (.leaf (.at (.v 1) 3))⟩), (10, ⟨[], .one (.leaf (.at (.v 2) 3))⟩)], [(0, .box 63 (.leaf (.at (.v 3) 63))), (1, .box 74 (.leaf (.at (.v 4) 74))), (2, .box 68 (.agg 68 [.at (.v 5) 3, .at (.v 6) 3, .at (.v 7) 3, .at (.v 8) 3, .at (.v 9) 3, .at (.v 10) 3, .at (.v 11) 3, .at (.v 12) 3, .ref 3 66, .ref 4 66, .ref 5 66, .at (.v 13) 3, .at (.v 14) 3, .at (.v 15) 3, .at (.v 16) 3, .ref 6 22, .at (.v 17) 9])), (3, .arr 3 66 (.v 18)), (4, .arr 3 66 (.v 19)), (5, .arr 3 66 (.v 20)), (6, .arr 40 22 (.v 21))]⟩⟩,
  ⟨[(0, 0, [false, false, true, false, true, true, true, true, true, true, true, true, true]), (2, 0, [false, false, true, false, true, true, true, true, true, true, true, true, true]), (1, 2, []), (0, 0, [true, true, true, true, true, true, true, true, true, true])], ⟨22, 4, [(3, ⟨[], .one (.leaf (.ptr (.p 0 0)))⟩), (5, ⟨[], .one (.leaf (.ptr (.p 1 0)))⟩), (7, ⟨[], .one (.leaf (.ptr (.p 2 0)))⟩), (148, ⟨[], .one (.leaf (.ref 3 66))⟩), (149, ⟨[], .one (.leaf (.at (.v 0) 3))⟩), (150, ⟨[], .one (.leaf (.at (.v 1) 3))⟩)], [(0, .box 63 (.leaf (.at (.v 2) 63))), (1, .box 74 (.leaf (.at (.v 3) 74))), (2, .box 68 (.agg 68 [.at (.v 4) 3, .at (.v 5) 3, .at (.v 6) 3, .at (.v 7) 3, .at (.v 8) 3, .at (.v 9) 3, .at (.v 10) 3, .at (.v 11) 3, .at (.v 12) 66, .at (.v 13) 66, .at (.v 14) 66, .at (.v 15) 3, .at (.v 16) 3, .at (.v 17) 3, .at (.v 18) 3, .at (.v 19) 22, .at (.v 20) 9])), (3, .arr 3 66 (.v 21))]⟩⟩,
  ⟨[(1, 4, []), (0, 0, [true, true, true, false, false, true, true, false, false, true, false, true, true, true, true, true, true, true, true, true]), (1, 3, []), (0, 0, [true, true, true, false, false, true, false, true, true, true, true, true, true, true, true, true]), (2, 0, [false, false, true, false, true, true, true, true, true, true, true, true, true]), (1, 2, []), (0, 0, [true, true, true, true, true, true, true, true, true, true])], ⟨32, 5, [(3, ⟨[], .one (.leaf (.ptr (.p 0 0)))⟩), (5, ⟨[], .one (.leaf (.ptr (.p 1 0)))⟩), (7, ⟨[], .one (.leaf (.ptr (.p 2 0)))⟩), (14, ⟨[], .one (.leaf (.ptr (.p 3 0)))⟩), (148, ⟨[], .one (.leaf (.ref 4 66))⟩), (149, ⟨[], .one (.leaf (.at (.v 0) 3))⟩), (150, ⟨[], .one (.leaf (.at (.v 1) 3))⟩)], [(0, .box 63 (.leaf (.at (.v 2) 63))), (1, .box 74 (.leaf (.at (.v 3) 74))), (2, .box 68 (.agg 68 [.at (.v 4) 3, .at (.v 5) 3, .at (.v 6) 3, .at (.v 7) 3, .at (.v 8) 3, .at (.v 9) 3, .at (.v 10) 3, .at (.v 11) 3, .at (.v 12) 66, .at (.v 13) 66, .at (.v 14) 66, .at (.v 15) 3, .at (.v 16) 3, .at (.v 17) 3, .at (.v 18) 3, .at (.v 19) 22, .at (.v 20) 9])), (3, .box 74 (.agg 74 [.at (.v 21) 3, .at (.v 22) 3, .at (.v 23) 3, .at (.v 24) 3, .at (.v 25) 3, .at (.v 26) 3, .at (.v 27) 3, .at (.v 28) 4, .at (.v 29) 22, .at (.v 30) 9])), (4, .arr 3 66 (.v 31))]⟩⟩]
def blks (i : Nat) : List Blk :=
  match i with
  | 0 => b0
  | 1 => b1
  | 5 => b5
  | 9 => b9
  | 15 => b15
  | 16 => b16
  | 20 => b20
  | 23 => b23
  | 26 => b26
  | 31 => b31
  | 32 => b32
  | 37 => b37
  | 38 => b38
  | 40 => b40
  | 41 => b41
  | 43 => b43
  | 45 => b45
  | 49 => b49
  | 52 => b52
  | 54 => b54
  | 57 => b57
  | 58 => b58
  | 63 => b63
  | 68 => b68
  | 69 => b69
  | 70 => b70
  | 71 => b71
  | 74 => b74
  | 77 => b77
  | 78 => b78
  | 79 => b79
  | 81 => b81
  | 82 => b82
  | 83 => b83
  | 84 => b84
  | 85 => b85
  | 90 => b90
  | 91 => b91
  | 92 => b92
  | 94 => b94
  | 95 => b95
  | _ => []
def pr (i : Nat) : Option (List IV → Option (List IV)) :=
  match i with
  | 7 => some O.cloneF
  | 8 => some O.cloneF
  | 36 => some O.insertF
  | _ => none
/-- What the functions say. -/
noncomputable def W (f b : Nat) (xs : List IV) : Option (List IV) := V (tab Try.prog specs blks 3000) pr ⟨f, b⟩ xs
theorem e_f_law26_MemberSays_0 (x0 x1 : IV) : W f_law26_MemberSays 0 [x0, x1] =
  calls (W f_law26_few 0 [x1]) 1 fun x2 =>
  (O.not x2).bind fun x3 =>
  cnd x3 (
    calls (W f_law26_lives 0 []) 1 fun x4 =>
    some [x4]) (
    (O.proj 0 x0).bind fun x4 =>
    (O.proj 1 x0).bind fun x5 =>
    (O.proj 2 x0).bind fun x6 =>
    calls (W f_member_New 0 [x4, x5, x6]) 18 fun x7 x8 x9 x10 x11 x12 x13 x14 x15 x16 x17 x18 x19 x20 x21 x22 x23 x24 =>
    calls (W f_ref26_New 0 [x4, x5, x6]) 18 fun x25 x26 x27 x28 x29 x30 x31 x32 x33 x34 x35 x36 x37 x38 x39 x40 x41 x42 =>
    (O.ne x24 x42).bind fun x43 =>
    (cnd x43 (some (.bool true)) (
        (O.mkagg [x7, x8, x9, x10, x11, x12, x13, x14, x15, x16, x17, x18, x19, x20, x21, x22, x23]).bind fun x44 =>
        (O.mkagg [x25, x26, x27, x28, x29, x30, x31, x32, x33, x34, x35, x36, x37, x38, x39, x40, x41]).bind fun x45 =>
        calls (W f_ref26_Same 0 [x44, x45]) 1 fun x46 =>
        (O.not x46).bind fun x47 =>
        some x47)).bind fun x44 =>
    cnd x44 (
      some [(.bool false)]) (
      (O.ne x24 (.int 0)).bind fun x45 =>
      cnd x45 (
        calls (W f_law26_lives 0 []) 1 fun x46 =>
        some [x46]) (
        (O.len x1).bind fun x46 =>
        (O.mkagg [x25, x26, x27, x28, x29, x30, x31, x32, x33, x34, x35, x36, x37, x38, x39, x40, x41]).bind fun x47 =>
        W f_law26_MemberSays 1 [x1, x46, (.int 0), x7, x8, x9, x10, x11, x12, x13, x14, x18, x19, x20, x21, x23, x47, x15, x16, x17, x22]))) := V_is rfl (by kernel_rfl)
theorem e_f_law26_MemberSays_1 (x0 x1 x2 x3 x4 x5 x6 x7 x8 x9 x10 x11 x12 x13 x14 x15 x16 x17 x18 x19 x20 : IV) : W f_law26_MemberSays 1 [x0, x1, x2, x3, x4, x5, x6, x7, x8, x9, x10, x11, x12, x13, x14, x15, x16, x17, x18, x19, x20] =
  (O.lt x2 x1).bind fun x21 =>
  cnd x21 (
    (O.index x0 x2).bind fun x22 =>
    (O.mkagg [x3, x4, x5, x6, x7, x8, x9, x10, x17, x18, x19, x11, x12, x13, x14, x20, x15]).bind fun x23 =>
    calls (W f_law26_do 0 [x23, x22]) 19 fun x24 x25 x26 x27 x28 x29 x30 x31 x32 x33 x34 x35 x36 x37 x38 x39 x40 x41 x42 =>
    calls (W f_ref26_Do 0 [x16, x22]) 3 fun x43 x44 x45 =>
    (O.ne x42 x45).bind fun x46 =>
    (cnd x46 (some (.bool true)) (
        (O.mkagg [x24, x25, x26, x27, x28, x29, x30, x31, x32, x33, x34, x35, x36, x37, x38, x39, x40]).bind fun x47 =>
        calls (W f_ref26_Same 0 [x47, x43]) 1 fun x48 =>
        (O.not x48).bind fun x49 =>
        some x49)).bind fun x47 =>
    (cnd x47 (some (.bool true)) (
        calls (W f_ref26_SameMessages 0 [x41, x44]) 1 fun x48 =>
        (O.not x48).bind fun x49 =>
        some x49)).bind fun x48 =>
    cnd x48 (
      some [(.bool false)]) (
      (O.add .i64 x2 (.int 1)).bind fun x49 =>
      W f_law26_MemberSays 1 [x0, x1, x49, x24, x25, x26, x27, x28, x29, x30, x31, x35, x36, x37, x38, x40, x43, x32, x33, x34, x39])) (
    calls (W f_law26_lives 0 []) 1 fun x22 =>
    some [x22]) := V_is rfl (by kernel_rfl)
theorem e_f_law26_few_0 (x0 : IV) : W f_law26_few 0 [x0] =
  (O.len x0).bind fun x1 =>
  (O.gt x1 (.int 40)).bind fun x2 =>
  cnd x2 (
    some [(.bool false)]) (
    W f_law26_few 1 [x0, x1, (.int 0)]) := V_is rfl (by kernel_rfl)
theorem e_f_law26_few_1 (x0 x1 x2 : IV) : W f_law26_few 1 [x0, x1, x2] =
  (O.lt x2 x1).bind fun x3 =>
  cnd x3 (
    (O.index x0 x2).bind fun x4 =>
    (O.proj 11 x4).bind fun x5 =>
    (O.slen x5).bind fun x6 =>
    (O.gt x6 (.int 300)).bind fun x7 =>
    (cnd x7 (
        (O.le x6 (.int 20000)).bind fun x8 =>
        some x8) (some (.bool false))).bind fun x8 =>
    (cnd x8 (some (.bool true)) (
        (O.gt x6 (.int 20010)).bind fun x9 =>
        some x9)).bind fun x9 =>
    (cnd x9 (some (.bool true)) (
        (O.proj 9 x4).bind fun x10 =>
        (O.len x10).bind fun x11 =>
        (O.gt x11 (.int 40)).bind fun x12 =>
        some x12)).bind fun x10 =>
    (cnd x10 (some (.bool true)) (
        (O.proj 10 x4).bind fun x11 =>
        (O.slen x11).bind fun x12 =>
        (O.gt x12 (.int 300)).bind fun x13 =>
        some x13)).bind fun x11 =>
    cnd x11 (
      some [(.bool false)]) (
      (O.proj 9 x4).bind fun x12 =>
      (O.len x12).bind fun x13 =>
      W f_law26_few 2 [x0, x1, x2, x12, x13, (.int 0)])) (
    some [(.bool true)]) := V_is rfl (by kernel_rfl)
theorem e_f_law26_few_2 (x0 x1 x2 x3 x4 x5 : IV) : W f_law26_few 2 [x0, x1, x2, x3, x4, x5] =
  (O.lt x5 x4).bind fun x6 =>
  cnd x6 (
    (O.index x3 x5).bind fun x7 =>
    (O.proj 1 x7).bind fun x8 =>
    (O.slen x8).bind fun x9 =>
    (O.gt x9 (.int 300)).bind fun x10 =>
    cnd x10 (
      some [(.bool false)]) (
      (O.add .i64 x5 (.int 1)).bind fun x11 =>
      W f_law26_few 2 [x0, x1, x2, x3, x4, x11])) (
    (O.add .i64 x2 (.int 1)).bind fun x7 =>
    W f_law26_few 1 [x0, x1, x7]) := V_is rfl (by kernel_rfl)
theorem e_f_law26_lives_0 : W f_law26_lives 0 [] =
  calls (W f_member_New 0 [(.int 0), (.int 3), (.int 2)]) 18 fun x0 x1 x2 x3 x4 x5 x6 x7 x8 x9 x10 x11 x12 x13 x14 x15 x16 x17 =>
  (O.mkagg [x0, x1, x2, x3, x4, x5, x6, x7, x8, x9, x10, x11, x12, x13, x14, x15, x16]).bind fun x18 =>
  calls (W f_member_Tick 0 [x18]) 18 fun x19 x20 x21 x22 x23 x24 x25 x26 x27 x28 x29 x30 x31 x32 x33 x34 x35 x36 =>
  (O.mkagg [x19, x20, x21, x22, x23, x24, x25, x26, x27, x28, x29, x30, x31, x32, x33, x34, x35]).bind fun x37 =>
  calls (W f_member_Tick 0 [x37]) 18 fun x38 x39 x40 x41 x42 x43 x44 x45 x46 x47 x48 x49 x50 x51 x52 x53 x54 x55 =>
  (O.ne x17 (.int 0)).bind fun x56 =>
  (cnd x56 (some (.bool true)) (
      (O.len x36).bind fun x57 =>
      (O.ne x57 (.int 0)).bind fun x58 =>
      some x58)).bind fun x57 =>
  (cnd x57 (some (.bool true)) (
      (O.len x55).bind fun x58 =>
      (O.ne x58 (.int 2)).bind fun x59 =>
      some x59)).bind fun x58 =>
  (cnd x58 (some (.bool true)) (
      (O.ne x40 (.int 1)).bind fun x59 =>
      some x59)).bind fun x59 =>
  (cnd x59 (some (.bool true)) (
      (O.ne x41 (.int 1)).bind fun x60 =>
      some x60)).bind fun x60 =>
  (cnd x60 (some (.bool true)) (
      (O.index x55 (.int 0)).bind fun x61 =>
      (O.proj 0 x61).bind fun x62 =>
      (O.ne x62 (.int 1)).bind fun x63 =>
      some x63)).bind fun x61 =>
  (cnd x61 (some (.bool true)) (
      (O.index x55 (.int 0)).bind fun x62 =>
      (O.proj 2 x62).bind fun x63 =>
      (O.ne x63 (.int 1)).bind fun x64 =>
      some x64)).bind fun x62 =>
  (cnd x62 (some (.bool true)) (
      (O.index x55 (.int 1)).bind fun x63 =>
      (O.proj 2 x63).bind fun x64 =>
      (O.ne x64 (.int 2)).bind fun x65 =>
      some x65)).bind fun x63 =>
  cnd x63 (
    some [(.bool false)]) (
    (O.mkagg [x38, x39, x40, x41, x42, x43, x44, x45, x46, x47, x48, x49, x50, x51, x52, x53, x54]).bind fun x64 =>
    (O.mkagg [(.int 2), (.int 2), (.int 0), (.int 1), (.int 0), (.int 0), (.int 0), (.bool true), (.list []), (.str ⟨#[]⟩)]).bind fun x65 =>
    calls (W f_member_Handle 0 [x64, x65]) 18 fun x66 x67 x68 x69 x70 x71 x72 x73 x74 x75 x76 x77 x78 x79 x80 x81 x82 x83 =>
    (O.ne x68 (.int 2)).bind fun x84 =>
    (cnd x84 (some (.bool true)) (
        (O.len x83).bind fun x85 =>
        (O.ne x85 (.int 2)).bind fun x86 =>
        some x86)).bind fun x85 =>
    (cnd x85 (some (.bool true)) (
        (O.index x83 (.int 0)).bind fun x86 =>
        (O.proj 0 x86).bind fun x87 =>
        (O.ne x87 (.int 3)).bind fun x88 =>
        some x88)).bind fun x86 =>
    (cnd x86 (some (.bool true)) (
        (O.index x83 (.int 0)).bind fun x87 =>
        (O.proj 8 x87).bind fun x88 =>
        (O.len x88).bind fun x89 =>
        (O.ne x89 (.int 1)).bind fun x90 =>
        some x90)).bind fun x87 =>
    (cnd x87 (some (.bool true)) (
        (O.index x83 (.int 0)).bind fun x88 =>
        (O.proj 4 x88).bind fun x89 =>
        (O.ne x89 (.int 0)).bind fun x90 =>
        some x90)).bind fun x88 =>
    cnd x88 (
      some [(.bool false)]) (
      (O.mkagg [x66, x67, x68, x69, x70, x71, x72, x73, x74, x75, x76, x77, x78, x79, x80, x81, x82]).bind fun x89 =>
      (O.mkagg [(.int 4), (.int 1), (.int 0), (.int 1), (.int 1), (.int 0), (.int 0), (.bool true), (.list []), (.str ⟨#[]⟩)]).bind fun x90 =>
      calls (W f_member_Handle 0 [x89, x90]) 18 fun x91 x92 x93 x94 x95 x96 x97 x98 x99 x100 x101 x102 x103 x104 x105 x106 x107 x108 =>
      (O.mkagg [x91, x92, x93, x94, x95, x96, x97, x98, x99, x100, x101, x102, x103, x104, x105, x106, x107]).bind fun x109 =>
      (O.mkagg [(.int 3), (.int 1), (.int 0), (.int 0), (.int 0), (.int 0), (.int 0), (.bool false), (.list []), (.str ⟨#[]⟩)]).bind fun x110 =>
      calls (W f_member_Handle 0 [x109, x110]) 18 fun x111 x112 x113 x114 x115 x116 x117 x118 x119 x120 x121 x122 x123 x124 x125 x126 x127 x128 =>
      calls (W f_member_Compact 0 [x109, (.int 1), (.str ⟨#[115]⟩)]) 18 fun x129 x130 x131 x132 x133 x134 x135 x136 x137 x138 x139 x140 x141 x142 x143 x144 x145 x146 =>
      calls (W f_member_Restart 0 [x109]) 17 fun x147 x148 x149 x150 x151 x152 x153 x154 x155 x156 x157 x158 x159 x160 x161 x162 x163 =>
      (O.mkagg [x147, x148, x149, x150, x151, x152, x153, x154, x155, x156, x157, x158, x159, x160, x161, x162, x163]).bind fun x164 =>
      calls (W f_member_Propose 0 [x164, (.str ⟨#[120]⟩)]) 19 fun x165 x166 x167 x168 x169 x170 x171 x172 x173 x174 x175 x176 x177 x178 x179 x180 x181 x182 x183 =>
      (O.eq x102 (.int 1)).bind fun x184 =>
      (cnd x184 (
          (O.eq x103 (.int 1)).bind fun x185 =>
          some x185) (some (.bool false))).bind fun x185 =>
      (cnd x185 (
          (O.len x128).bind fun x186 =>
          (O.eq x186 (.int 1)).bind fun x187 =>
          some x187) (some (.bool false))).bind fun x186 =>
      (cnd x186 (
          (O.index x128 (.int 0)).bind fun x187 =>
          (O.proj 0 x187).bind fun x188 =>
          (O.eq x188 (.int 4)).bind fun x189 =>
          some x189) (some (.bool false))).bind fun x187 =>
      (cnd x187 (
          (O.index x128 (.int 0)).bind fun x188 =>
          (O.proj 7 x188).bind fun x189 =>
          (O.not x189).bind fun x190 =>
          some x190) (some (.bool false))).bind fun x188 =>
      (cnd x188 (
          (O.index x128 (.int 0)).bind fun x189 =>
          (O.proj 3 x189).bind fun x190 =>
          (O.eq x190 (.int 1)).bind fun x191 =>
          some x191) (some (.bool false))).bind fun x189 =>
      (cnd x189 (
          (O.eq x146 (.int 0)).bind fun x190 =>
          some x190) (some (.bool false))).bind fun x190 =>
      (cnd x190 (
          (O.eq x142 (.int 1)).bind fun x191 =>
          some x191) (some (.bool false))).bind fun x191 =>
      (cnd x191 (
          (O.eq x183 (.int 17)).bind fun x192 =>
          some x192) (some (.bool false))).bind fun x192 =>
      some [x192])) := V_is rfl (by kernel_rfl)
theorem e_f_member_New_0 (x0 x1 x2 : IV) : W f_member_New 0 [x0, x1, x2] =
  (O.lt x1 (.int 1)).bind fun x3 =>
  (cnd x3 (some (.bool true)) (
      (O.gt x1 (.int 7)).bind fun x4 =>
      some x4)).bind fun x4 =>
  (cnd x4 (some (.bool true)) (
      (O.lt x0 (.int 0)).bind fun x5 =>
      some x5)).bind fun x5 =>
  (cnd x5 (some (.bool true)) (
      (O.ge x0 x1).bind fun x6 =>
      some x6)).bind fun x6 =>
  (cnd x6 (some (.bool true)) (
      (O.lt x2 (.int 1)).bind fun x7 =>
      some x7)).bind fun x7 =>
  (cnd x7 (some (.bool true)) (
      (O.gt x2 (.int 1000000000000)).bind fun x8 =>
      some x8)).bind fun x8 =>
  cnd x8 (
    some [(.int 0), (.int 0), (.int 0), (.int 0), (.int 0), (.int 0), (.int 0), (.int 0), (.list []), (.list []), (.list []), (.int 0), (.int 0), (.int 0), (.int 0), (.list []), (.str ⟨#[]⟩), (.int 1)]) (
    calls (W f_rlog_New 0 []) 3 fun x9 x10 x11 =>
    some [x0, x1, (.int 0), (.int 0), (.int (-1)), (.int (-1)), (.int 0), x2, (.list []), (.list []), (.list []), (.int 0), (.int 0), x9, x10, x11, (.str ⟨#[]⟩), (.int 0)]) := V_is rfl (by kernel_rfl)
theorem e_f_rlog_New_0 : W f_rlog_New 0 [] =
  some [(.int 0), (.int 0), (.list [])] := V_is rfl (by kernel_rfl)
theorem e_f_member_Tick_0 (x0 : IV) : W f_member_Tick 0 [x0] =
  calls (W f_member_copied 0 [x0]) 17 fun x1 x2 x3 x4 x5 x6 x7 x8 x9 x10 x11 x12 x13 x14 x15 x16 x17 =>
  (O.eq x3 (.int 2)).bind fun x18 =>
  cnd x18 (
    calls (W f_member_node_broadcast 0 [x1, x2, x3, x4, x5, x6, x7, x8, x9, x10, x11, x12, x13, x14, x15, x16, x17, (.list [])]) 18 fun x19 x20 x21 x22 x23 x24 x25 x26 x27 x28 x29 x30 x31 x32 x33 x34 x35 x36 =>
    some [x19, x20, x21, x22, x23, x24, x25, x26, x27, x28, x29, x30, x31, x32, x33, x34, x35, x36]) (
    (O.add .i64 x7 (.int 1)).bind fun x19 =>
    (O.ge x19 x8).bind fun x20 =>
    (cnd x20 (
        (O.lt x4 (.int 1000000000000000)).bind fun x21 =>
        some x21) (some (.bool false))).bind fun x21 =>
    cnd x21 (
      calls (W f_member_node_elect 0 [x1, x2, x3, x4, x5, x6, x19, x8, x9, x10, x11, x12, x13, x14, x15, x16, x17, (.list [])]) 18 fun x22 x23 x24 x25 x26 x27 x28 x29 x30 x31 x32 x33 x34 x35 x36 x37 x38 x39 =>
      W f_member_Tick 1 [(.int 0), (.int 0), (.int 0), (.int 0), (.int 0), (.int 0), (.int 0), (.int 0), (.int 0), (.int 0), (.int 0), (.int 0), (.str ⟨#[]⟩), x22, x23, x24, x25, x26, x27, x28, x29, x33, x34, x35, x36, x38, x30, x31, x32, x37, x39]) (
      W f_member_Tick 1 [(.int 0), (.int 0), (.int 0), (.int 0), (.int 0), (.int 0), (.int 0), (.int 0), (.int 0), (.int 0), (.int 0), (.int 0), (.str ⟨#[]⟩), x1, x2, x3, x4, x5, x6, x19, x8, x12, x13, x14, x15, x17, x9, x10, x11, x16, (.list [])])) := V_is rfl (by kernel_rfl)
theorem e_f_member_Tick_1 (x0 x1 x2 x3 x4 x5 x6 x7 x8 x9 x10 x11 x12 x13 x14 x15 x16 x17 x18 x19 x20 x21 x22 x23 x24 x25 x26 x27 x28 x29 x30 : IV) : W f_member_Tick 1 [x0, x1, x2, x3, x4, x5, x6, x7, x8, x9, x10, x11, x12, x13, x14, x15, x16, x17, x18, x19, x20, x21, x22, x23, x24, x25, x26, x27, x28, x29, x30] =
  some [x13, x14, x15, x16, x17, x18, x19, x20, x26, x27, x28, x21, x22, x23, x24, x29, x25, x30] := V_is rfl (by kernel_rfl)
theorem e_f_member_copied_0 (x0 : IV) : W f_member_copied 0 [x0] =
  (O.proj 8 x0).bind fun x1 =>
  calls (W f_slices_Clone 0 [x1]) 1 fun x2 =>
  (O.proj 9 x0).bind fun x3 =>
  calls (W f_slices_Clone 0 [x3]) 1 fun x4 =>
  (O.proj 10 x0).bind fun x5 =>
  calls (W f_slices_Clone 0 [x5]) 1 fun x6 =>
  (O.proj 0 x0).bind fun x7 =>
  (O.proj 1 x0).bind fun x8 =>
  (O.proj 2 x0).bind fun x9 =>
  (O.proj 3 x0).bind fun x10 =>
  (O.proj 4 x0).bind fun x11 =>
  (O.proj 5 x0).bind fun x12 =>
  (O.proj 6 x0).bind fun x13 =>
  (O.proj 7 x0).bind fun x14 =>
  (O.proj 11 x0).bind fun x15 =>
  (O.proj 12 x0).bind fun x16 =>
  (O.proj 13 x0).bind fun x17 =>
  (O.proj 14 x0).bind fun x18 =>
  (O.proj 15 x0).bind fun x19 =>
  (O.proj 16 x0).bind fun x20 =>
  calls (W f_slices_Clone_v2 0 [x19]) 1 fun x21 =>
  some [x7, x8, x9, x10, x11, x12, x13, x14, x2, x4, x6, x15, x16, x17, x18, x21, x20] := V_is rfl (by kernel_rfl)
theorem e_f_slices_Clone (xs : List IV) : W f_slices_Clone 0 xs = O.cloneF xs := V_eq _ _ _ _
theorem e_f_slices_Clone_v2 (xs : List IV) : W f_slices_Clone_v2 0 xs = O.cloneF xs := V_eq _ _ _ _
theorem e_f_member_node_broadcast_0 (x0 x1 x2 x3 x4 x5 x6 x7 x8 x9 x10 x11 x12 x13 x14 x15 x16 x17 : IV) : W f_member_node_broadcast 0 [x0, x1, x2, x3, x4, x5, x6, x7, x8, x9, x10, x11, x12, x13, x14, x15, x16, x17] =
  W f_member_node_broadcast 1 [x1, (.int 0), x0, x1, x2, x3, x4, x5, x6, x7, x11, x12, x13, x14, x16, x8, x9, x10, x15, x17] := V_is rfl (by kernel_rfl)
theorem e_f_member_node_broadcast_1 (x0 x1 x2 x3 x4 x5 x6 x7 x8 x9 x10 x11 x12 x13 x14 x15 x16 x17 x18 x19 : IV) : W f_member_node_broadcast 1 [x0, x1, x2, x3, x4, x5, x6, x7, x8, x9, x10, x11, x12, x13, x14, x15, x16, x17, x18, x19] =
  (O.lt x1 x0).bind fun x20 =>
  cnd x20 (
    (O.ne x1 x2).bind fun x21 =>
    cnd x21 (
      calls (W f_member_node_appendTo 0 [x2, x3, x4, x5, x6, x7, x8, x9, x15, x16, x17, x10, x11, x12, x13, x18, x14, x19, x1]) 18 fun x22 x23 x24 x25 x26 x27 x28 x29 x30 x31 x32 x33 x34 x35 x36 x37 x38 x39 =>
      W f_member_node_broadcast 2 [x0, x1, x22, x23, x24, x25, x26, x27, x28, x29, x33, x34, x35, x36, x38, x30, x31, x32, x37, x39]) (
      W f_member_node_broadcast 2 [x0, x1, x2, x3, x4, x5, x6, x7, x8, x9, x10, x11, x12, x13, x14, x15, x16, x17, x18, x19])) (
    some [x2, x3, x4, x5, x6, x7, x8, x9, x15, x16, x17, x10, x11, x12, x13, x18, x14, x19]) := V_is rfl (by kernel_rfl)
theorem e_f_member_node_broadcast_2 (x0 x1 x2 x3 x4 x5 x6 x7 x8 x9 x10 x11 x12 x13 x14 x15 x16 x17 x18 x19 : IV) : W f_member_node_broadcast 2 [x0, x1, x2, x3, x4, x5, x6, x7, x8, x9, x10, x11, x12, x13, x14, x15, x16, x17, x18, x19] =
  (O.add .i64 x1 (.int 1)).bind fun x20 =>
  W f_member_node_broadcast 1 [x0, x20, x2, x3, x4, x5, x6, x7, x8, x9, x10, x11, x12, x13, x14, x15, x16, x17, x18, x19] := V_is rfl (by kernel_rfl)
theorem e_f_member_node_appendTo_0 (x0 x1 x2 x3 x4 x5 x6 x7 x8 x9 x10 x11 x12 x13 x14 x15 x16 x17 x18 : IV) : W f_member_node_appendTo 0 [x0, x1, x2, x3, x4, x5, x6, x7, x8, x9, x10, x11, x12, x13, x14, x15, x16, x17, x18] =
  (O.index x9 x18).bind fun x19 =>
  (O.le x19 x13).bind fun x20 =>
  cnd x20 (
    (O.mkagg [(.int 5), (.int 0), (.int 0), (.int 0), x13, x14, (.int 0), (.bool false), (.list []), x16]).bind fun x21 =>
    calls (W f_member_node_send 0 [x0, x1, x2, x3, x4, x5, x6, x7, x8, x9, x10, x11, x12, x13, x14, x15, x16, x17, x18, x21]) 18 fun x22 x23 x24 x25 x26 x27 x28 x29 x30 x31 x32 x33 x34 x35 x36 x37 x38 x39 =>
    some [x22, x23, x24, x25, x26, x27, x28, x29, x30, x31, x32, x33, x34, x35, x36, x37, x38, x39]) (
    (O.sub .i64 x19 (.int 1)).bind fun x21 =>
    (O.mkagg [x13, x14, x15]).bind fun x22 =>
    calls (W f_rlog_TermAt 0 [x22, x21]) 2 fun x23 x24 =>
    calls (W f_rlog_From 0 [x22, x19, (.int 8)]) 2 fun x25 x26 =>
    (O.mkagg [(.int 3), (.int 0), (.int 0), (.int 0), x21, x23, x11, (.bool false), x25, (.str ⟨#[]⟩)]).bind fun x27 =>
    calls (W f_member_node_send 0 [x0, x1, x2, x3, x4, x5, x6, x7, x8, x9, x10, x11, x12, x13, x14, x15, x16, x17, x18, x27]) 18 fun x28 x29 x30 x31 x32 x33 x34 x35 x36 x37 x38 x39 x40 x41 x42 x43 x44 x45 =>
    some [x28, x29, x30, x31, x32, x33, x34, x35, x36, x37, x38, x39, x40, x41, x42, x43, x44, x45]) := V_is rfl (by kernel_rfl)
theorem e_f_member_node_send_0 (x0 x1 x2 x3 x4 x5 x6 x7 x8 x9 x10 x11 x12 x13 x14 x15 x16 x17 x18 x19 : IV) : W f_member_node_send 0 [x0, x1, x2, x3, x4, x5, x6, x7, x8, x9, x10, x11, x12, x13, x14, x15, x16, x17, x18, x19] =
  (O.proj 0 x19).bind fun x20 =>
  (O.proj 1 x19).bind fun x21 =>
  (O.proj 2 x19).bind fun x22 =>
  (O.proj 3 x19).bind fun x23 =>
  (O.proj 4 x19).bind fun x24 =>
  (O.proj 5 x19).bind fun x25 =>
  (O.proj 6 x19).bind fun x26 =>
  (O.proj 7 x19).bind fun x27 =>
  (O.proj 8 x19).bind fun x28 =>
  (O.proj 9 x19).bind fun x29 =>
  (O.mkagg [x20, x0, x18, x3, x24, x25, x26, x27, x28, x29]).bind fun x30 =>
  (O.mklist [x30]).bind fun x31 =>
  (O.append 104 x17 x31).bind fun x32 =>
  some [x0, x1, x2, x3, x4, x5, x6, x7, x8, x9, x10, x11, x12, x13, x14, x15, x16, x32] := V_is rfl (by kernel_rfl)
theorem e_f_rlog_TermAt_0 (x0 x1 : IV) : W f_rlog_TermAt 0 [x0, x1] =
  calls (W f_rlog_Last 0 [x0]) 2 fun x2 x3 =>
  (O.proj 0 x0).bind fun x4 =>
  (O.lt x1 x4).bind fun x5 =>
  (cnd x5 (some (.bool true)) (
      (O.gt x1 x2).bind fun x6 =>
      some x6)).bind fun x6 =>
  cnd x6 (
    some [(.int 0), (.bool false)]) (
    (O.eq x1 x4).bind fun x7 =>
    cnd x7 (
      (O.proj 1 x0).bind fun x8 =>
      some [x8, (.bool true)]) (
      (O.proj 2 x0).bind fun x8 =>
      (O.sub .i64 x1 x4).bind fun x9 =>
      (O.sub .i64 x9 (.int 1)).bind fun x10 =>
      (O.index x8 x10).bind fun x11 =>
      (O.proj 0 x11).bind fun x12 =>
      some [x12, (.bool true)])) := V_is rfl (by kernel_rfl)
theorem e_f_rlog_Last_0 (x0 : IV) : W f_rlog_Last 0 [x0] =
  (O.proj 2 x0).bind fun x1 =>
  (O.len x1).bind fun x2 =>
  (O.gt x2 (.int 0)).bind fun x3 =>
  cnd x3 (
    (O.proj 0 x0).bind fun x4 =>
    (O.add .i64 x4 x2).bind fun x5 =>
    (O.sub .i64 x2 (.int 1)).bind fun x6 =>
    (O.index x1 x6).bind fun x7 =>
    (O.proj 0 x7).bind fun x8 =>
    some [x5, x8]) (
    (O.proj 0 x0).bind fun x4 =>
    (O.proj 1 x0).bind fun x5 =>
    some [x4, x5]) := V_is rfl (by kernel_rfl)
theorem e_f_rlog_From_0 (x0 x1 x2 : IV) : W f_rlog_From 0 [x0, x1, x2] =
  calls (W f_rlog_Last 0 [x0]) 2 fun x3 x4 =>
  (O.proj 0 x0).bind fun x5 =>
  (O.le x1 x5).bind fun x6 =>
  (cnd x6 (some (.bool true)) (
      (O.add .i64 x3 (.int 1)).bind fun x7 =>
      (O.gt x1 x7).bind fun x8 =>
      some x8)).bind fun x7 =>
  cnd x7 (
    some [(.list []), (.bool false)]) (
    (O.proj 2 x0).bind fun x8 =>
    (O.sub .i64 x1 x5).bind fun x9 =>
    (O.sub .i64 x9 (.int 1)).bind fun x10 =>
    (O.sliceLo x8 x10).bind fun x11 =>
    (O.max (.int 0) x2).bind fun x12 =>
    (O.len x11).bind fun x13 =>
    (O.min x12 x13).bind fun x14 =>
    (O.slice x11 (.int 0) x14).bind fun x15 =>
    calls (W f_slices_Clone_v2 0 [x15]) 1 fun x16 =>
    some [x16, (.bool true)]) := V_is rfl (by kernel_rfl)
theorem e_f_member_node_elect_0 (x0 x1 x2 x3 x4 x5 x6 x7 x8 x9 x10 x11 x12 x13 x14 x15 x16 x17 : IV) : W f_member_node_elect 0 [x0, x1, x2, x3, x4, x5, x6, x7, x8, x9, x10, x11, x12, x13, x14, x15, x16, x17] =
  (O.add .i64 x3 (.int 1)).bind fun x18 =>
  (O.mklist [x0]).bind fun x19 =>
  (O.eq x1 (.int 1)).bind fun x20 =>
  cnd x20 (
    calls (W f_member_node_lead 0 [x0, x1, (.int 1), x18, x0, (.int (-1)), (.int 0), x7, x19, x9, x10, x11, x12, x13, x14, x15, x16, x17]) 18 fun x21 x22 x23 x24 x25 x26 x27 x28 x29 x30 x31 x32 x33 x34 x35 x36 x37 x38 =>
    some [x21, x22, x23, x24, x25, x26, x27, x28, x29, x30, x31, x32, x33, x34, x35, x36, x37, x38]) (
    (O.mkagg [x13, x14, x15]).bind fun x21 =>
    calls (W f_rlog_Last 0 [x21]) 2 fun x22 x23 =>
    W f_member_node_elect 1 [x22, x23, x1, (.int 0), x0, x1, (.int 1), x18, x0, (.int (-1)), (.int 0), x7, x11, x12, x13, x14, x16, x19, x9, x10, x15, x17]) := V_is rfl (by kernel_rfl)
theorem e_f_member_node_elect_1 (x0 x1 x2 x3 x4 x5 x6 x7 x8 x9 x10 x11 x12 x13 x14 x15 x16 x17 x18 x19 x20 x21 : IV) : W f_member_node_elect 1 [x0, x1, x2, x3, x4, x5, x6, x7, x8, x9, x10, x11, x12, x13, x14, x15, x16, x17, x18, x19, x20, x21] =
  (O.lt x3 x2).bind fun x22 =>
  cnd x22 (
    (O.ne x3 x4).bind fun x23 =>
    cnd x23 (
      (O.mkagg [(.int 1), (.int 0), (.int 0), (.int 0), x0, x1, (.int 0), (.bool false), (.list []), (.str ⟨#[]⟩)]).bind fun x24 =>
      calls (W f_member_node_send 0 [x4, x5, x6, x7, x8, x9, x10, x11, x17, x18, x19, x12, x13, x14, x15, x20, x16, x21, x3, x24]) 18 fun x25 x26 x27 x28 x29 x30 x31 x32 x33 x34 x35 x36 x37 x38 x39 x40 x41 x42 =>
      W f_member_node_elect 2 [x0, x1, x2, x3, x25, x26, x27, x28, x29, x30, x31, x32, x36, x37, x38, x39, x41, x33, x34, x35, x40, x42]) (
      W f_member_node_elect 2 [x0, x1, x2, x3, x4, x5, x6, x7, x8, x9, x10, x11, x12, x13, x14, x15, x16, x17, x18, x19, x20, x21])) (
    some [x4, x5, x6, x7, x8, x9, x10, x11, x17, x18, x19, x12, x13, x14, x15, x20, x16, x21]) := V_is rfl (by kernel_rfl)
theorem e_f_member_node_elect_2 (x0 x1 x2 x3 x4 x5 x6 x7 x8 x9 x10 x11 x12 x13 x14 x15 x16 x17 x18 x19 x20 x21 : IV) : W f_member_node_elect 2 [x0, x1, x2, x3, x4, x5, x6, x7, x8, x9, x10, x11, x12, x13, x14, x15, x16, x17, x18, x19, x20, x21] =
  (O.add .i64 x3 (.int 1)).bind fun x22 =>
  W f_member_node_elect 1 [x0, x1, x2, x22, x4, x5, x6, x7, x8, x9, x10, x11, x12, x13, x14, x15, x16, x17, x18, x19, x20, x21] := V_is rfl (by kernel_rfl)
theorem e_f_member_node_lead_0 (x0 x1 x2 x3 x4 x5 x6 x7 x8 x9 x10 x11 x12 x13 x14 x15 x16 x17 : IV) : W f_member_node_lead 0 [x0, x1, x2, x3, x4, x5, x6, x7, x8, x9, x10, x11, x12, x13, x14, x15, x16, x17] =
  (O.zeros 8 (.int 0) x1 x1).bind fun x18 =>
  (O.zeros 8 (.int 0) x1 x1).bind fun x19 =>
  (O.len x18).bind fun x20 =>
  W f_member_node_lead 1 [x20, (.int 0), x0, x1, (.int 2), x3, x4, x0, (.int 0), x7, x11, x12, x13, x14, x16, x18, x19, x15, x17] := V_is rfl (by kernel_rfl)
theorem e_f_member_node_lead_1 (x0 x1 x2 x3 x4 x5 x6 x7 x8 x9 x10 x11 x12 x13 x14 x15 x16 x17 x18 : IV) : W f_member_node_lead 1 [x0, x1, x2, x3, x4, x5, x6, x7, x8, x9, x10, x11, x12, x13, x14, x15, x16, x17, x18] =
  (O.lt x1 x0).bind fun x19 =>
  cnd x19 (
    (O.mkagg [x2, x3, x4, x5, x6, x7, x8, x9, (.list []), x15, x16, x10, x11, x12, x13, x17, x14, x18]).bind fun x20 =>
    calls (W f_member_node_last 0 [x20]) 1 fun x21 =>
    (O.add .i64 x21 (.int 1)).bind fun x22 =>
    (O.index x15 x1).bind fun x23 =>
    (O.setAt 0 1 false true x15 x1 x22).bind fun x24 =>
    (O.add .i64 x1 (.int 1)).bind fun x25 =>
    W f_member_node_lead 1 [x0, x25, x2, x3, x4, x5, x6, x7, x8, x9, x10, x11, x12, x13, x14, x24, x16, x17, x18]) (
    (O.len x17).bind fun x20 =>
    (O.lt x20 (.int 400)).bind fun x21 =>
    cnd x21 (
      calls (W f_member_node_add 0 [x2, x3, x4, x5, x6, x7, x8, x9, (.list []), x15, x16, x10, x11, x12, x13, x17, x14, x18, (.str ⟨#[]⟩)]) 18 fun x22 x23 x24 x25 x26 x27 x28 x29 x30 x31 x32 x33 x34 x35 x36 x37 x38 x39 =>
      W f_member_node_lead 2 [x22, x23, x24, x25, x26, x27, x28, x29, x33, x34, x35, x36, x38, x30, x31, x32, x37, x39]) (
      W f_member_node_lead 2 [x2, x3, x4, x5, x6, x7, x8, x9, x10, x11, x12, x13, x14, (.list []), x15, x16, x17, x18])) := V_is rfl (by kernel_rfl)
theorem e_f_member_node_lead_2 (x0 x1 x2 x3 x4 x5 x6 x7 x8 x9 x10 x11 x12 x13 x14 x15 x16 x17 : IV) : W f_member_node_lead 2 [x0, x1, x2, x3, x4, x5, x6, x7, x8, x9, x10, x11, x12, x13, x14, x15, x16, x17] =
  calls (W f_member_node_own 0 [x0, x1, x2, x3, x4, x5, x6, x7, x13, x14, x15, x8, x9, x10, x11, x16, x12, x17]) 18 fun x18 x19 x20 x21 x22 x23 x24 x25 x26 x27 x28 x29 x30 x31 x32 x33 x34 x35 =>
  calls (W f_member_node_broadcast 0 [x18, x19, x20, x21, x22, x23, x24, x25, x26, x27, x28, x29, x30, x31, x32, x33, x34, x35]) 18 fun x36 x37 x38 x39 x40 x41 x42 x43 x44 x45 x46 x47 x48 x49 x50 x51 x52 x53 =>
  (O.eq x37 (.int 1)).bind fun x54 =>
  cnd x54 (
    calls (W f_member_node_advance 0 [x36, x37, x38, x39, x40, x41, x42, x43, x44, x45, x46, x47, x48, x49, x50, x51, x52, x53]) 18 fun x55 x56 x57 x58 x59 x60 x61 x62 x63 x64 x65 x66 x67 x68 x69 x70 x71 x72 =>
    some [x55, x56, x57, x58, x59, x60, x61, x62, x63, x64, x65, x66, x67, x68, x69, x70, x71, x72]) (
    some [x36, x37, x38, x39, x40, x41, x42, x43, x44, x45, x46, x47, x48, x49, x50, x51, x52, x53]) := V_is rfl (by kernel_rfl)
theorem e_f_member_node_last_0 (x0 : IV) : W f_member_node_last 0 [x0] =
  (O.projs 13 3 x0).bind fun x1 =>
  calls (W f_rlog_Last 0 [x1]) 2 fun x2 x3 =>
  some [x2] := V_is rfl (by kernel_rfl)
theorem e_f_member_node_add_0 (x0 x1 x2 x3 x4 x5 x6 x7 x8 x9 x10 x11 x12 x13 x14 x15 x16 x17 x18 : IV) : W f_member_node_add 0 [x0, x1, x2, x3, x4, x5, x6, x7, x8, x9, x10, x11, x12, x13, x14, x15, x16, x17, x18] =
  (O.mkagg [x3, x18]).bind fun x19 =>
  (O.mklist [x19]).bind fun x20 =>
  (O.append 24 x15 x20).bind fun x21 =>
  some [x0, x1, x2, x3, x4, x5, x6, x7, x8, x9, x10, x11, x12, x13, x14, x21, x16, x17] := V_is rfl (by kernel_rfl)
theorem e_f_member_node_own_0 (x0 x1 x2 x3 x4 x5 x6 x7 x8 x9 x10 x11 x12 x13 x14 x15 x16 x17 : IV) : W f_member_node_own 0 [x0, x1, x2, x3, x4, x5, x6, x7, x8, x9, x10, x11, x12, x13, x14, x15, x16, x17] =
  (O.mkagg [x0, x1, x2, x3, x4, x5, x6, x7, x8, x9, x10, x11, x12, x13, x14, x15, x16, x17]).bind fun x18 =>
  calls (W f_member_node_last 0 [x18]) 1 fun x19 =>
  calls (W f_member_node_last 0 [x18]) 1 fun x20 =>
  (O.add .i64 x20 (.int 1)).bind fun x21 =>
  (O.index x10 x0).bind fun x22 =>
  (O.setAt 0 1 false true x10 x0 x19).bind fun x23 =>
  (O.index x9 x0).bind fun x24 =>
  (O.setAt 0 1 false true x9 x0 x21).bind fun x25 =>
  some [x0, x1, x2, x3, x4, x5, x6, x7, x8, x25, x23, x11, x12, x13, x14, x15, x16, x17] := V_is rfl (by kernel_rfl)
theorem e_f_member_node_advance_0 (x0 x1 x2 x3 x4 x5 x6 x7 x8 x9 x10 x11 x12 x13 x14 x15 x16 x17 : IV) : W f_member_node_advance 0 [x0, x1, x2, x3, x4, x5, x6, x7, x8, x9, x10, x11, x12, x13, x14, x15, x16, x17] =
  (O.mkagg [x0, x1, x2, x3, x4, x5, x6, x7, x8, x9, x10, x11, x12, x13, x14, x15, x16, x17]).bind fun x18 =>
  calls (W f_member_node_last 0 [x18]) 1 fun x19 =>
  W f_member_node_advance 1 [x19, x0, x1, x2, x3, x4, x5, x6, x7, x11, x12, x13, x14, x16, x8, x9, x10, x15, x17] := V_is rfl (by kernel_rfl)
theorem e_f_member_node_advance_1 (x0 x1 x2 x3 x4 x5 x6 x7 x8 x9 x10 x11 x12 x13 x14 x15 x16 x17 x18 : IV) : W f_member_node_advance 1 [x0, x1, x2, x3, x4, x5, x6, x7, x8, x9, x10, x11, x12, x13, x14, x15, x16, x17, x18] =
  (O.gt x0 x9).bind fun x19 =>
  cnd x19 (
    (O.len x16).bind fun x20 =>
    W f_member_node_advance 2 [x0, (.int 0), x20, (.int 0), x1, x2, x3, x4, x5, x6, x7, x8, x9, x10, x11, x12, x13, x16, x14, x15, x17, x18]) (
    some [x1, x2, x3, x4, x5, x6, x7, x8, x14, x15, x16, x9, x10, x11, x12, x17, x13, x18]) := V_is rfl (by kernel_rfl)
theorem e_f_member_node_advance_2 (x0 x1 x2 x3 x4 x5 x6 x7 x8 x9 x10 x11 x12 x13 x14 x15 x16 x17 x18 x19 x20 x21 : IV) : W f_member_node_advance 2 [x0, x1, x2, x3, x4, x5, x6, x7, x8, x9, x10, x11, x12, x13, x14, x15, x16, x17, x18, x19, x20, x21] =
  (O.lt x3 x2).bind fun x22 =>
  cnd x22 (
    (O.index x17 x3).bind fun x23 =>
    (O.ge x23 x0).bind fun x24 =>
    cnd x24 (
      (O.add .i64 x1 (.int 1)).bind fun x25 =>
      W f_member_node_advance 3 [x0, x25, x2, x3, x4, x5, x6, x7, x8, x9, x10, x11, x12, x13, x14, x15, x16, x17, x18, x19, x20, x21]) (
      W f_member_node_advance 3 [x0, x1, x2, x3, x4, x5, x6, x7, x8, x9, x10, x11, x12, x13, x14, x15, x16, x17, x18, x19, x20, x21])) (
    (O.mkagg [x14, x15, x20]).bind fun x23 =>
    calls (W f_rlog_TermAt 0 [x23, x0]) 2 fun x24 x25 =>
    (cnd x25 (
        (O.eq x24 x7).bind fun x26 =>
        some x26) (some (.bool false))).bind fun x26 =>
    (cnd x26 (
        (O.mkagg [x4, x5, x6, x7, x8, x9, x10, x11, x18, x19, x17, x12, x13, x14, x15, x20, x16, x21]).bind fun x27 =>
        calls (W f_member_node_majority 0 [x27, x1]) 1 fun x28 =>
        some x28) (some (.bool false))).bind fun x27 =>
    cnd x27 (
      calls (W f_member_node_commitTo 0 [x4, x5, x6, x7, x8, x9, x10, x11, x18, x19, x17, x12, x13, x14, x15, x20, x16, x21, x0]) 18 fun x28 x29 x30 x31 x32 x33 x34 x35 x36 x37 x38 x39 x40 x41 x42 x43 x44 x45 =>
      some [x28, x29, x30, x31, x32, x33, x34, x35, x36, x37, x38, x39, x40, x41, x42, x43, x44, x45]) (
      (O.sub .i64 x0 (.int 1)).bind fun x28 =>
      W f_member_node_advance 1 [x28, x4, x5, x6, x7, x8, x9, x10, x11, x12, x13, x14, x15, x16, x18, x19, x17, x20, x21])) := V_is rfl (by kernel_rfl)
theorem e_f_member_node_advance_3 (x0 x1 x2 x3 x4 x5 x6 x7 x8 x9 x10 x11 x12 x13 x14 x15 x16 x17 x18 x19 x20 x21 : IV) : W f_member_node_advance 3 [x0, x1, x2, x3, x4, x5, x6, x7, x8, x9, x10, x11, x12, x13, x14, x15, x16, x17, x18, x19, x20, x21] =
  (O.add .i64 x3 (.int 1)).bind fun x22 =>
  W f_member_node_advance 2 [x0, x1, x2, x22, x4, x5, x6, x7, x8, x9, x10, x11, x12, x13, x14, x15, x16, x17, x18, x19, x20, x21] := V_is rfl (by kernel_rfl)
theorem e_f_member_node_majority_0 (x0 x1 : IV) : W f_member_node_majority 0 [x0, x1] =
  (O.proj 1 x0).bind fun x2 =>
  (O.quo .i64 x2 (.int 2)).bind fun x3 =>
  (O.gt x1 x3).bind fun x4 =>
  some [x4] := V_is rfl (by kernel_rfl)
theorem e_f_member_node_commitTo_0 (x0 x1 x2 x3 x4 x5 x6 x7 x8 x9 x10 x11 x12 x13 x14 x15 x16 x17 x18 : IV) : W f_member_node_commitTo 0 [x0, x1, x2, x3, x4, x5, x6, x7, x8, x9, x10, x11, x12, x13, x14, x15, x16, x17, x18] =
  (O.gt x18 x11).bind fun x19 =>
  cnd x19 (
    some [x0, x1, x2, x3, x4, x5, x6, x7, x8, x9, x10, x18, x18, x13, x14, x15, x16, x17]) (
    some [x0, x1, x2, x3, x4, x5, x6, x7, x8, x9, x10, x11, x12, x13, x14, x15, x16, x17]) := V_is rfl (by kernel_rfl)
theorem e_f_member_Handle_0 (x0 x1 : IV) : W f_member_Handle 0 [x0, x1] =
  calls (W f_member_copied 0 [x0]) 17 fun x2 x3 x4 x5 x6 x7 x8 x9 x10 x11 x12 x13 x14 x15 x16 x17 x18 =>
  (O.mkagg [x2, x3, x4, x5, x6, x7, x8, x9, x10, x11, x12, x13, x14, x15, x16, x17, x18, (.list [])]).bind fun x19 =>
  calls (W f_member_node_ignored 0 [x19, x1]) 1 fun x20 =>
  cnd x20 (
    some [x2, x3, x4, x5, x6, x7, x8, x9, x10, x11, x12, x13, x14, x15, x16, x17, x18, (.list [])]) (
    (O.proj 3 x1).bind fun x21 =>
    (O.lt x21 x5).bind fun x22 =>
    cnd x22 (
      calls (W f_member_node_stale 0 [x2, x3, x4, x5, x6, x7, x8, x9, x10, x11, x12, x13, x14, x15, x16, x17, x18, (.list []), x1]) 18 fun x23 x24 x25 x26 x27 x28 x29 x30 x31 x32 x33 x34 x35 x36 x37 x38 x39 x40 =>
      some [x23, x24, x25, x26, x27, x28, x29, x30, x31, x32, x33, x34, x35, x36, x37, x38, x39, x40]) (
      (O.gt x21 x5).bind fun x23 =>
      cnd x23 (
        W f_member_Handle 1 [x1, (.int 0), (.int 0), (.int 0), (.int 0), (.int 0), (.int 0), (.int 0), (.int 0), (.int 0), (.int 0), (.int 0), (.int 0), (.str ⟨#[]⟩), x2, x3, (.int 0), x21, (.int (-1)), (.int (-1)), x8, x9, x13, x14, x15, x16, x18, (.list []), (.list []), (.list []), x17]) (
        W f_member_Handle 1 [x1, (.int 0), (.int 0), (.int 0), (.int 0), (.int 0), (.int 0), (.int 0), (.int 0), (.int 0), (.int 0), (.int 0), (.int 0), (.str ⟨#[]⟩), x2, x3, x4, x5, x6, x7, x8, x9, x13, x14, x15, x16, x18, x10, x11, x12, x17]))) := V_is rfl (by kernel_rfl)
theorem e_f_member_Handle_1 (x0 x1 x2 x3 x4 x5 x6 x7 x8 x9 x10 x11 x12 x13 x14 x15 x16 x17 x18 x19 x20 x21 x22 x23 x24 x25 x26 x27 x28 x29 x30 : IV) : W f_member_Handle 1 [x0, x1, x2, x3, x4, x5, x6, x7, x8, x9, x10, x11, x12, x13, x14, x15, x16, x17, x18, x19, x20, x21, x22, x23, x24, x25, x26, x27, x28, x29, x30] =
  (O.proj 0 x0).bind fun x31 =>
  (O.eq x31 (.int 1)).bind fun x32 =>
  cnd x32 (
    calls (W f_member_node_vote 0 [x14, x15, x16, x17, x18, x19, x20, x21, x27, x28, x29, x22, x23, x24, x25, x30, x26, (.list []), x0]) 18 fun x33 x34 x35 x36 x37 x38 x39 x40 x41 x42 x43 x44 x45 x46 x47 x48 x49 x50 =>
    W f_member_Handle 2 [x1, x2, x3, x4, x5, x6, x7, x8, x9, x10, x11, x12, x13, x33, x34, x35, x36, x37, x38, x39, x40, x44, x45, x46, x47, x49, x41, x42, x43, x48, x50]) (
    (O.eq x31 (.int 2)).bind fun x33 =>
    cnd x33 (
      calls (W f_member_node_voted 0 [x14, x15, x16, x17, x18, x19, x20, x21, x27, x28, x29, x22, x23, x24, x25, x30, x26, (.list []), x0]) 18 fun x34 x35 x36 x37 x38 x39 x40 x41 x42 x43 x44 x45 x46 x47 x48 x49 x50 x51 =>
      W f_member_Handle 2 [x1, x2, x3, x4, x5, x6, x7, x8, x9, x10, x11, x12, x13, x34, x35, x36, x37, x38, x39, x40, x41, x45, x46, x47, x48, x50, x42, x43, x44, x49, x51]) (
      (O.eq x31 (.int 3)).bind fun x34 =>
      cnd x34 (
        calls (W f_member_node_entries 0 [x14, x15, x16, x17, x18, x19, x20, x21, x27, x28, x29, x22, x23, x24, x25, x30, x26, (.list []), x0]) 18 fun x35 x36 x37 x38 x39 x40 x41 x42 x43 x44 x45 x46 x47 x48 x49 x50 x51 x52 =>
        W f_member_Handle 2 [x1, x2, x3, x4, x5, x6, x7, x8, x9, x10, x11, x12, x13, x35, x36, x37, x38, x39, x40, x41, x42, x46, x47, x48, x49, x51, x43, x44, x45, x50, x52]) (
        (O.eq x31 (.int 4)).bind fun x35 =>
        cnd x35 (
          calls (W f_member_node_appended 0 [x14, x15, x16, x17, x18, x19, x20, x21, x27, x28, x29, x22, x23, x24, x25, x30, x26, (.list []), x0]) 18 fun x36 x37 x38 x39 x40 x41 x42 x43 x44 x45 x46 x47 x48 x49 x50 x51 x52 x53 =>
          W f_member_Handle 2 [x1, x2, x3, x4, x5, x6, x7, x8, x9, x10, x11, x12, x13, x36, x37, x38, x39, x40, x41, x42, x43, x47, x48, x49, x50, x52, x44, x45, x46, x51, x53]) (
          (O.eq x31 (.int 5)).bind fun x36 =>
          cnd x36 (
            calls (W f_member_node_snapshot 0 [x14, x15, x16, x17, x18, x19, x20, x21, x27, x28, x29, x22, x23, x24, x25, x30, x26, (.list []), x0]) 18 fun x37 x38 x39 x40 x41 x42 x43 x44 x45 x46 x47 x48 x49 x50 x51 x52 x53 x54 =>
            W f_member_Handle 2 [x1, x2, x3, x4, x5, x6, x7, x8, x9, x10, x11, x12, x13, x37, x38, x39, x40, x41, x42, x43, x44, x48, x49, x50, x51, x53, x45, x46, x47, x52, x54]) (
            W f_member_Handle 2 [x1, x2, x3, x4, x5, x6, x7, x8, x9, x10, x11, x12, x13, x14, x15, x16, x17, x18, x19, x20, x21, x22, x23, x24, x25, x26, x27, x28, x29, x30, (.list [])]))))) := V_is rfl (by kernel_rfl)
theorem e_f_member_Handle_2 (x0 x1 x2 x3 x4 x5 x6 x7 x8 x9 x10 x11 x12 x13 x14 x15 x16 x17 x18 x19 x20 x21 x22 x23 x24 x25 x26 x27 x28 x29 x30 : IV) : W f_member_Handle 2 [x0, x1, x2, x3, x4, x5, x6, x7, x8, x9, x10, x11, x12, x13, x14, x15, x16, x17, x18, x19, x20, x21, x22, x23, x24, x25, x26, x27, x28, x29, x30] =
  some [x13, x14, x15, x16, x17, x18, x19, x20, x26, x27, x28, x21, x22, x23, x24, x29, x25, x30] := V_is rfl (by kernel_rfl)
theorem e_f_member_node_ignored_0 (x0 x1 : IV) : W f_member_node_ignored 0 [x0, x1] =
  (O.proj 2 x1).bind fun x2 =>
  (O.proj 0 x0).bind fun x3 =>
  (O.ne x2 x3).bind fun x4 =>
  (cnd x4 (some (.bool true)) (
      (O.proj 1 x1).bind fun x5 =>
      (O.eq x5 x3).bind fun x6 =>
      some x6)).bind fun x5 =>
  (cnd x5 (some (.bool true)) (
      (O.proj 1 x1).bind fun x6 =>
      (O.lt x6 (.int 0)).bind fun x7 =>
      some x7)).bind fun x6 =>
  (cnd x6 (some (.bool true)) (
      (O.proj 1 x1).bind fun x7 =>
      (O.proj 1 x0).bind fun x8 =>
      (O.ge x7 x8).bind fun x9 =>
      some x9)).bind fun x7 =>
  (cnd x7 (some (.bool true)) (
      (O.proj 3 x1).bind fun x8 =>
      (O.lt x8 (.int 0)).bind fun x9 =>
      some x9)).bind fun x8 =>
  (cnd x8 (some (.bool true)) (
      (O.proj 3 x1).bind fun x9 =>
      (O.gt x9 (.int 1000000000000000)).bind fun x10 =>
      some x10)).bind fun x9 =>
  (cnd x9 (some (.bool true)) (
      (O.proj 0 x1).bind fun x10 =>
      (O.lt x10 (.int 1)).bind fun x11 =>
      some x11)).bind fun x10 =>
  (cnd x10 (some (.bool true)) (
      (O.proj 0 x1).bind fun x11 =>
      (O.gt x11 (.int 5)).bind fun x12 =>
      some x12)).bind fun x11 =>
  cnd x11 (
    some [(.bool true)]) (
    (O.proj 0 x1).bind fun x12 =>
    (O.eq x12 (.int 3)).bind fun x13 =>
    cnd x13 (
      (O.proj 8 x1).bind fun x14 =>
      calls (W f_slices_ContainsFunc 0 [x14, x1]) 1 fun x15 =>
      some [x15]) (
      (O.eq x12 (.int 5)).bind fun x14 =>
      cnd x14 (
        (O.proj 4 x1).bind fun x15 =>
        (O.lt x15 (.int 1)).bind fun x16 =>
        (cnd x16 (some (.bool true)) (
            (O.gt x15 (.int 1000000000000000)).bind fun x17 =>
            some x17)).bind fun x17 =>
        (cnd x17 (some (.bool true)) (
            (O.proj 5 x1).bind fun x18 =>
            (O.lt x18 (.int 1)).bind fun x19 =>
            some x19)).bind fun x18 =>
        (cnd x18 (some (.bool true)) (
            (O.proj 5 x1).bind fun x19 =>
            (O.proj 3 x1).bind fun x20 =>
            (O.gt x19 x20).bind fun x21 =>
            some x21)).bind fun x19 =>
        some [x19]) (
        some [(.bool false)]))) := V_is rfl (by kernel_rfl)
theorem e_f_slices_ContainsFunc_0 (x0 x1 : IV) : W f_slices_ContainsFunc 0 [x0, x1] =
  calls (W f_slices_IndexFunc 0 [x0, x1]) 1 fun x2 =>
  (O.ge x2 (.int 0)).bind fun x3 =>
  some [x3] := V_is rfl (by kernel_rfl)
theorem e_f_slices_IndexFunc_0 (x0 x1 : IV) : W f_slices_IndexFunc 0 [x0, x1] =
  (O.len x0).bind fun x2 =>
  W f_slices_IndexFunc 1 [x0, x1, x2, (.int 0)] := V_is rfl (by kernel_rfl)
theorem e_f_slices_IndexFunc_1 (x0 x1 x2 x3 : IV) : W f_slices_IndexFunc 1 [x0, x1, x2, x3] =
  (O.lt x3 x2).bind fun x4 =>
  cnd x4 (
    (O.index x0 x3).bind fun x5 =>
    calls (W f_member_node_ignored_1 0 [x5, x1]) 1 fun x6 =>
    cnd x6 (
      some [x3]) (
      (O.add .i64 x3 (.int 1)).bind fun x7 =>
      W f_slices_IndexFunc 1 [x0, x1, x2, x7])) (
    some [(.int (-1))]) := V_is rfl (by kernel_rfl)
theorem e_f_member_node_ignored_1_0 (x0 x1 : IV) : W f_member_node_ignored_1 0 [x0, x1] =
  (O.proj 0 x0).bind fun x2 =>
  (O.proj 3 x1).bind fun x3 =>
  (O.gt x2 x3).bind fun x4 =>
  some [x4] := V_is rfl (by kernel_rfl)
theorem e_f_member_node_stale_0 (x0 x1 x2 x3 x4 x5 x6 x7 x8 x9 x10 x11 x12 x13 x14 x15 x16 x17 x18 : IV) : W f_member_node_stale 0 [x0, x1, x2, x3, x4, x5, x6, x7, x8, x9, x10, x11, x12, x13, x14, x15, x16, x17, x18] =
  (O.proj 0 x18).bind fun x19 =>
  (O.eq x19 (.int 1)).bind fun x20 =>
  cnd x20 (
    (O.proj 1 x18).bind fun x21 =>
    (O.mkagg [(.int 2), (.int 0), (.int 0), (.int 0), (.int 0), (.int 0), (.int 0), (.bool false), (.list []), (.str ⟨#[]⟩)]).bind fun x22 =>
    calls (W f_member_node_send 0 [x0, x1, x2, x3, x4, x5, x6, x7, x8, x9, x10, x11, x12, x13, x14, x15, x16, x17, x21, x22]) 18 fun x23 x24 x25 x26 x27 x28 x29 x30 x31 x32 x33 x34 x35 x36 x37 x38 x39 x40 =>
    some [x23, x24, x25, x26, x27, x28, x29, x30, x31, x32, x33, x34, x35, x36, x37, x38, x39, x40]) (
    (O.eq x19 (.int 3)).bind fun x21 =>
    cnd x21 (
      cnd x21 (
        (O.proj 1 x18).bind fun x22 =>
        (O.mkagg [(.int 4), (.int 0), (.int 0), (.int 0), (.int 0), (.int 0), (.int 0), (.bool false), (.list []), (.str ⟨#[]⟩)]).bind fun x23 =>
        calls (W f_member_node_send 0 [x0, x1, x2, x3, x4, x5, x6, x7, x8, x9, x10, x11, x12, x13, x14, x15, x16, x17, x22, x23]) 18 fun x24 x25 x26 x27 x28 x29 x30 x31 x32 x33 x34 x35 x36 x37 x38 x39 x40 x41 =>
        some [x24, x25, x26, x27, x28, x29, x30, x31, x32, x33, x34, x35, x36, x37, x38, x39, x40, x41]) (
        some [x0, x1, x2, x3, x4, x5, x6, x7, x8, x9, x10, x11, x12, x13, x14, x15, x16, x17])) (
      (O.eq x19 (.int 5)).bind fun x22 =>
      cnd x22 (
        (O.proj 1 x18).bind fun x23 =>
        (O.mkagg [(.int 4), (.int 0), (.int 0), (.int 0), (.int 0), (.int 0), (.int 0), (.bool false), (.list []), (.str ⟨#[]⟩)]).bind fun x24 =>
        calls (W f_member_node_send 0 [x0, x1, x2, x3, x4, x5, x6, x7, x8, x9, x10, x11, x12, x13, x14, x15, x16, x17, x23, x24]) 18 fun x25 x26 x27 x28 x29 x30 x31 x32 x33 x34 x35 x36 x37 x38 x39 x40 x41 x42 =>
        some [x25, x26, x27, x28, x29, x30, x31, x32, x33, x34, x35, x36, x37, x38, x39, x40, x41, x42]) (
        some [x0, x1, x2, x3, x4, x5, x6, x7, x8, x9, x10, x11, x12, x13, x14, x15, x16, x17]))) := V_is rfl (by kernel_rfl)
theorem e_f_member_node_vote_0 (x0 x1 x2 x3 x4 x5 x6 x7 x8 x9 x10 x11 x12 x13 x14 x15 x16 x17 x18 : IV) : W f_member_node_vote 0 [x0, x1, x2, x3, x4, x5, x6, x7, x8, x9, x10, x11, x12, x13, x14, x15, x16, x17, x18] =
  (O.mkagg [x13, x14, x15]).bind fun x19 =>
  calls (W f_rlog_Last 0 [x19]) 2 fun x20 x21 =>
  (O.eq x4 (.int (-1))).bind fun x22 =>
  (cnd x22 (some (.bool true)) (
      (O.proj 1 x18).bind fun x23 =>
      (O.eq x4 x23).bind fun x24 =>
      some x24)).bind fun x23 =>
  (cnd x23 (
      (O.proj 5 x18).bind fun x24 =>
      (O.proj 4 x18).bind fun x25 =>
      calls (W f_rlog_Newer 0 [x24, x25, x21, x20]) 1 fun x26 =>
      some x26) (some (.bool false))).bind fun x24 =>
  cnd x24 (
    (O.proj 1 x18).bind fun x25 =>
    (O.mkagg [(.int 2), (.int 0), (.int 0), (.int 0), (.int 0), (.int 0), (.int 0), x24, (.list []), (.str ⟨#[]⟩)]).bind fun x26 =>
    calls (W f_member_node_send 0 [x0, x1, x2, x3, x25, x5, (.int 0), x7, x8, x9, x10, x11, x12, x13, x14, x15, x16, x17, x25, x26]) 18 fun x27 x28 x29 x30 x31 x32 x33 x34 x35 x36 x37 x38 x39 x40 x41 x42 x43 x44 =>
    some [x27, x28, x29, x30, x31, x32, x33, x34, x35, x36, x37, x38, x39, x40, x41, x42, x43, x44]) (
    (O.proj 1 x18).bind fun x25 =>
    (O.mkagg [(.int 2), (.int 0), (.int 0), (.int 0), (.int 0), (.int 0), (.int 0), x24, (.list []), (.str ⟨#[]⟩)]).bind fun x26 =>
    calls (W f_member_node_send 0 [x0, x1, x2, x3, x4, x5, x6, x7, x8, x9, x10, x11, x12, x13, x14, x15, x16, x17, x25, x26]) 18 fun x27 x28 x29 x30 x31 x32 x33 x34 x35 x36 x37 x38 x39 x40 x41 x42 x43 x44 =>
    some [x27, x28, x29, x30, x31, x32, x33, x34, x35, x36, x37, x38, x39, x40, x41, x42, x43, x44]) := V_is rfl (by kernel_rfl)
theorem e_f_rlog_Newer_0 (x0 x1 x2 x3 : IV) : W f_rlog_Newer 0 [x0, x1, x2, x3] =
  (O.gt x0 x2).bind fun x4 =>
  (cnd x4 (some (.bool true)) (
      (O.eq x0 x2).bind fun x5 =>
      (cnd x5 (
          (O.ge x1 x3).bind fun x6 =>
          some x6) (some (.bool false))).bind fun x6 =>
      some x6)).bind fun x5 =>
  some [x5] := V_is rfl (by kernel_rfl)
theorem e_f_member_node_voted_0 (x0 x1 x2 x3 x4 x5 x6 x7 x8 x9 x10 x11 x12 x13 x14 x15 x16 x17 x18 : IV) : W f_member_node_voted 0 [x0, x1, x2, x3, x4, x5, x6, x7, x8, x9, x10, x11, x12, x13, x14, x15, x16, x17, x18] =
  (O.ne x2 (.int 1)).bind fun x19 =>
  (cnd x19 (some (.bool true)) (
      (O.proj 7 x18).bind fun x20 =>
      (O.not x20).bind fun x21 =>
      some x21)).bind fun x20 =>
  cnd x20 (
    some [x0, x1, x2, x3, x4, x5, x6, x7, x8, x9, x10, x11, x12, x13, x14, x15, x16, x17]) (
    (O.proj 1 x18).bind fun x21 =>
    calls (W f_slices_BinarySearch 0 [x8, x21]) 2 fun x22 x23 =>
    (O.not x23).bind fun x24 =>
    cnd x24 (
      (O.mklist [x21]).bind fun x25 =>
      calls (W f_slices_Insert 0 [x8, x22, x25]) 1 fun x26 =>
      W f_member_node_voted 1 [x0, x1, x2, x3, x4, x5, x6, x7, x11, x12, x13, x14, x16, x26, x9, x10, x15, x17]) (
      W f_member_node_voted 1 [x0, x1, x2, x3, x4, x5, x6, x7, x11, x12, x13, x14, x16, x8, x9, x10, x15, x17])) := V_is rfl (by kernel_rfl)
theorem e_f_member_node_voted_1 (x0 x1 x2 x3 x4 x5 x6 x7 x8 x9 x10 x11 x12 x13 x14 x15 x16 x17 : IV) : W f_member_node_voted 1 [x0, x1, x2, x3, x4, x5, x6, x7, x8, x9, x10, x11, x12, x13, x14, x15, x16, x17] =
  (O.len x13).bind fun x18 =>
  (O.mkagg [x0, x1, x2, x3, x4, x5, x6, x7, x13, x14, x15, x8, x9, x10, x11, x16, x12, x17]).bind fun x19 =>
  calls (W f_member_node_majority 0 [x19, x18]) 1 fun x20 =>
  cnd x20 (
    calls (W f_member_node_lead 0 [x0, x1, x2, x3, x4, x5, x6, x7, x13, x14, x15, x8, x9, x10, x11, x16, x12, x17]) 18 fun x21 x22 x23 x24 x25 x26 x27 x28 x29 x30 x31 x32 x33 x34 x35 x36 x37 x38 =>
    some [x21, x22, x23, x24, x25, x26, x27, x28, x29, x30, x31, x32, x33, x34, x35, x36, x37, x38]) (
    some [x0, x1, x2, x3, x4, x5, x6, x7, x13, x14, x15, x8, x9, x10, x11, x16, x12, x17]) := V_is rfl (by kernel_rfl)
theorem e_f_slices_BinarySearch_0 (x0 x1 : IV) : W f_slices_BinarySearch 0 [x0, x1] =
  (O.len x0).bind fun x2 =>
  W f_slices_BinarySearch 1 [x0, x1, x2, (.int 0), x2] := V_is rfl (by kernel_rfl)
theorem e_f_slices_BinarySearch_1 (x0 x1 x2 x3 x4 : IV) : W f_slices_BinarySearch 1 [x0, x1, x2, x3, x4] =
  (O.lt x3 x4).bind fun x5 =>
  cnd x5 (
    (O.add .i64 x3 x4).bind fun x6 =>
    (O.conv .u64 x6).bind fun x7 =>
    (Prim.ev (.shift .shr .u64) [x7, (.int 1)]).bind fun x8 =>
    (O.conv .i64 x8).bind fun x9 =>
    (O.index x0 x9).bind fun x10 =>
    calls (W f_cmp_Less 0 [x10, x1]) 1 fun x11 =>
    cnd x11 (
      (O.add .i64 x9 (.int 1)).bind fun x12 =>
      W f_slices_BinarySearch 2 [x0, x1, x2, x12, x4]) (
      W f_slices_BinarySearch 2 [x0, x1, x2, x3, x9])) (
    (O.lt x3 x2).bind fun x6 =>
    (cnd x6 (
        (O.index x0 x3).bind fun x7 =>
        (O.eq x7 x1).bind fun x8 =>
        (cnd x8 (some (.bool true)) (
            calls (W f_slices_isNaN 0 [x7]) 1 fun x9 =>
            (cnd x9 (
                calls (W f_slices_isNaN 0 [x1]) 1 fun x10 =>
                some x10) (some (.bool false))).bind fun x10 =>
            some x10)).bind fun x9 =>
        some x9) (some (.bool false))).bind fun x7 =>
    some [x3, x7]) := V_is rfl (by kernel_rfl)
theorem e_f_slices_BinarySearch_2 (x0 x1 x2 x3 x4 : IV) : W f_slices_BinarySearch 2 [x0, x1, x2, x3, x4] =
  W f_slices_BinarySearch 1 [x0, x1, x2, x3, x4] := V_is rfl (by kernel_rfl)
theorem e_f_cmp_Less_0 (x0 x1 : IV) : W f_cmp_Less 0 [x0, x1] =
  calls (W f_cmp_isNaN 0 [x0]) 1 fun x2 =>
  (cnd x2 (
      calls (W f_cmp_isNaN 0 [x1]) 1 fun x3 =>
      (O.not x3).bind fun x4 =>
      some x4) (some (.bool false))).bind fun x3 =>
  (cnd x3 (some (.bool true)) (
      (O.lt x0 x1).bind fun x4 =>
      some x4)).bind fun x4 =>
  some [x4] := V_is rfl (by kernel_rfl)
theorem e_f_cmp_isNaN_0 (x0 : IV) : W f_cmp_isNaN 0 [x0] =
  (O.ne x0 x0).bind fun x1 =>
  some [x1] := V_is rfl (by kernel_rfl)
theorem e_f_slices_isNaN_0 (x0 : IV) : W f_slices_isNaN 0 [x0] =
  (O.ne x0 x0).bind fun x1 =>
  some [x1] := V_is rfl (by kernel_rfl)
theorem e_f_slices_Insert (xs : List IV) : W f_slices_Insert 0 xs = O.insertF xs := V_eq _ _ _ _
theorem e_f_member_node_entries_0 (x0 x1 x2 x3 x4 x5 x6 x7 x8 x9 x10 x11 x12 x13 x14 x15 x16 x17 x18 : IV) : W f_member_node_entries 0 [x0, x1, x2, x3, x4, x5, x6, x7, x8, x9, x10, x11, x12, x13, x14, x15, x16, x17, x18] =
  (O.eq x2 (.int 2)).bind fun x19 =>
  (cnd x19 (some (.bool true)) (
      (O.mkagg [x0, x1, x2, x3, x4, x5, x6, x7, x8, x9, x10, x11, x12, x13, x14, x15, x16, x17]).bind fun x20 =>
      calls (W f_member_node_contradicts 0 [x20, x18]) 1 fun x21 =>
      some x21)).bind fun x20 =>
  cnd x20 (
    some [x0, x1, x2, x3, x4, x5, x6, x7, x8, x9, x10, x11, x12, x13, x14, x15, x16, x17]) (
    (O.proj 1 x18).bind fun x21 =>
    calls (W f_member_node_follow 0 [x0, x1, x2, x3, x4, x5, x6, x7, x8, x9, x10, x11, x12, x13, x14, x15, x16, x17, x21]) 18 fun x22 x23 x24 x25 x26 x27 x28 x29 x30 x31 x32 x33 x34 x35 x36 x37 x38 x39 =>
    (O.proj 4 x18).bind fun x40 =>
    (O.proj 5 x18).bind fun x41 =>
    (O.proj 8 x18).bind fun x42 =>
    (O.mkagg [x35, x36, x37]).bind fun x43 =>
    calls (W f_rlog_Append 0 [x43, x40, x41, x42]) 5 fun x44 x45 x46 x47 x48 =>
    cnd x48 (
      (O.proj 6 x18).bind fun x49 =>
      (O.min x49 x47).bind fun x50 =>
      calls (W f_member_node_commitTo 0 [x22, x23, x24, x25, x26, x27, x28, x29, x30, x31, x32, x33, x34, x44, x45, x46, x38, x39, x50]) 18 fun x51 x52 x53 x54 x55 x56 x57 x58 x59 x60 x61 x62 x63 x64 x65 x66 x67 x68 =>
      W f_member_node_entries 1 [x47, x48, x51, x52, x53, x54, x55, x56, x57, x58, x62, x63, x64, x65, x67, x18, x59, x60, x61, x66, x68]) (
      W f_member_node_entries 1 [x47, x48, x22, x23, x24, x25, x26, x27, x28, x29, x33, x34, x35, x36, x38, x18, x30, x31, x32, x37, x39])) := V_is rfl (by kernel_rfl)
theorem e_f_member_node_entries_1 (x0 x1 x2 x3 x4 x5 x6 x7 x8 x9 x10 x11 x12 x13 x14 x15 x16 x17 x18 x19 x20 : IV) : W f_member_node_entries 1 [x0, x1, x2, x3, x4, x5, x6, x7, x8, x9, x10, x11, x12, x13, x14, x15, x16, x17, x18, x19, x20] =
  (O.proj 1 x15).bind fun x21 =>
  (O.mkagg [(.int 4), (.int 0), (.int 0), (.int 0), x0, (.int 0), (.int 0), x1, (.list []), (.str ⟨#[]⟩)]).bind fun x22 =>
  calls (W f_member_node_send 0 [x2, x3, x4, x5, x6, x7, x8, x9, x16, x17, x18, x10, x11, x12, x13, x19, x14, x20, x21, x22]) 18 fun x23 x24 x25 x26 x27 x28 x29 x30 x31 x32 x33 x34 x35 x36 x37 x38 x39 x40 =>
  some [x23, x24, x25, x26, x27, x28, x29, x30, x31, x32, x33, x34, x35, x36, x37, x38, x39, x40] := V_is rfl (by kernel_rfl)
theorem e_f_member_node_contradicts_0 (x0 x1 : IV) : W f_member_node_contradicts 0 [x0, x1] =
  (O.proj 8 x1).bind fun x2 =>
  (O.len x2).bind fun x3 =>
  W f_member_node_contradicts 1 [x0, x2, x3, (.int 0), x1] := V_is rfl (by kernel_rfl)
theorem e_f_member_node_contradicts_1 (x0 x1 x2 x3 x4 : IV) : W f_member_node_contradicts 1 [x0, x1, x2, x3, x4] =
  (O.lt x3 x2).bind fun x5 =>
  cnd x5 (
    (O.index x1 x3).bind fun x6 =>
    (O.proj 4 x4).bind fun x7 =>
    (O.proj 11 x0).bind fun x8 =>
    (O.sub .i64 x8 (.int 1)).bind fun x9 =>
    (O.sub .i64 x9 x3).bind fun x10 =>
    (O.gt x7 x10).bind fun x11 =>
    cnd x11 (
      some [(.bool false)]) (
      (O.add .i64 x7 (.int 1)).bind fun x12 =>
      (O.add .i64 x12 x3).bind fun x13 =>
      (O.projs 13 3 x0).bind fun x14 =>
      calls (W f_rlog_TermAt 0 [x14, x13]) 2 fun x15 x16 =>
      (O.proj 13 x0).bind fun x17 =>
      (O.gt x13 x17).bind fun x18 =>
      (O.pick x18 x16 (.bool false)).bind fun x19 =>
      (cnd x19 (
          (O.proj 0 x6).bind fun x20 =>
          (O.ne x15 x20).bind fun x21 =>
          some x21) (some (.bool false))).bind fun x20 =>
      cnd x20 (
        some [(.bool true)]) (
        (O.add .i64 x3 (.int 1)).bind fun x21 =>
        W f_member_node_contradicts 1 [x0, x1, x2, x21, x4]))) (
    some [(.bool false)]) := V_is rfl (by kernel_rfl)
theorem e_f_member_node_follow_0 (x0 x1 x2 x3 x4 x5 x6 x7 x8 x9 x10 x11 x12 x13 x14 x15 x16 x17 x18 : IV) : W f_member_node_follow 0 [x0, x1, x2, x3, x4, x5, x6, x7, x8, x9, x10, x11, x12, x13, x14, x15, x16, x17, x18] =
  some [x0, x1, (.int 0), x3, x4, x18, (.int 0), x7, (.list []), x9, x10, x11, x12, x13, x14, x15, x16, x17] := V_is rfl (by kernel_rfl)
theorem e_f_rlog_Append_0 (x0 x1 x2 x3 : IV) : W f_rlog_Append 0 [x0, x1, x2, x3] =
  (O.lt x1 (.int 0)).bind fun x4 =>
  (cnd x4 (some (.bool true)) (
      (O.lt x2 (.int 0)).bind fun x5 =>
      some x5)).bind fun x5 =>
  (cnd x5 (some (.bool true)) (
      (O.max (.int 1) x2).bind fun x6 =>
      calls (W f_rlog_rises 0 [x3, x6]) 1 fun x7 =>
      (O.not x7).bind fun x8 =>
      some x8)).bind fun x6 =>
  cnd x6 (
    calls (W f_rlog_clone 0 [x0]) 3 fun x7 x8 x9 =>
    some [x7, x8, x9, (.int 0), (.bool false)]) (
    (O.len x3).bind fun x7 =>
    (O.proj 0 x0).bind fun x8 =>
    (O.sub .i64 x8 x7).bind fun x9 =>
    (O.gt x1 x9).bind fun x10 =>
    cnd x10 (
      (O.sub .i64 x8 x1).bind fun x11 =>
      (O.max (.int 0) x11).bind fun x12 =>
      W f_rlog_Append 1 [x1, x2, x3, x12, x0, (.int 0), (.int 0)]) (
      W f_rlog_Append 1 [x1, x2, x3, x7, x0, (.int 0), (.int 0)])) := V_is rfl (by kernel_rfl)
theorem e_f_rlog_Append_1 (x0 x1 x2 x3 x4 x5 x6 : IV) : W f_rlog_Append 1 [x0, x1, x2, x3, x4, x5, x6] =
  (O.sliceLo x2 x3).bind fun x7 =>
  (O.proj 1 x4).bind fun x8 =>
  calls (W f_rlog_rises 0 [x7, x8]) 1 fun x9 =>
  (O.not x9).bind fun x10 =>
  cnd x10 (
    calls (W f_rlog_clone 0 [x4]) 3 fun x11 x12 x13 =>
    some [x11, x12, x13, (.int 0), (.bool false)]) (
    calls (W f_rlog_TermAt 0 [x4, x0]) 2 fun x11 x12 =>
    (O.proj 0 x4).bind fun x13 =>
    (O.gt x0 x13).bind fun x14 =>
    (cnd x14 (
        (O.not x12).bind fun x15 =>
        (cnd x15 (some (.bool true)) (
            (O.ne x11 x1).bind fun x16 =>
            some x16)).bind fun x16 =>
        some x16) (some (.bool false))).bind fun x15 =>
    cnd x15 (
      calls (W f_rlog_clone 0 [x4]) 3 fun x16 x17 x18 =>
      calls (W f_rlog_hint 0 [x4, x0, x1]) 1 fun x19 =>
      some [x16, x17, x18, x19, (.bool false)]) (
      calls (W f_rlog_clone 0 [x4]) 3 fun x16 x17 x18 =>
      (O.sub .i64 x0 x13).bind fun x19 =>
      (O.max (.int 0) x19).bind fun x20 =>
      (O.sliceLo x2 x3).bind fun x21 =>
      (O.len x21).bind fun x22 =>
      W f_rlog_Append 2 [x0, x2, x20, x21, x22, (.int 0), x4, x5, x6, x16, x17, x18])) := V_is rfl (by kernel_rfl)
theorem e_f_rlog_Append_2 (x0 x1 x2 x3 x4 x5 x6 x7 x8 x9 x10 x11 : IV) : W f_rlog_Append 2 [x0, x1, x2, x3, x4, x5, x6, x7, x8, x9, x10, x11] =
  (O.lt x5 x4).bind fun x12 =>
  cnd x12 (
    (O.index x3 x5).bind fun x13 =>
    (O.len x11).bind fun x14 =>
    (O.lt x2 x14).bind fun x15 =>
    (cnd x15 (
        (O.index x11 x2).bind fun x16 =>
        (O.proj 0 x16).bind fun x17 =>
        (O.proj 0 x13).bind fun x18 =>
        (O.ne x17 x18).bind fun x19 =>
        some x19) (some (.bool false))).bind fun x16 =>
    cnd x16 (
      (O.slice x11 (.int 0) x2).bind fun x17 =>
      (O.slice x11 (.int 0) x2).bind fun x18 =>
      W f_rlog_Append 3 [x0, x1, x2, x3, x4, x5, x6, x7, x8, x9, x10, x13, x18]) (
      W f_rlog_Append 3 [x0, x1, x2, x3, x4, x5, x6, x7, x8, x9, x10, x13, x11])) (
    (O.len x1).bind fun x13 =>
    (O.add .i64 x0 x13).bind fun x14 =>
    (O.proj 0 x6).bind fun x15 =>
    (O.add .i64 x15 (.int 400)).bind fun x16 =>
    (O.min x14 x16).bind fun x17 =>
    some [x9, x10, x11, x17, (.bool true)]) := V_is rfl (by kernel_rfl)
theorem e_f_rlog_Append_3 (x0 x1 x2 x3 x4 x5 x6 x7 x8 x9 x10 x11 x12 : IV) : W f_rlog_Append 3 [x0, x1, x2, x3, x4, x5, x6, x7, x8, x9, x10, x11, x12] =
  (O.len x12).bind fun x13 =>
  (O.eq x2 x13).bind fun x14 =>
  (cnd x14 (
      (O.lt x2 (.int 400)).bind fun x15 =>
      some x15) (some (.bool false))).bind fun x15 =>
  cnd x15 (
    (O.mklist [x11]).bind fun x16 =>
    (O.append 24 x12 x16).bind fun x17 =>
    W f_rlog_Append 4 [x0, x1, x2, x3, x4, x5, x6, x7, x8, x9, x10, x17]) (
    W f_rlog_Append 4 [x0, x1, x2, x3, x4, x5, x6, x7, x8, x9, x10, x12]) := V_is rfl (by kernel_rfl)
theorem e_f_rlog_Append_4 (x0 x1 x2 x3 x4 x5 x6 x7 x8 x9 x10 x11 : IV) : W f_rlog_Append 4 [x0, x1, x2, x3, x4, x5, x6, x7, x8, x9, x10, x11] =
  (O.add .i64 x2 (.int 1)).bind fun x12 =>
  (O.add .i64 x5 (.int 1)).bind fun x13 =>
  W f_rlog_Append 2 [x0, x1, x12, x3, x4, x13, x6, x7, x8, x9, x10, x11] := V_is rfl (by kernel_rfl)
theorem e_f_rlog_rises_0 (x0 x1 : IV) : W f_rlog_rises 0 [x0, x1] =
  (O.len x0).bind fun x2 =>
  W f_rlog_rises 1 [x1, x0, x2, (.int 0)] := V_is rfl (by kernel_rfl)
theorem e_f_rlog_rises_1 (x0 x1 x2 x3 : IV) : W f_rlog_rises 1 [x0, x1, x2, x3] =
  (O.lt x3 x2).bind fun x4 =>
  cnd x4 (
    (O.index x1 x3).bind fun x5 =>
    (O.proj 0 x5).bind fun x6 =>
    (O.lt x6 x0).bind fun x7 =>
    (cnd x7 (some (.bool true)) (
        (O.gt x6 (.int 1000000000000000)).bind fun x8 =>
        some x8)).bind fun x8 =>
    cnd x8 (
      some [(.bool false)]) (
      (O.add .i64 x3 (.int 1)).bind fun x9 =>
      W f_rlog_rises 1 [x6, x1, x2, x9])) (
    some [(.bool true)]) := V_is rfl (by kernel_rfl)
theorem e_f_rlog_clone_0 (x0 : IV) : W f_rlog_clone 0 [x0] =
  (O.proj 2 x0).bind fun x1 =>
  calls (W f_slices_Clone_v2 0 [x1]) 1 fun x2 =>
  (O.proj 0 x0).bind fun x3 =>
  (O.proj 1 x0).bind fun x4 =>
  some [x3, x4, x2] := V_is rfl (by kernel_rfl)
theorem e_f_rlog_hint_0 (x0 x1 x2 : IV) : W f_rlog_hint 0 [x0, x1, x2] =
  calls (W f_rlog_Last 0 [x0]) 2 fun x3 x4 =>
  (O.sub .i64 x1 (.int 1)).bind fun x5 =>
  (O.min x5 x3).bind fun x6 =>
  W f_rlog_hint 1 [x2, x6, x0] := V_is rfl (by kernel_rfl)
theorem e_f_rlog_hint_1 (x0 x1 x2 : IV) : W f_rlog_hint 1 [x0, x1, x2] =
  (O.proj 0 x2).bind fun x3 =>
  (O.gt x1 x3).bind fun x4 =>
  cnd x4 (
    calls (W f_rlog_TermAt 0 [x2, x1]) 2 fun x5 x6 =>
    (O.le x5 x0).bind fun x7 =>
    cnd x7 (
      some [x1]) (
      (O.sub .i64 x1 (.int 1)).bind fun x8 =>
      W f_rlog_hint 1 [x0, x8, x2])) (
    some [x3]) := V_is rfl (by kernel_rfl)
theorem e_f_member_node_appended_0 (x0 x1 x2 x3 x4 x5 x6 x7 x8 x9 x10 x11 x12 x13 x14 x15 x16 x17 x18 : IV) : W f_member_node_appended 0 [x0, x1, x2, x3, x4, x5, x6, x7, x8, x9, x10, x11, x12, x13, x14, x15, x16, x17, x18] =
  (O.ne x2 (.int 2)).bind fun x19 =>
  cnd x19 (
    some [x0, x1, x2, x3, x4, x5, x6, x7, x8, x9, x10, x11, x12, x13, x14, x15, x16, x17]) (
    (O.proj 1 x18).bind fun x20 =>
    (O.proj 7 x18).bind fun x21 =>
    (O.not x21).bind fun x22 =>
    cnd x22 (
      (O.proj 4 x18).bind fun x23 =>
      (O.index x9 x20).bind fun x24 =>
      (O.sub .i64 x24 (.int 2)).bind fun x25 =>
      (O.min x23 x25).bind fun x26 =>
      (O.add .i64 x26 (.int 1)).bind fun x27 =>
      (O.index x10 x20).bind fun x28 =>
      (O.add .i64 x28 (.int 1)).bind fun x29 =>
      (O.max x27 x29).bind fun x30 =>
      (O.lt x30 x24).bind fun x31 =>
      cnd x31 (
        (O.setAt 0 1 false true x9 x20 x30).bind fun x32 =>
        calls (W f_member_node_appendTo 0 [x0, x1, x2, x3, x4, x5, x6, x7, x8, x32, x10, x11, x12, x13, x14, x15, x16, x17, x20]) 18 fun x33 x34 x35 x36 x37 x38 x39 x40 x41 x42 x43 x44 x45 x46 x47 x48 x49 x50 =>
        some [x33, x34, x35, x36, x37, x38, x39, x40, x41, x42, x43, x44, x45, x46, x47, x48, x49, x50]) (
        some [x0, x1, x2, x3, x4, x5, x6, x7, x8, x9, x10, x11, x12, x13, x14, x15, x16, x17])) (
      (O.proj 4 x18).bind fun x23 =>
      (O.mkagg [x0, x1, x2, x3, x4, x5, x6, x7, x8, x9, x10, x11, x12, x13, x14, x15, x16, x17]).bind fun x24 =>
      calls (W f_member_node_last 0 [x24]) 1 fun x25 =>
      (O.min x23 x25).bind fun x26 =>
      (O.index x10 x20).bind fun x27 =>
      (O.le x26 x27).bind fun x28 =>
      cnd x28 (
        some [x0, x1, x2, x3, x4, x5, x6, x7, x8, x9, x10, x11, x12, x13, x14, x15, x16, x17]) (
        (O.add .i64 x26 (.int 1)).bind fun x29 =>
        (O.setAt 0 1 false true x10 x20 x26).bind fun x30 =>
        (O.index x9 x20).bind fun x31 =>
        (O.setAt 0 1 false true x9 x20 x29).bind fun x32 =>
        calls (W f_member_node_advance 0 [x0, x1, x2, x3, x4, x5, x6, x7, x8, x32, x30, x11, x12, x13, x14, x15, x16, x17]) 18 fun x33 x34 x35 x36 x37 x38 x39 x40 x41 x42 x43 x44 x45 x46 x47 x48 x49 x50 =>
        (O.mkagg [x33, x34, x35, x36, x37, x38, x39, x40, x41, x42, x43, x44, x45, x46, x47, x48, x49, x50]).bind fun x51 =>
        calls (W f_member_node_last 0 [x51]) 1 fun x52 =>
        (O.lt x26 x52).bind fun x53 =>
        cnd x53 (
          calls (W f_member_node_appendTo 0 [x33, x34, x35, x36, x37, x38, x39, x40, x41, x42, x43, x44, x45, x46, x47, x48, x49, x50, x20]) 18 fun x54 x55 x56 x57 x58 x59 x60 x61 x62 x63 x64 x65 x66 x67 x68 x69 x70 x71 =>
          some [x54, x55, x56, x57, x58, x59, x60, x61, x62, x63, x64, x65, x66, x67, x68, x69, x70, x71]) (
          some [x33, x34, x35, x36, x37, x38, x39, x40, x41, x42, x43, x44, x45, x46, x47, x48, x49, x50])))) := V_is rfl (by kernel_rfl)
theorem e_f_member_node_snapshot_0 (x0 x1 x2 x3 x4 x5 x6 x7 x8 x9 x10 x11 x12 x13 x14 x15 x16 x17 x18 : IV) : W f_member_node_snapshot 0 [x0, x1, x2, x3, x4, x5, x6, x7, x8, x9, x10, x11, x12, x13, x14, x15, x16, x17, x18] =
  (O.eq x2 (.int 2)).bind fun x19 =>
  cnd x19 (
    some [x0, x1, x2, x3, x4, x5, x6, x7, x8, x9, x10, x11, x12, x13, x14, x15, x16, x17]) (
    (O.proj 1 x18).bind fun x20 =>
    calls (W f_member_node_follow 0 [x0, x1, x2, x3, x4, x5, x6, x7, x8, x9, x10, x11, x12, x13, x14, x15, x16, x17, x20]) 18 fun x21 x22 x23 x24 x25 x26 x27 x28 x29 x30 x31 x32 x33 x34 x35 x36 x37 x38 =>
    (O.proj 4 x18).bind fun x39 =>
    (O.le x39 x32).bind fun x40 =>
    cnd x40 (
      (O.mkagg [(.int 4), (.int 0), (.int 0), (.int 0), x32, (.int 0), (.int 0), (.bool true), (.list []), (.str ⟨#[]⟩)]).bind fun x41 =>
      calls (W f_member_node_send 0 [x21, x22, x23, x24, x25, x26, x27, x28, x29, x30, x31, x32, x33, x34, x35, x36, x37, x38, x20, x41]) 18 fun x42 x43 x44 x45 x46 x47 x48 x49 x50 x51 x52 x53 x54 x55 x56 x57 x58 x59 =>
      some [x42, x43, x44, x45, x46, x47, x48, x49, x50, x51, x52, x53, x54, x55, x56, x57, x58, x59]) (
      (O.mkagg [x34, x35, x36]).bind fun x41 =>
      calls (W f_rlog_Compact 0 [x41, x39]) 4 fun x42 x43 x44 x45 =>
      calls (W f_rlog_TermAt 0 [x41, x39]) 2 fun x46 x47 =>
      (O.not x47).bind fun x48 =>
      (cnd x48 (some (.bool true)) (
          (O.proj 5 x18).bind fun x49 =>
          (O.ne x46 x49).bind fun x50 =>
          some x50)).bind fun x49 =>
      (cnd x49 (some (.bool true)) (
          (O.ne x45 (.int 0)).bind fun x50 =>
          some x50)).bind fun x50 =>
      cnd x50 (
        (O.proj 5 x18).bind fun x51 =>
        W f_member_node_snapshot 1 [x21, x22, x23, x24, x25, x26, x27, x28, x32, x33, x34, x35, x37, x18, x39, x51, x29, x30, x31, x36, x38, (.list [])]) (
        W f_member_node_snapshot 1 [x21, x22, x23, x24, x25, x26, x27, x28, x32, x33, x34, x35, x37, x18, x42, x43, x29, x30, x31, x36, x38, x44]))) := V_is rfl (by kernel_rfl)
theorem e_f_member_node_snapshot_1 (x0 x1 x2 x3 x4 x5 x6 x7 x8 x9 x10 x11 x12 x13 x14 x15 x16 x17 x18 x19 x20 x21 : IV) : W f_member_node_snapshot 1 [x0, x1, x2, x3, x4, x5, x6, x7, x8, x9, x10, x11, x12, x13, x14, x15, x16, x17, x18, x19, x20, x21] =
  (O.proj 9 x13).bind fun x22 =>
  (O.proj 4 x13).bind fun x23 =>
  calls (W f_member_node_commitTo 0 [x0, x1, x2, x3, x4, x5, x6, x7, x16, x17, x18, x8, x9, x14, x15, x21, x22, x20, x23]) 18 fun x24 x25 x26 x27 x28 x29 x30 x31 x32 x33 x34 x35 x36 x37 x38 x39 x40 x41 =>
  (O.proj 1 x13).bind fun x42 =>
  (O.mkagg [(.int 4), (.int 0), (.int 0), (.int 0), x23, (.int 0), (.int 0), (.bool true), (.list []), (.str ⟨#[]⟩)]).bind fun x43 =>
  calls (W f_member_node_send 0 [x24, x25, x26, x27, x28, x29, x30, x31, x32, x33, x34, x35, x36, x37, x38, x39, x40, x41, x42, x43]) 18 fun x44 x45 x46 x47 x48 x49 x50 x51 x52 x53 x54 x55 x56 x57 x58 x59 x60 x61 =>
  some [x44, x45, x46, x47, x48, x49, x50, x51, x52, x53, x54, x55, x56, x57, x58, x59, x60, x61] := V_is rfl (by kernel_rfl)
theorem e_f_rlog_Compact_0 (x0 x1 : IV) : W f_rlog_Compact 0 [x0, x1] =
  calls (W f_rlog_TermAt 0 [x0, x1]) 2 fun x2 x3 =>
  (O.not x3).bind fun x4 =>
  cnd x4 (
    calls (W f_rlog_clone 0 [x0]) 3 fun x5 x6 x7 =>
    some [x5, x6, x7, (.int 5)]) (
    (O.proj 2 x0).bind fun x5 =>
    (O.proj 0 x0).bind fun x6 =>
    (O.sub .i64 x1 x6).bind fun x7 =>
    (O.sliceLo x5 x7).bind fun x8 =>
    calls (W f_slices_Clone_v2 0 [x8]) 1 fun x9 =>
    some [x1, x2, x9, (.int 0)]) := V_is rfl (by kernel_rfl)
theorem e_f_member_Compact_0 (x0 x1 x2 : IV) : W f_member_Compact 0 [x0, x1, x2] =
  calls (W f_member_copied 0 [x0]) 17 fun x3 x4 x5 x6 x7 x8 x9 x10 x11 x12 x13 x14 x15 x16 x17 x18 x19 =>
  (O.proj 13 x0).bind fun x20 =>
  (O.lt x1 x20).bind fun x21 =>
  (cnd x21 (some (.bool true)) (
      (O.proj 12 x0).bind fun x22 =>
      (O.gt x1 x22).bind fun x23 =>
      some x23)).bind fun x22 =>
  (cnd x22 (some (.bool true)) (
      (O.gt x1 (.int 1000000000000000)).bind fun x23 =>
      some x23)).bind fun x23 =>
  cnd x23 (
    some [x3, x4, x5, x6, x7, x8, x9, x10, x11, x12, x13, x14, x15, x16, x17, x18, x19, (.int 5)]) (
    (O.projs 13 3 x0).bind fun x24 =>
    calls (W f_rlog_Compact 0 [x24, x1]) 4 fun x25 x26 x27 x28 =>
    (O.ne x28 (.int 0)).bind fun x29 =>
    cnd x29 (
      some [x3, x4, x5, x6, x7, x8, x9, x10, x11, x12, x13, x14, x15, x16, x17, x18, x19, x28]) (
      some [x3, x4, x5, x6, x7, x8, x9, x10, x11, x12, x13, x14, x15, x25, x26, x27, x2, (.int 0)])) := V_is rfl (by kernel_rfl)
theorem e_f_member_Restart_0 (x0 : IV) : W f_member_Restart 0 [x0] =
  calls (W f_member_copied 0 [x0]) 17 fun x1 x2 x3 x4 x5 x6 x7 x8 x9 x10 x11 x12 x13 x14 x15 x16 x17 =>
  some [x1, x2, (.int 0), x4, x5, (.int (-1)), (.int 0), x8, (.list []), (.list []), (.list []), x14, x14, x14, x15, x16, x17] := V_is rfl (by kernel_rfl)
theorem e_f_member_Propose_0 (x0 x1 : IV) : W f_member_Propose 0 [x0, x1] =
  calls (W f_member_copied 0 [x0]) 17 fun x2 x3 x4 x5 x6 x7 x8 x9 x10 x11 x12 x13 x14 x15 x16 x17 x18 =>
  (O.ne x4 (.int 2)).bind fun x19 =>
  cnd x19 (
    some [x2, x3, x4, x5, x6, x7, x8, x9, x10, x11, x12, x13, x14, x15, x16, x17, x18, (.list []), (.int 17)]) (
    (O.slen x1).bind fun x20 =>
    (O.gt x20 (.int 20000)).bind fun x21 =>
    cnd x21 (
      some [x2, x3, x4, x5, x6, x7, x8, x9, x10, x11, x12, x13, x14, x15, x16, x17, x18, (.list []), (.int 4)]) (
      (O.len x17).bind fun x22 =>
      (O.ge x22 (.int 400)).bind fun x23 =>
      cnd x23 (
        some [x2, x3, x4, x5, x6, x7, x8, x9, x10, x11, x12, x13, x14, x15, x16, x17, x18, (.list []), (.int 15)]) (
        calls (W f_member_node_add 0 [x2, x3, x4, x5, x6, x7, x8, x9, x10, x11, x12, x13, x14, x15, x16, x17, x18, (.list []), x1]) 18 fun x24 x25 x26 x27 x28 x29 x30 x31 x32 x33 x34 x35 x36 x37 x38 x39 x40 x41 =>
        calls (W f_member_node_own 0 [x24, x25, x26, x27, x28, x29, x30, x31, x32, x33, x34, x35, x36, x37, x38, x39, x40, x41]) 18 fun x42 x43 x44 x45 x46 x47 x48 x49 x50 x51 x52 x53 x54 x55 x56 x57 x58 x59 =>
        calls (W f_member_node_broadcast 0 [x42, x43, x44, x45, x46, x47, x48, x49, x50, x51, x52, x53, x54, x55, x56, x57, x58, x59]) 18 fun x60 x61 x62 x63 x64 x65 x66 x67 x68 x69 x70 x71 x72 x73 x74 x75 x76 x77 =>
        (O.eq x61 (.int 1)).bind fun x78 =>
        cnd x78 (
          calls (W f_member_node_advance 0 [x60, x61, x62, x63, x64, x65, x66, x67, x68, x69, x70, x71, x72, x73, x74, x75, x76, x77]) 18 fun x79 x80 x81 x82 x83 x84 x85 x86 x87 x88 x89 x90 x91 x92 x93 x94 x95 x96 =>
          W f_member_Propose 1 [(.int 0), (.int 0), (.int 0), (.int 0), (.int 0), (.int 0), (.int 0), (.int 0), (.int 0), (.int 0), (.int 0), (.int 0), (.str ⟨#[]⟩), x79, x80, x81, x82, x83, x84, x85, x86, x90, x91, x92, x93, x95, x87, x88, x89, x94, x96]) (
          W f_member_Propose 1 [(.int 0), (.int 0), (.int 0), (.int 0), (.int 0), (.int 0), (.int 0), (.int 0), (.int 0), (.int 0), (.int 0), (.int 0), (.str ⟨#[]⟩), x60, x61, x62, x63, x64, x65, x66, x67, x71, x72, x73, x74, x76, x68, x69, x70, x75, x77])))) := V_is rfl (by kernel_rfl)
theorem e_f_member_Propose_1 (x0 x1 x2 x3 x4 x5 x6 x7 x8 x9 x10 x11 x12 x13 x14 x15 x16 x17 x18 x19 x20 x21 x22 x23 x24 x25 x26 x27 x28 x29 x30 : IV) : W f_member_Propose 1 [x0, x1, x2, x3, x4, x5, x6, x7, x8, x9, x10, x11, x12, x13, x14, x15, x16, x17, x18, x19, x20, x21, x22, x23, x24, x25, x26, x27, x28, x29, x30] =
  some [x13, x14, x15, x16, x17, x18, x19, x20, x26, x27, x28, x21, x22, x23, x24, x29, x25, x30, (.int 0)] := V_is rfl (by kernel_rfl)
theorem e_f_ref26_New_0 (x0 x1 x2 : IV) : W f_ref26_New 0 [x0, x1, x2] =
  (O.lt x1 (.int 1)).bind fun x3 =>
  (cnd x3 (some (.bool true)) (
      (O.gt x1 (.int 7)).bind fun x4 =>
      some x4)).bind fun x4 =>
  (cnd x4 (some (.bool true)) (
      (O.lt x0 (.int 0)).bind fun x5 =>
      some x5)).bind fun x5 =>
  (cnd x5 (some (.bool true)) (
      (O.ge x0 x1).bind fun x6 =>
      some x6)).bind fun x6 =>
  (cnd x6 (some (.bool true)) (
      (O.lt x2 (.int 1)).bind fun x7 =>
      some x7)).bind fun x7 =>
  (cnd x7 (some (.bool true)) (
      (O.gt x2 (.int 1000000000000)).bind fun x8 =>
      some x8)).bind fun x8 =>
  cnd x8 (
    some [(.int 0), (.int 0), (.int 0), (.int 0), (.int 0), (.int 0), (.int 0), (.int 0), (.list []), (.list []), (.list []), (.int 0), (.int 0), (.int 0), (.int 0), (.list []), (.str ⟨#[]⟩), (.int 1)]) (
    some [x0, x1, (.int 0), (.int 0), (.int (-1)), (.int (-1)), (.int 0), x2, (.list []), (.list []), (.list []), (.int 0), (.int 0), (.int 0), (.int 0), (.list []), (.str ⟨#[]⟩), (.int 0)]) := V_is rfl (by kernel_rfl)
theorem e_f_ref26_Same_0 (x0 x1 : IV) : W f_ref26_Same 0 [x0, x1] =
  (O.proj 0 x0).bind fun x2 =>
  (O.proj 0 x1).bind fun x3 =>
  (O.eq x2 x3).bind fun x4 =>
  (cnd x4 (
      (O.proj 1 x0).bind fun x5 =>
      (O.proj 1 x1).bind fun x6 =>
      (O.eq x5 x6).bind fun x7 =>
      some x7) (some (.bool false))).bind fun x5 =>
  (cnd x5 (
      (O.proj 2 x0).bind fun x6 =>
      (O.proj 2 x1).bind fun x7 =>
      (O.eq x6 x7).bind fun x8 =>
      some x8) (some (.bool false))).bind fun x6 =>
  (cnd x6 (
      (O.proj 3 x0).bind fun x7 =>
      (O.proj 3 x1).bind fun x8 =>
      (O.eq x7 x8).bind fun x9 =>
      some x9) (some (.bool false))).bind fun x7 =>
  (cnd x7 (
      (O.proj 4 x0).bind fun x8 =>
      (O.proj 4 x1).bind fun x9 =>
      (O.eq x8 x9).bind fun x10 =>
      some x10) (some (.bool false))).bind fun x8 =>
  (cnd x8 (
      (O.proj 5 x0).bind fun x9 =>
      (O.proj 5 x1).bind fun x10 =>
      (O.eq x9 x10).bind fun x11 =>
      some x11) (some (.bool false))).bind fun x9 =>
  (cnd x9 (
      (O.proj 6 x0).bind fun x10 =>
      (O.proj 6 x1).bind fun x11 =>
      (O.eq x10 x11).bind fun x12 =>
      some x12) (some (.bool false))).bind fun x10 =>
  (cnd x10 (
      (O.proj 7 x0).bind fun x11 =>
      (O.proj 7 x1).bind fun x12 =>
      (O.eq x11 x12).bind fun x13 =>
      some x13) (some (.bool false))).bind fun x11 =>
  (cnd x11 (
      (O.proj 8 x0).bind fun x12 =>
      (O.proj 8 x1).bind fun x13 =>
      calls (W f_ref26_ints 0 [x12, x13]) 1 fun x14 =>
      some x14) (some (.bool false))).bind fun x12 =>
  (cnd x12 (
      (O.proj 9 x0).bind fun x13 =>
      (O.proj 9 x1).bind fun x14 =>
      calls (W f_ref26_ints 0 [x13, x14]) 1 fun x15 =>
      some x15) (some (.bool false))).bind fun x13 =>
  (cnd x13 (
      (O.proj 10 x0).bind fun x14 =>
      (O.proj 10 x1).bind fun x15 =>
      calls (W f_ref26_ints 0 [x14, x15]) 1 fun x16 =>
      some x16) (some (.bool false))).bind fun x14 =>
  (cnd x14 (
      (O.proj 11 x0).bind fun x15 =>
      (O.proj 11 x1).bind fun x16 =>
      (O.eq x15 x16).bind fun x17 =>
      some x17) (some (.bool false))).bind fun x15 =>
  (cnd x15 (
      (O.proj 12 x0).bind fun x16 =>
      (O.proj 12 x1).bind fun x17 =>
      (O.eq x16 x17).bind fun x18 =>
      some x18) (some (.bool false))).bind fun x16 =>
  (cnd x16 (
      (O.projs 13 3 x0).bind fun x17 =>
      (O.projs 13 3 x1).bind fun x18 =>
      calls (W f_ref25_Same 0 [x17, x18]) 1 fun x19 =>
      some x19) (some (.bool false))).bind fun x17 =>
  (cnd x17 (
      (O.proj 16 x0).bind fun x18 =>
      (O.proj 16 x1).bind fun x19 =>
      (O.sEq x18 x19).bind fun x20 =>
      some x20) (some (.bool false))).bind fun x18 =>
  some [x18] := V_is rfl (by kernel_rfl)
theorem e_f_ref26_ints_0 (x0 x1 : IV) : W f_ref26_ints 0 [x0, x1] =
  (O.len x0).bind fun x2 =>
  (O.len x1).bind fun x3 =>
  (O.ne x2 x3).bind fun x4 =>
  cnd x4 (
    some [(.bool false)]) (
    W f_ref26_ints 1 [x0, x1, (.int 0)]) := V_is rfl (by kernel_rfl)
theorem e_f_ref26_ints_1 (x0 x1 x2 : IV) : W f_ref26_ints 1 [x0, x1, x2] =
  (O.len x0).bind fun x3 =>
  (O.lt x2 x3).bind fun x4 =>
  cnd x4 (
    (O.index x0 x2).bind fun x5 =>
    (O.index x1 x2).bind fun x6 =>
    (O.ne x5 x6).bind fun x7 =>
    cnd x7 (
      some [(.bool false)]) (
      (O.add .i64 x2 (.int 1)).bind fun x8 =>
      W f_ref26_ints 1 [x0, x1, x8])) (
    some [(.bool true)]) := V_is rfl (by kernel_rfl)
theorem e_f_ref25_Same_0 (x0 x1 : IV) : W f_ref25_Same 0 [x0, x1] =
  (O.proj 0 x0).bind fun x2 =>
  (O.proj 0 x1).bind fun x3 =>
  (O.eq x2 x3).bind fun x4 =>
  (cnd x4 (
      (O.proj 1 x0).bind fun x5 =>
      (O.proj 1 x1).bind fun x6 =>
      (O.eq x5 x6).bind fun x7 =>
      some x7) (some (.bool false))).bind fun x5 =>
  (cnd x5 (
      (O.proj 2 x0).bind fun x6 =>
      (O.proj 2 x1).bind fun x7 =>
      calls (W f_ref25_Entries 0 [x6, x7]) 1 fun x8 =>
      some x8) (some (.bool false))).bind fun x6 =>
  some [x6] := V_is rfl (by kernel_rfl)
theorem e_f_ref25_Entries_0 (x0 x1 : IV) : W f_ref25_Entries 0 [x0, x1] =
  (O.len x0).bind fun x2 =>
  (O.len x1).bind fun x3 =>
  (O.ne x2 x3).bind fun x4 =>
  cnd x4 (
    some [(.bool false)]) (
    W f_ref25_Entries 1 [x0, x1, (.int 0)]) := V_is rfl (by kernel_rfl)
theorem e_f_ref25_Entries_1 (x0 x1 x2 : IV) : W f_ref25_Entries 1 [x0, x1, x2] =
  (O.len x0).bind fun x3 =>
  (O.lt x2 x3).bind fun x4 =>
  cnd x4 (
    (O.index x0 x2).bind fun x5 =>
    (O.index x1 x2).bind fun x6 =>
    (O.aNe x5 x6).bind fun x7 =>
    cnd x7 (
      some [(.bool false)]) (
      (O.add .i64 x2 (.int 1)).bind fun x8 =>
      W f_ref25_Entries 1 [x0, x1, x8])) (
    some [(.bool true)]) := V_is rfl (by kernel_rfl)
theorem e_f_law26_do_0 (x0 x1 : IV) : W f_law26_do 0 [x0, x1] =
  (O.proj 0 x1).bind fun x2 =>
  (O.eq x2 (.int 0)).bind fun x3 =>
  cnd x3 (
    calls (W f_member_Tick 0 [x0]) 18 fun x4 x5 x6 x7 x8 x9 x10 x11 x12 x13 x14 x15 x16 x17 x18 x19 x20 x21 =>
    some [x4, x5, x6, x7, x8, x9, x10, x11, x12, x13, x14, x15, x16, x17, x18, x19, x20, x21, (.int 0)]) (
    (O.eq x2 (.int 1)).bind fun x4 =>
    cnd x4 (
      (O.projs 1 10 x1).bind fun x5 =>
      calls (W f_member_Handle 0 [x0, x5]) 18 fun x6 x7 x8 x9 x10 x11 x12 x13 x14 x15 x16 x17 x18 x19 x20 x21 x22 x23 =>
      some [x6, x7, x8, x9, x10, x11, x12, x13, x14, x15, x16, x17, x18, x19, x20, x21, x22, x23, (.int 0)]) (
      (O.eq x2 (.int 2)).bind fun x5 =>
      cnd x5 (
        (O.proj 11 x1).bind fun x6 =>
        calls (W f_member_Propose 0 [x0, x6]) 19 fun x7 x8 x9 x10 x11 x12 x13 x14 x15 x16 x17 x18 x19 x20 x21 x22 x23 x24 x25 =>
        some [x7, x8, x9, x10, x11, x12, x13, x14, x15, x16, x17, x18, x19, x20, x21, x22, x23, x24, x25]) (
        (O.eq x2 (.int 3)).bind fun x6 =>
        cnd x6 (
          (O.proj 12 x1).bind fun x7 =>
          (O.proj 11 x1).bind fun x8 =>
          calls (W f_member_Compact 0 [x0, x7, x8]) 18 fun x9 x10 x11 x12 x13 x14 x15 x16 x17 x18 x19 x20 x21 x22 x23 x24 x25 x26 =>
          some [x9, x10, x11, x12, x13, x14, x15, x16, x17, x18, x19, x20, x21, x22, x23, x24, x25, (.list []), x26]) (
          calls (W f_member_Restart 0 [x0]) 17 fun x7 x8 x9 x10 x11 x12 x13 x14 x15 x16 x17 x18 x19 x20 x21 x22 x23 =>
          some [x7, x8, x9, x10, x11, x12, x13, x14, x15, x16, x17, x18, x19, x20, x21, x22, x23, (.list []), (.int 0)])))) := V_is rfl (by kernel_rfl)
theorem e_f_ref26_Do_0 (x0 x1 : IV) : W f_ref26_Do 0 [x0, x1] =
  (O.proj 0 x1).bind fun x2 =>
  (O.eq x2 (.int 0)).bind fun x3 =>
  cnd x3 (
    calls (W f_ref26_Tick 0 [x0]) 2 fun x4 x5 =>
    some [x4, x5, (.int 0)]) (
    (O.eq x2 (.int 1)).bind fun x4 =>
    cnd x4 (
      (O.projs 1 10 x1).bind fun x5 =>
      calls (W f_ref26_Handle 0 [x0, x5]) 2 fun x6 x7 =>
      some [x6, x7, (.int 0)]) (
      (O.eq x2 (.int 2)).bind fun x5 =>
      cnd x5 (
        (O.proj 11 x1).bind fun x6 =>
        calls (W f_ref26_Propose 0 [x0, x6]) 3 fun x7 x8 x9 =>
        some [x7, x8, x9]) (
        (O.eq x2 (.int 3)).bind fun x6 =>
        cnd x6 (
          (O.proj 12 x1).bind fun x7 =>
          (O.proj 11 x1).bind fun x8 =>
          calls (W f_ref26_Compact 0 [x0, x7, x8]) 2 fun x9 x10 =>
          some [x9, (.list []), x10]) (
          calls (W f_ref26_Restart 0 [x0]) 17 fun x7 x8 x9 x10 x11 x12 x13 x14 x15 x16 x17 x18 x19 x20 x21 x22 x23 =>
          (O.mkagg [x7, x8, x9, x10, x11, x12, x13, x14, x15, x16, x17, x18, x19, x20, x21, x22, x23]).bind fun x24 =>
          some [x24, (.list []), (.int 0)])))) := V_is rfl (by kernel_rfl)
theorem e_f_ref26_Tick_0 (x0 : IV) : W f_ref26_Tick 0 [x0] =
  (O.proj 2 x0).bind fun x1 =>
  (O.eq x1 (.int 2)).bind fun x2 =>
  cnd x2 (
    calls (W f_ref26_all 0 [x0]) 1 fun x3 =>
    some [x0, x3]) (
    (O.proj 6 x0).bind fun x3 =>
    (O.add .i64 x3 (.int 1)).bind fun x4 =>
    (O.proj 0 x0).bind fun x5 =>
    (O.proj 1 x0).bind fun x6 =>
    (O.proj 3 x0).bind fun x7 =>
    (O.proj 4 x0).bind fun x8 =>
    (O.proj 5 x0).bind fun x9 =>
    (O.proj 7 x0).bind fun x10 =>
    (O.proj 8 x0).bind fun x11 =>
    (O.proj 9 x0).bind fun x12 =>
    (O.proj 10 x0).bind fun x13 =>
    (O.proj 11 x0).bind fun x14 =>
    (O.proj 12 x0).bind fun x15 =>
    (O.proj 13 x0).bind fun x16 =>
    (O.proj 14 x0).bind fun x17 =>
    (O.proj 15 x0).bind fun x18 =>
    (O.proj 16 x0).bind fun x19 =>
    (O.lt x4 x10).bind fun x20 =>
    (cnd x20 (some (.bool true)) (
        (O.ge x7 (.int 1000000000000000)).bind fun x21 =>
        some x21)).bind fun x21 =>
    cnd x21 (
      (O.mkagg [x5, x6, x1, x7, x8, x9, x4, x10, x11, x12, x13, x14, x15, x16, x17, x18, x19]).bind fun x22 =>
      some [x22, (.list [])]) (
      (O.add .i64 x7 (.int 1)).bind fun x22 =>
      (O.mklist [x5]).bind fun x23 =>
      (O.eq x6 (.int 1)).bind fun x24 =>
      cnd x24 (
        (O.mkagg [x5, x6, (.int 1), x22, x5, (.int (-1)), (.int 0), x10, x23, x12, x13, x14, x15, x16, x17, x18, x19]).bind fun x25 =>
        calls (W f_ref26_lead 0 [x25]) 2 fun x26 x27 =>
        some [x26, x27]) (
        W f_ref26_Tick 1 [(.int 0), x5, x6, (.int 1), x22, x5, (.int (-1)), (.int 0), x10, x12, x13, x14, x15, x16, x17, x18, x19, (.int 0), (.int 0), (.int 0), (.int 0), (.int 0), (.int 0), (.int 0), (.int 0), (.int 0), (.int 0), (.int 0), (.int 0), (.str ⟨#[]⟩), (.list []), x23]))) := V_is rfl (by kernel_rfl)
theorem e_f_ref26_Tick_1 (x0 x1 x2 x3 x4 x5 x6 x7 x8 x9 x10 x11 x12 x13 x14 x15 x16 x17 x18 x19 x20 x21 x22 x23 x24 x25 x26 x27 x28 x29 x30 x31 : IV) : W f_ref26_Tick 1 [x0, x1, x2, x3, x4, x5, x6, x7, x8, x9, x10, x11, x12, x13, x14, x15, x16, x17, x18, x19, x20, x21, x22, x23, x24, x25, x26, x27, x28, x29, x30, x31] =
  (O.lt x0 x2).bind fun x32 =>
  cnd x32 (
    (O.ne x0 x1).bind fun x33 =>
    cnd x33 (
      (O.mkagg [x1, x2, x3, x4, x5, x6, x7, x8, x31, x9, x10, x11, x12, x13, x14, x15, x16]).bind fun x34 =>
      calls (W f_ref26_message 0 [x34, (.int 1), x0]) 10 fun x35 x36 x37 x38 x39 x40 x41 x42 x43 x44 =>
      (O.mkagg [x13, x14, x15]).bind fun x45 =>
      calls (W f_ref25_Last 0 [x45]) 2 fun x46 x47 =>
      (O.mkagg [x35, x36, x37, x38, x46, x47, x41, x42, x43, x44]).bind fun x48 =>
      (O.mklist [x48]).bind fun x49 =>
      (O.append 104 x30 x49).bind fun x50 =>
      W f_ref26_Tick 2 [x0, x1, x2, x3, x4, x5, x6, x7, x8, x9, x10, x11, x12, x13, x14, x15, x16, x17, x18, x19, x20, x21, x22, x23, x24, x25, x26, x27, x28, x29, x50, x31]) (
      W f_ref26_Tick 2 [x0, x1, x2, x3, x4, x5, x6, x7, x8, x9, x10, x11, x12, x13, x14, x15, x16, x17, x18, x19, x20, x21, x22, x23, x24, x25, x26, x27, x28, x29, x30, x31])) (
    (O.mkagg [x1, x2, x3, x4, x5, x6, x7, x8, x31, x9, x10, x11, x12, x13, x14, x15, x16]).bind fun x33 =>
    some [x33, x30]) := V_is rfl (by kernel_rfl)
theorem e_f_ref26_Tick_2 (x0 x1 x2 x3 x4 x5 x6 x7 x8 x9 x10 x11 x12 x13 x14 x15 x16 x17 x18 x19 x20 x21 x22 x23 x24 x25 x26 x27 x28 x29 x30 x31 : IV) : W f_ref26_Tick 2 [x0, x1, x2, x3, x4, x5, x6, x7, x8, x9, x10, x11, x12, x13, x14, x15, x16, x17, x18, x19, x20, x21, x22, x23, x24, x25, x26, x27, x28, x29, x30, x31] =
  (O.add .i64 x0 (.int 1)).bind fun x32 =>
  W f_ref26_Tick 1 [x32, x1, x2, x3, x4, x5, x6, x7, x8, x9, x10, x11, x12, x13, x14, x15, x16, x17, x18, x19, x20, x21, x22, x23, x24, x25, x26, x27, x28, x29, x30, x31] := V_is rfl (by kernel_rfl)
theorem e_f_ref26_all_0 (x0 : IV) : W f_ref26_all 0 [x0] =
  W f_ref26_all 1 [(.int 0), x0, (.list [])] := V_is rfl (by kernel_rfl)
theorem e_f_ref26_all_1 (x0 x1 x2 : IV) : W f_ref26_all 1 [x0, x1, x2] =
  (O.proj 1 x1).bind fun x3 =>
  (O.lt x0 x3).bind fun x4 =>
  cnd x4 (
    (O.proj 0 x1).bind fun x5 =>
    (O.ne x0 x5).bind fun x6 =>
    cnd x6 (
      calls (W f_ref26_appendTo 0 [x1, x0]) 1 fun x7 =>
      (O.mklist [x7]).bind fun x8 =>
      (O.append 104 x2 x8).bind fun x9 =>
      W f_ref26_all 2 [x0, x1, x9]) (
      W f_ref26_all 2 [x0, x1, x2])) (
    some [x2]) := V_is rfl (by kernel_rfl)
theorem e_f_ref26_all_2 (x0 x1 x2 : IV) : W f_ref26_all 2 [x0, x1, x2] =
  (O.add .i64 x0 (.int 1)).bind fun x3 =>
  W f_ref26_all 1 [x3, x1, x2] := V_is rfl (by kernel_rfl)
theorem e_f_ref26_appendTo_0 (x0 x1 : IV) : W f_ref26_appendTo 0 [x0, x1] =
  (O.proj 9 x0).bind fun x2 =>
  (O.index x2 x1).bind fun x3 =>
  (O.proj 13 x0).bind fun x4 =>
  (O.le x3 x4).bind fun x5 =>
  cnd x5 (
    calls (W f_ref26_message 0 [x0, (.int 5), x1]) 10 fun x6 x7 x8 x9 x10 x11 x12 x13 x14 x15 =>
    (O.proj 14 x0).bind fun x16 =>
    (O.proj 16 x0).bind fun x17 =>
    (O.mkagg [x6, x7, x8, x9, x4, x16, x12, x13, x14, x17]).bind fun x18 =>
    some [x18]) (
    calls (W f_ref26_message 0 [x0, (.int 3), x1]) 10 fun x6 x7 x8 x9 x10 x11 x12 x13 x14 x15 =>
    (O.sub .i64 x3 (.int 1)).bind fun x16 =>
    (O.projs 13 3 x0).bind fun x17 =>
    (O.sub .i64 x3 (.int 1)).bind fun x18 =>
    calls (W f_ref25_TermAt 0 [x17, x18]) 2 fun x19 x20 =>
    calls (W f_ref25_From 0 [x17, x3, (.int 8)]) 2 fun x21 x22 =>
    (O.proj 11 x0).bind fun x23 =>
    (O.mkagg [x6, x7, x8, x9, x16, x19, x23, x13, x21, x15]).bind fun x24 =>
    some [x24]) := V_is rfl (by kernel_rfl)
theorem e_f_ref26_message_0 (x0 x1 x2 : IV) : W f_ref26_message 0 [x0, x1, x2] =
  (O.proj 0 x0).bind fun x3 =>
  (O.proj 3 x0).bind fun x4 =>
  some [x1, x3, x2, x4, (.int 0), (.int 0), (.int 0), (.bool false), (.list []), (.str ⟨#[]⟩)] := V_is rfl (by kernel_rfl)
theorem e_f_ref25_TermAt_0 (x0 x1 : IV) : W f_ref25_TermAt 0 [x0, x1] =
  (O.proj 0 x0).bind fun x2 =>
  (O.eq x1 x2).bind fun x3 =>
  cnd x3 (
    (O.proj 1 x0).bind fun x4 =>
    some [x4, (.bool true)]) (
    (O.lt x1 x2).bind fun x4 =>
    (cnd x4 (some (.bool true)) (
        (O.proj 2 x0).bind fun x5 =>
        (O.len x5).bind fun x6 =>
        (O.add .i64 x2 x6).bind fun x7 =>
        (O.gt x1 x7).bind fun x8 =>
        some x8)).bind fun x5 =>
    cnd x5 (
      some [(.int 0), (.bool false)]) (
      (O.proj 2 x0).bind fun x6 =>
      (O.sub .i64 x1 x2).bind fun x7 =>
      (O.sub .i64 x7 (.int 1)).bind fun x8 =>
      (O.index x6 x8).bind fun x9 =>
      (O.proj 0 x9).bind fun x10 =>
      some [x10, (.bool true)])) := V_is rfl (by kernel_rfl)
theorem e_f_ref25_From_0 (x0 x1 x2 : IV) : W f_ref25_From 0 [x0, x1, x2] =
  (O.proj 0 x0).bind fun x3 =>
  (O.le x1 x3).bind fun x4 =>
  (cnd x4 (some (.bool true)) (
      (O.proj 2 x0).bind fun x5 =>
      (O.len x5).bind fun x6 =>
      (O.add .i64 x3 x6).bind fun x7 =>
      (O.add .i64 x7 (.int 1)).bind fun x8 =>
      (O.gt x1 x8).bind fun x9 =>
      some x9)).bind fun x5 =>
  cnd x5 (
    some [(.list []), (.bool false)]) (
    (O.sub .i64 x1 x3).bind fun x6 =>
    (O.sub .i64 x6 (.int 1)).bind fun x7 =>
    (O.max (.int 0) x2).bind fun x8 =>
    (O.proj 2 x0).bind fun x9 =>
    (O.len x9).bind fun x10 =>
    (O.sub .i64 x10 x7).bind fun x11 =>
    (O.min x8 x11).bind fun x12 =>
    (O.add .i64 x7 x12).bind fun x13 =>
    (O.slice x9 x7 x13).bind fun x14 =>
    some [x14, (.bool true)]) := V_is rfl (by kernel_rfl)
theorem e_f_ref26_lead_0 (x0 : IV) : W f_ref26_lead 0 [x0] =
  (O.projs 13 3 x0).bind fun x1 =>
  calls (W f_ref25_Last 0 [x1]) 2 fun x2 x3 =>
  (O.proj 0 x0).bind fun x4 =>
  (O.proj 1 x0).bind fun x5 =>
  (O.proj 2 x0).bind fun x6 =>
  (O.proj 3 x0).bind fun x7 =>
  (O.proj 4 x0).bind fun x8 =>
  (O.proj 5 x0).bind fun x9 =>
  (O.proj 6 x0).bind fun x10 =>
  (O.proj 7 x0).bind fun x11 =>
  (O.proj 8 x0).bind fun x12 =>
  (O.proj 9 x0).bind fun x13 =>
  (O.proj 10 x0).bind fun x14 =>
  (O.proj 11 x0).bind fun x15 =>
  (O.proj 12 x0).bind fun x16 =>
  (O.proj 13 x0).bind fun x17 =>
  (O.proj 14 x0).bind fun x18 =>
  (O.proj 15 x0).bind fun x19 =>
  (O.proj 16 x0).bind fun x20 =>
  W f_ref26_lead 1 [x2, (.int 0), x4, x5, (.int 2), x7, x8, x4, (.int 0), x11, x15, x16, x17, x18, x19, x20, (.int 0), (.int 0), (.int 0), (.int 0), (.int 0), (.int 0), (.int 0), (.int 0), (.int 0), (.int 0), (.int 0), (.int 0), (.str ⟨#[]⟩), (.list []), (.list [])] := V_is rfl (by kernel_rfl)
theorem e_f_ref26_lead_1 (x0 x1 x2 x3 x4 x5 x6 x7 x8 x9 x10 x11 x12 x13 x14 x15 x16 x17 x18 x19 x20 x21 x22 x23 x24 x25 x26 x27 x28 x29 x30 : IV) : W f_ref26_lead 1 [x0, x1, x2, x3, x4, x5, x6, x7, x8, x9, x10, x11, x12, x13, x14, x15, x16, x17, x18, x19, x20, x21, x22, x23, x24, x25, x26, x27, x28, x29, x30] =
  (O.lt x1 x3).bind fun x31 =>
  cnd x31 (
    (O.add .i64 x0 (.int 1)).bind fun x32 =>
    (O.mklist [x32]).bind fun x33 =>
    (O.append 8 x29 x33).bind fun x34 =>
    (O.mklist [(.int 0)]).bind fun x35 =>
    (O.append 8 x30 x35).bind fun x36 =>
    (O.add .i64 x1 (.int 1)).bind fun x37 =>
    W f_ref26_lead 1 [x0, x37, x2, x3, x4, x5, x6, x7, x8, x9, x10, x11, x12, x13, x14, x15, x16, x17, x18, x19, x20, x21, x22, x23, x24, x25, x26, x27, x28, x34, x36]) (
    (O.len x14).bind fun x32 =>
    (O.lt x32 (.int 400)).bind fun x33 =>
    cnd x33 (
      (O.mkagg [x2, x3, x4, x5, x6, x7, x8, x9, (.list []), x29, x30, x10, x11, x12, x13, x14, x15]).bind fun x34 =>
      calls (W f_ref26_write 0 [x34, (.str ⟨#[]⟩)]) 1 fun x35 =>
      calls (W f_ref26_all 0 [x35]) 1 fun x36 =>
      some [x35, x36]) (
      (O.mkagg [x2, x3, x4, x5, x6, x7, x8, x9, (.list []), x29, x30, x10, x11, x12, x13, x14, x15]).bind fun x34 =>
      calls (W f_ref26_own 0 [x34]) 1 fun x35 =>
      calls (W f_ref26_all 0 [x35]) 1 fun x36 =>
      some [x35, x36])) := V_is rfl (by kernel_rfl)
theorem e_f_ref25_Last_0 (x0 : IV) : W f_ref25_Last 0 [x0] =
  (O.proj 2 x0).bind fun x1 =>
  (O.len x1).bind fun x2 =>
  (O.eq x2 (.int 0)).bind fun x3 =>
  cnd x3 (
    (O.proj 0 x0).bind fun x4 =>
    (O.proj 1 x0).bind fun x5 =>
    some [x4, x5]) (
    (O.proj 0 x0).bind fun x4 =>
    (O.add .i64 x4 x2).bind fun x5 =>
    (O.sub .i64 x2 (.int 1)).bind fun x6 =>
    (O.index x1 x6).bind fun x7 =>
    (O.proj 0 x7).bind fun x8 =>
    some [x5, x8]) := V_is rfl (by kernel_rfl)
theorem e_f_ref26_write_0 (x0 x1 : IV) : W f_ref26_write 0 [x0, x1] =
  (O.mklist []).bind fun x2 =>
  (O.proj 15 x0).bind fun x3 =>
  (O.append 24 x2 x3).bind fun x4 =>
  (O.proj 3 x0).bind fun x5 =>
  (O.mkagg [x5, x1]).bind fun x6 =>
  (O.mklist [x6]).bind fun x7 =>
  (O.append 24 x4 x7).bind fun x8 =>
  (O.proj 0 x0).bind fun x9 =>
  (O.proj 1 x0).bind fun x10 =>
  (O.proj 2 x0).bind fun x11 =>
  (O.proj 4 x0).bind fun x12 =>
  (O.proj 5 x0).bind fun x13 =>
  (O.proj 6 x0).bind fun x14 =>
  (O.proj 7 x0).bind fun x15 =>
  (O.proj 8 x0).bind fun x16 =>
  (O.proj 9 x0).bind fun x17 =>
  (O.proj 10 x0).bind fun x18 =>
  (O.proj 11 x0).bind fun x19 =>
  (O.proj 12 x0).bind fun x20 =>
  (O.proj 13 x0).bind fun x21 =>
  (O.proj 14 x0).bind fun x22 =>
  (O.proj 16 x0).bind fun x23 =>
  (O.mkagg [x9, x10, x11, x5, x12, x13, x14, x15, x16, x17, x18, x19, x20, x21, x22, x8, x23]).bind fun x24 =>
  calls (W f_ref26_own 0 [x24]) 1 fun x25 =>
  some [x25] := V_is rfl (by kernel_rfl)
theorem e_f_ref26_own_0 (x0 : IV) : W f_ref26_own 0 [x0] =
  (O.projs 13 3 x0).bind fun x1 =>
  calls (W f_ref25_Last 0 [x1]) 2 fun x2 x3 =>
  (O.proj 10 x0).bind fun x4 =>
  (O.proj 0 x0).bind fun x5 =>
  calls (W f_ref26_set 0 [x4, x5, x2]) 1 fun x6 =>
  (O.proj 1 x0).bind fun x7 =>
  (O.proj 2 x0).bind fun x8 =>
  (O.proj 3 x0).bind fun x9 =>
  (O.proj 4 x0).bind fun x10 =>
  (O.proj 5 x0).bind fun x11 =>
  (O.proj 6 x0).bind fun x12 =>
  (O.proj 7 x0).bind fun x13 =>
  (O.proj 8 x0).bind fun x14 =>
  (O.proj 9 x0).bind fun x15 =>
  (O.proj 11 x0).bind fun x16 =>
  (O.proj 12 x0).bind fun x17 =>
  (O.proj 13 x0).bind fun x18 =>
  (O.proj 14 x0).bind fun x19 =>
  (O.proj 15 x0).bind fun x20 =>
  (O.proj 16 x0).bind fun x21 =>
  (O.add .i64 x2 (.int 1)).bind fun x22 =>
  calls (W f_ref26_set 0 [x15, x5, x22]) 1 fun x23 =>
  (O.eq x7 (.int 1)).bind fun x24 =>
  cnd x24 (
    (O.mkagg [x5, x7, x8, x9, x10, x11, x12, x13, x14, x23, x6, x16, x17, x18, x19, x20, x21]).bind fun x25 =>
    calls (W f_ref26_advance 0 [x25]) 1 fun x26 =>
    some [x26]) (
    (O.mkagg [x5, x7, x8, x9, x10, x11, x12, x13, x14, x23, x6, x16, x17, x18, x19, x20, x21]).bind fun x25 =>
    some [x25]) := V_is rfl (by kernel_rfl)
theorem e_f_ref26_set_0 (x0 x1 x2 : IV) : W f_ref26_set 0 [x0, x1, x2] =
  (O.mklist []).bind fun x3 =>
  (O.append 8 x3 x0).bind fun x4 =>
  (O.index x4 x1).bind fun x5 =>
  (O.setAt 0 1 false true x4 x1 x2).bind fun x6 =>
  some [x6] := V_is rfl (by kernel_rfl)
theorem e_f_ref26_advance_0 (x0 : IV) : W f_ref26_advance 0 [x0] =
  (O.projs 13 3 x0).bind fun x1 =>
  calls (W f_ref25_Last 0 [x1]) 2 fun x2 x3 =>
  W f_ref26_advance 1 [x2, x0, (.int 0), (.int 0), (.int 0), (.int 0), (.int 0), (.int 0), (.int 0), (.int 0), (.int 0), (.int 0), (.int 0), (.int 0), (.str ⟨#[]⟩)] := V_is rfl (by kernel_rfl)
theorem e_f_ref26_advance_1 (x0 x1 x2 x3 x4 x5 x6 x7 x8 x9 x10 x11 x12 x13 x14 : IV) : W f_ref26_advance 1 [x0, x1, x2, x3, x4, x5, x6, x7, x8, x9, x10, x11, x12, x13, x14] =
  (O.proj 11 x1).bind fun x15 =>
  (O.gt x0 x15).bind fun x16 =>
  cnd x16 (
    (O.projs 13 3 x1).bind fun x17 =>
    calls (W f_ref25_TermAt 0 [x17, x0]) 2 fun x18 x19 =>
    (O.proj 3 x1).bind fun x20 =>
    (O.eq x18 x20).bind fun x21 =>
    (cnd x21 (
        calls (W f_ref26_agree 0 [x1, x0]) 1 fun x22 =>
        (O.mul .i64 (.int 2) x22).bind fun x23 =>
        (O.proj 1 x1).bind fun x24 =>
        (O.gt x23 x24).bind fun x25 =>
        some x25) (some (.bool false))).bind fun x22 =>
    cnd x22 (
      (O.proj 0 x1).bind fun x23 =>
      (O.proj 1 x1).bind fun x24 =>
      (O.proj 2 x1).bind fun x25 =>
      (O.proj 4 x1).bind fun x26 =>
      (O.proj 5 x1).bind fun x27 =>
      (O.proj 6 x1).bind fun x28 =>
      (O.proj 7 x1).bind fun x29 =>
      (O.proj 8 x1).bind fun x30 =>
      (O.proj 9 x1).bind fun x31 =>
      (O.proj 10 x1).bind fun x32 =>
      (O.proj 12 x1).bind fun x33 =>
      (O.proj 13 x1).bind fun x34 =>
      (O.proj 14 x1).bind fun x35 =>
      (O.proj 15 x1).bind fun x36 =>
      (O.proj 16 x1).bind fun x37 =>
      (O.mkagg [x23, x24, x25, x20, x26, x27, x28, x29, x30, x31, x32, x0, x0, x34, x35, x36, x37]).bind fun x38 =>
      some [x38]) (
      (O.sub .i64 x0 (.int 1)).bind fun x23 =>
      W f_ref26_advance 1 [x23, x1, x2, x3, x4, x5, x6, x7, x8, x9, x10, x11, x12, x13, x14])) (
    some [x1]) := V_is rfl (by kernel_rfl)
theorem e_f_ref26_agree_0 (x0 x1 : IV) : W f_ref26_agree 0 [x0, x1] =
  W f_ref26_agree 1 [x1, (.int 0), (.int 0), x0] := V_is rfl (by kernel_rfl)
theorem e_f_ref26_agree_1 (x0 x1 x2 x3 : IV) : W f_ref26_agree 1 [x0, x1, x2, x3] =
  (O.proj 10 x3).bind fun x4 =>
  (O.len x4).bind fun x5 =>
  (O.lt x2 x5).bind fun x6 =>
  cnd x6 (
    (O.index x4 x2).bind fun x7 =>
    (O.ge x7 x0).bind fun x8 =>
    cnd x8 (
      (O.add .i64 x1 (.int 1)).bind fun x9 =>
      W f_ref26_agree 2 [x0, x9, x2, x3]) (
      W f_ref26_agree 2 [x0, x1, x2, x3])) (
    some [x1]) := V_is rfl (by kernel_rfl)
theorem e_f_ref26_agree_2 (x0 x1 x2 x3 : IV) : W f_ref26_agree 2 [x0, x1, x2, x3] =
  (O.add .i64 x2 (.int 1)).bind fun x4 =>
  W f_ref26_agree 1 [x0, x1, x4, x3] := V_is rfl (by kernel_rfl)
theorem e_f_ref26_Handle_0 (x0 x1 : IV) : W f_ref26_Handle 0 [x0, x1] =
  calls (W f_ref26_ignored 0 [x0, x1]) 1 fun x2 =>
  cnd x2 (
    some [x0, (.list [])]) (
    (O.proj 3 x1).bind fun x3 =>
    (O.proj 3 x0).bind fun x4 =>
    (O.lt x3 x4).bind fun x5 =>
    cnd x5 (
      calls (W f_ref26_stale 0 [x0, x1]) 1 fun x6 =>
      some [x0, x6]) (
      (O.gt x3 x4).bind fun x6 =>
      cnd x6 (
        (O.proj 0 x0).bind fun x7 =>
        (O.proj 1 x0).bind fun x8 =>
        (O.proj 2 x0).bind fun x9 =>
        (O.proj 4 x0).bind fun x10 =>
        (O.proj 5 x0).bind fun x11 =>
        (O.proj 6 x0).bind fun x12 =>
        (O.proj 7 x0).bind fun x13 =>
        (O.proj 8 x0).bind fun x14 =>
        (O.proj 9 x0).bind fun x15 =>
        (O.proj 10 x0).bind fun x16 =>
        (O.proj 11 x0).bind fun x17 =>
        (O.proj 12 x0).bind fun x18 =>
        (O.proj 13 x0).bind fun x19 =>
        (O.proj 14 x0).bind fun x20 =>
        (O.proj 15 x0).bind fun x21 =>
        (O.proj 16 x0).bind fun x22 =>
        (O.mkagg [x7, x8, (.int 0), x3, (.int (-1)), (.int (-1)), x12, x13, (.list []), (.list []), (.list []), x17, x18, x19, x20, x21, x22]).bind fun x23 =>
        W f_ref26_Handle 1 [x23, x1, (.int 0), (.int 0), (.int 0), (.int 0), (.int 0), (.int 0), (.int 0), (.int 0), (.int 0), (.int 0), (.int 0), (.int 0), (.str ⟨#[]⟩)]) (
        W f_ref26_Handle 1 [x0, x1, (.int 0), (.int 0), (.int 0), (.int 0), (.int 0), (.int 0), (.int 0), (.int 0), (.int 0), (.int 0), (.int 0), (.int 0), (.str ⟨#[]⟩)]))) := V_is rfl (by kernel_rfl)
theorem e_f_ref26_Handle_1 (x0 x1 x2 x3 x4 x5 x6 x7 x8 x9 x10 x11 x12 x13 x14 : IV) : W f_ref26_Handle 1 [x0, x1, x2, x3, x4, x5, x6, x7, x8, x9, x10, x11, x12, x13, x14] =
  (O.proj 0 x1).bind fun x15 =>
  (O.eq x15 (.int 1)).bind fun x16 =>
  cnd x16 (
    calls (W f_ref26_vote 0 [x0, x1]) 2 fun x17 x18 =>
    some [x17, x18]) (
    (O.eq x15 (.int 2)).bind fun x17 =>
    cnd x17 (
      calls (W f_ref26_voted 0 [x0, x1]) 2 fun x18 x19 =>
      some [x18, x19]) (
      (O.eq x15 (.int 3)).bind fun x18 =>
      cnd x18 (
        calls (W f_ref26_appended 0 [x0, x1]) 2 fun x19 x20 =>
        some [x19, x20]) (
        (O.eq x15 (.int 4)).bind fun x19 =>
        cnd x19 (
          calls (W f_ref26_acknowledged 0 [x0, x1]) 2 fun x20 x21 =>
          some [x20, x21]) (
          calls (W f_ref26_installed 0 [x0, x1]) 2 fun x20 x21 =>
          some [x20, x21])))) := V_is rfl (by kernel_rfl)
theorem e_f_ref26_ignored_0 (x0 x1 : IV) : W f_ref26_ignored 0 [x0, x1] =
  (O.proj 2 x1).bind fun x2 =>
  (O.proj 0 x0).bind fun x3 =>
  (O.ne x2 x3).bind fun x4 =>
  (cnd x4 (some (.bool true)) (
      (O.proj 1 x1).bind fun x5 =>
      (O.eq x5 x3).bind fun x6 =>
      some x6)).bind fun x5 =>
  (cnd x5 (some (.bool true)) (
      (O.proj 1 x1).bind fun x6 =>
      (O.lt x6 (.int 0)).bind fun x7 =>
      some x7)).bind fun x6 =>
  (cnd x6 (some (.bool true)) (
      (O.proj 1 x1).bind fun x7 =>
      (O.proj 1 x0).bind fun x8 =>
      (O.ge x7 x8).bind fun x9 =>
      some x9)).bind fun x7 =>
  (cnd x7 (some (.bool true)) (
      (O.proj 3 x1).bind fun x8 =>
      (O.lt x8 (.int 0)).bind fun x9 =>
      some x9)).bind fun x8 =>
  (cnd x8 (some (.bool true)) (
      (O.proj 3 x1).bind fun x9 =>
      (O.gt x9 (.int 1000000000000000)).bind fun x10 =>
      some x10)).bind fun x9 =>
  (cnd x9 (some (.bool true)) (
      (O.proj 0 x1).bind fun x10 =>
      (O.lt x10 (.int 1)).bind fun x11 =>
      some x11)).bind fun x10 =>
  (cnd x10 (some (.bool true)) (
      (O.proj 0 x1).bind fun x11 =>
      (O.gt x11 (.int 5)).bind fun x12 =>
      some x12)).bind fun x11 =>
  cnd x11 (
    some [(.bool true)]) (
    W f_ref26_ignored 1 [(.int 0), x1]) := V_is rfl (by kernel_rfl)
theorem e_f_ref26_ignored_1 (x0 x1 : IV) : W f_ref26_ignored 1 [x0, x1] =
  (O.proj 8 x1).bind fun x2 =>
  (O.len x2).bind fun x3 =>
  (O.lt x0 x3).bind fun x4 =>
  cnd x4 (
    (O.proj 0 x1).bind fun x5 =>
    (O.eq x5 (.int 3)).bind fun x6 =>
    (cnd x6 (
        (O.index x2 x0).bind fun x7 =>
        (O.proj 0 x7).bind fun x8 =>
        (O.proj 3 x1).bind fun x9 =>
        (O.gt x8 x9).bind fun x10 =>
        some x10) (some (.bool false))).bind fun x7 =>
    cnd x7 (
      some [(.bool true)]) (
      (O.add .i64 x0 (.int 1)).bind fun x8 =>
      W f_ref26_ignored 1 [x8, x1])) (
    (O.proj 0 x1).bind fun x5 =>
    (O.eq x5 (.int 5)).bind fun x6 =>
    (cnd x6 (
        (O.proj 4 x1).bind fun x7 =>
        (O.lt x7 (.int 1)).bind fun x8 =>
        (cnd x8 (some (.bool true)) (
            (O.gt x7 (.int 1000000000000000)).bind fun x9 =>
            some x9)).bind fun x9 =>
        (cnd x9 (some (.bool true)) (
            (O.proj 5 x1).bind fun x10 =>
            (O.lt x10 (.int 1)).bind fun x11 =>
            some x11)).bind fun x10 =>
        (cnd x10 (some (.bool true)) (
            (O.proj 5 x1).bind fun x11 =>
            (O.proj 3 x1).bind fun x12 =>
            (O.gt x11 x12).bind fun x13 =>
            some x13)).bind fun x11 =>
        some x11) (some (.bool false))).bind fun x7 =>
    some [x7]) := V_is rfl (by kernel_rfl)
theorem e_f_ref26_stale_0 (x0 x1 : IV) : W f_ref26_stale 0 [x0, x1] =
  (O.proj 0 x1).bind fun x2 =>
  (O.eq x2 (.int 1)).bind fun x3 =>
  cnd x3 (
    (O.proj 1 x1).bind fun x4 =>
    calls (W f_ref26_reply 0 [x0, (.int 2), x4, (.bool false), (.int 0)]) 1 fun x5 =>
    some [x5]) (
    (O.eq x2 (.int 3)).bind fun x4 =>
    (cnd x4 (some (.bool true)) (
        (O.eq x2 (.int 5)).bind fun x5 =>
        some x5)).bind fun x5 =>
    cnd x5 (
      (O.proj 1 x1).bind fun x6 =>
      calls (W f_ref26_reply 0 [x0, (.int 4), x6, (.bool false), (.int 0)]) 1 fun x7 =>
      some [x7]) (
      some [(.list [])])) := V_is rfl (by kernel_rfl)
theorem e_f_ref26_reply_0 (x0 x1 x2 x3 x4 : IV) : W f_ref26_reply 0 [x0, x1, x2, x3, x4] =
  calls (W f_ref26_message 0 [x0, x1, x2]) 10 fun x5 x6 x7 x8 x9 x10 x11 x12 x13 x14 =>
  (O.mkagg [x5, x6, x7, x8, x4, x10, x11, x3, x13, x14]).bind fun x15 =>
  (O.mklist [x15]).bind fun x16 =>
  some [x16] := V_is rfl (by kernel_rfl)
theorem e_f_ref26_vote_0 (x0 x1 : IV) : W f_ref26_vote 0 [x0, x1] =
  (O.projs 13 3 x0).bind fun x2 =>
  calls (W f_ref25_Last 0 [x2]) 2 fun x3 x4 =>
  (O.proj 4 x0).bind fun x5 =>
  (O.eq x5 (.int (-1))).bind fun x6 =>
  (cnd x6 (some (.bool true)) (
      (O.proj 1 x1).bind fun x7 =>
      (O.eq x5 x7).bind fun x8 =>
      some x8)).bind fun x7 =>
  (cnd x7 (
      (O.proj 5 x1).bind fun x8 =>
      (O.proj 4 x1).bind fun x9 =>
      calls (W f_ref25_Newer 0 [x8, x9, x4, x3]) 1 fun x10 =>
      some x10) (some (.bool false))).bind fun x8 =>
  cnd x8 (
    (O.proj 1 x1).bind fun x9 =>
    (O.proj 0 x0).bind fun x10 =>
    (O.proj 1 x0).bind fun x11 =>
    (O.proj 2 x0).bind fun x12 =>
    (O.proj 3 x0).bind fun x13 =>
    (O.proj 5 x0).bind fun x14 =>
    (O.proj 6 x0).bind fun x15 =>
    (O.proj 7 x0).bind fun x16 =>
    (O.proj 8 x0).bind fun x17 =>
    (O.proj 9 x0).bind fun x18 =>
    (O.proj 10 x0).bind fun x19 =>
    (O.proj 11 x0).bind fun x20 =>
    (O.proj 12 x0).bind fun x21 =>
    (O.proj 13 x0).bind fun x22 =>
    (O.proj 14 x0).bind fun x23 =>
    (O.proj 15 x0).bind fun x24 =>
    (O.proj 16 x0).bind fun x25 =>
    W f_ref26_vote 1 [x8, x10, x11, x12, x13, x9, x14, (.int 0), x16, x17, x18, x19, x20, x21, x22, x23, x24, x25, x1, (.int 0), (.int 0), (.int 0), (.int 0), (.int 0), (.int 0), (.int 0), (.int 0), (.int 0), (.int 0), (.int 0), (.int 0), (.str ⟨#[]⟩)]) (
    (O.proj 0 x0).bind fun x9 =>
    (O.proj 1 x0).bind fun x10 =>
    (O.proj 2 x0).bind fun x11 =>
    (O.proj 3 x0).bind fun x12 =>
    (O.proj 5 x0).bind fun x13 =>
    (O.proj 6 x0).bind fun x14 =>
    (O.proj 7 x0).bind fun x15 =>
    (O.proj 8 x0).bind fun x16 =>
    (O.proj 9 x0).bind fun x17 =>
    (O.proj 10 x0).bind fun x18 =>
    (O.proj 11 x0).bind fun x19 =>
    (O.proj 12 x0).bind fun x20 =>
    (O.proj 13 x0).bind fun x21 =>
    (O.proj 14 x0).bind fun x22 =>
    (O.proj 15 x0).bind fun x23 =>
    (O.proj 16 x0).bind fun x24 =>
    W f_ref26_vote 1 [x8, x9, x10, x11, x12, x5, x13, x14, x15, x16, x17, x18, x19, x20, x21, x22, x23, x24, x1, (.int 0), (.int 0), (.int 0), (.int 0), (.int 0), (.int 0), (.int 0), (.int 0), (.int 0), (.int 0), (.int 0), (.int 0), (.str ⟨#[]⟩)]) := V_is rfl (by kernel_rfl)
theorem e_f_ref26_vote_1 (x0 x1 x2 x3 x4 x5 x6 x7 x8 x9 x10 x11 x12 x13 x14 x15 x16 x17 x18 x19 x20 x21 x22 x23 x24 x25 x26 x27 x28 x29 x30 x31 : IV) : W f_ref26_vote 1 [x0, x1, x2, x3, x4, x5, x6, x7, x8, x9, x10, x11, x12, x13, x14, x15, x16, x17, x18, x19, x20, x21, x22, x23, x24, x25, x26, x27, x28, x29, x30, x31] =
  (O.proj 1 x18).bind fun x32 =>
  (O.mkagg [x1, x2, x3, x4, x5, x6, x7, x8, x9, x10, x11, x12, x13, x14, x15, x16, x17]).bind fun x33 =>
  calls (W f_ref26_reply 0 [x33, (.int 2), x32, x0, (.int 0)]) 1 fun x34 =>
  some [x33, x34] := V_is rfl (by kernel_rfl)
theorem e_f_ref25_Newer_0 (x0 x1 x2 x3 : IV) : W f_ref25_Newer 0 [x0, x1, x2, x3] =
  (O.gt x0 x2).bind fun x4 =>
  (cnd x4 (some (.bool true)) (
      (O.eq x0 x2).bind fun x5 =>
      (cnd x5 (
          (O.ge x1 x3).bind fun x6 =>
          some x6) (some (.bool false))).bind fun x6 =>
      some x6)).bind fun x5 =>
  some [x5] := V_is rfl (by kernel_rfl)
theorem e_f_ref26_voted_0 (x0 x1 : IV) : W f_ref26_voted 0 [x0, x1] =
  (O.proj 2 x0).bind fun x2 =>
  (O.ne x2 (.int 1)).bind fun x3 =>
  (cnd x3 (some (.bool true)) (
      (O.proj 7 x1).bind fun x4 =>
      (O.not x4).bind fun x5 =>
      some x5)).bind fun x4 =>
  cnd x4 (
    some [x0, (.list [])]) (
    (O.proj 8 x0).bind fun x5 =>
    (O.proj 1 x1).bind fun x6 =>
    calls (W f_ref26_put 0 [x5, x6]) 1 fun x7 =>
    (O.proj 0 x0).bind fun x8 =>
    (O.proj 1 x0).bind fun x9 =>
    (O.proj 3 x0).bind fun x10 =>
    (O.proj 4 x0).bind fun x11 =>
    (O.proj 5 x0).bind fun x12 =>
    (O.proj 6 x0).bind fun x13 =>
    (O.proj 7 x0).bind fun x14 =>
    (O.proj 9 x0).bind fun x15 =>
    (O.proj 10 x0).bind fun x16 =>
    (O.proj 11 x0).bind fun x17 =>
    (O.proj 12 x0).bind fun x18 =>
    (O.proj 13 x0).bind fun x19 =>
    (O.proj 14 x0).bind fun x20 =>
    (O.proj 15 x0).bind fun x21 =>
    (O.proj 16 x0).bind fun x22 =>
    (O.len x7).bind fun x23 =>
    (O.mul .i64 (.int 2) x23).bind fun x24 =>
    (O.gt x24 x9).bind fun x25 =>
    cnd x25 (
      (O.mkagg [x8, x9, x2, x10, x11, x12, x13, x14, x7, x15, x16, x17, x18, x19, x20, x21, x22]).bind fun x26 =>
      calls (W f_ref26_lead 0 [x26]) 2 fun x27 x28 =>
      some [x27, x28]) (
      (O.mkagg [x8, x9, x2, x10, x11, x12, x13, x14, x7, x15, x16, x17, x18, x19, x20, x21, x22]).bind fun x26 =>
      some [x26, (.list [])])) := V_is rfl (by kernel_rfl)
theorem e_f_ref26_put_0 (x0 x1 : IV) : W f_ref26_put 0 [x0, x1] =
  W f_ref26_put 1 [x0, x1, (.int 0)] := V_is rfl (by kernel_rfl)
theorem e_f_ref26_put_1 (x0 x1 x2 : IV) : W f_ref26_put 1 [x0, x1, x2] =
  (O.len x0).bind fun x3 =>
  (O.lt x2 x3).bind fun x4 =>
  (cnd x4 (
      (O.index x0 x2).bind fun x5 =>
      (O.lt x5 x1).bind fun x6 =>
      some x6) (some (.bool false))).bind fun x5 =>
  cnd x5 (
    (O.add .i64 x2 (.int 1)).bind fun x6 =>
    W f_ref26_put 1 [x0, x1, x6]) (
    (O.lt x2 x3).bind fun x6 =>
    (cnd x6 (
        (O.index x0 x2).bind fun x7 =>
        (O.eq x7 x1).bind fun x8 =>
        some x8) (some (.bool false))).bind fun x7 =>
    cnd x7 (
      some [x0]) (
      (O.mklist []).bind fun x8 =>
      (O.slice x0 (.int 0) x2).bind fun x9 =>
      (O.append 8 x8 x9).bind fun x10 =>
      (O.mklist [x1]).bind fun x11 =>
      (O.append 8 x10 x11).bind fun x12 =>
      (O.sliceLo x0 x2).bind fun x13 =>
      (O.append 8 x12 x13).bind fun x14 =>
      some [x14])) := V_is rfl (by kernel_rfl)
theorem e_f_ref26_appended_0 (x0 x1 : IV) : W f_ref26_appended 0 [x0, x1] =
  (O.proj 2 x0).bind fun x2 =>
  (O.eq x2 (.int 2)).bind fun x3 =>
  (cnd x3 (some (.bool true)) (
      calls (W f_ref26_conflicts 0 [x0, x1]) 1 fun x4 =>
      some x4)).bind fun x4 =>
  cnd x4 (
    some [x0, (.list [])]) (
    (O.proj 1 x1).bind fun x5 =>
    calls (W f_ref26_follow 0 [x0, x5]) 17 fun x6 x7 x8 x9 x10 x11 x12 x13 x14 x15 x16 x17 x18 x19 x20 x21 x22 =>
    (O.proj 4 x1).bind fun x23 =>
    (O.proj 5 x1).bind fun x24 =>
    (O.proj 8 x1).bind fun x25 =>
    (O.mkagg [x19, x20, x21]).bind fun x26 =>
    calls (W f_ref25_Append 0 [x26, x23, x24, x25]) 3 fun x27 x28 x29 =>
    (O.not x29).bind fun x30 =>
    cnd x30 (
      (O.mkagg [x6, x7, x8, x9, x10, x11, x12, x13, x14, x15, x16, x17, x18, x19, x20, x21, x22]).bind fun x31 =>
      calls (W f_ref26_reply 0 [x31, (.int 4), x5, (.bool false), x28]) 1 fun x32 =>
      some [x31, x32]) (
      (O.proj 0 x27).bind fun x31 =>
      (O.proj 1 x27).bind fun x32 =>
      (O.proj 2 x27).bind fun x33 =>
      (O.proj 6 x1).bind fun x34 =>
      (O.lt x34 x28).bind fun x35 =>
      cnd x35 (
        W f_ref26_appended 1 [x28, x34, x6, x7, x8, x9, x10, x11, x12, x13, x15, x16, x17, x18, x31, x32, x33, x22, x1, (.int 0), (.int 0), (.int 0), (.int 0), (.int 0), (.int 0), (.int 0), (.int 0), (.int 0), (.int 0), (.int 0), (.int 0), (.str ⟨#[]⟩), x14]) (
        W f_ref26_appended 1 [x28, x28, x6, x7, x8, x9, x10, x11, x12, x13, x15, x16, x17, x18, x31, x32, x33, x22, x1, (.int 0), (.int 0), (.int 0), (.int 0), (.int 0), (.int 0), (.int 0), (.int 0), (.int 0), (.int 0), (.int 0), (.int 0), (.str ⟨#[]⟩), x14]))) := V_is rfl (by kernel_rfl)
theorem e_f_ref26_appended_1 (x0 x1 x2 x3 x4 x5 x6 x7 x8 x9 x10 x11 x12 x13 x14 x15 x16 x17 x18 x19 x20 x21 x22 x23 x24 x25 x26 x27 x28 x29 x30 x31 x32 : IV) : W f_ref26_appended 1 [x0, x1, x2, x3, x4, x5, x6, x7, x8, x9, x10, x11, x12, x13, x14, x15, x16, x17, x18, x19, x20, x21, x22, x23, x24, x25, x26, x27, x28, x29, x30, x31, x32] =
  (O.gt x1 x12).bind fun x33 =>
  cnd x33 (
    W f_ref26_appended 2 [x0, x2, x3, x4, x5, x6, x7, x8, x9, x10, x11, x1, x1, x14, x15, x16, x17, x18, x19, x20, x21, x22, x23, x24, x25, x26, x27, x28, x29, x30, x31, x32]) (
    W f_ref26_appended 2 [x0, x2, x3, x4, x5, x6, x7, x8, x9, x10, x11, x12, x13, x14, x15, x16, x17, x18, x19, x20, x21, x22, x23, x24, x25, x26, x27, x28, x29, x30, x31, x32]) := V_is rfl (by kernel_rfl)
theorem e_f_ref26_appended_2 (x0 x1 x2 x3 x4 x5 x6 x7 x8 x9 x10 x11 x12 x13 x14 x15 x16 x17 x18 x19 x20 x21 x22 x23 x24 x25 x26 x27 x28 x29 x30 x31 : IV) : W f_ref26_appended 2 [x0, x1, x2, x3, x4, x5, x6, x7, x8, x9, x10, x11, x12, x13, x14, x15, x16, x17, x18, x19, x20, x21, x22, x23, x24, x25, x26, x27, x28, x29, x30, x31] =
  (O.proj 1 x17).bind fun x32 =>
  (O.mkagg [x1, x2, x3, x4, x5, x6, x7, x8, x31, x9, x10, x11, x12, x13, x14, x15, x16]).bind fun x33 =>
  calls (W f_ref26_reply 0 [x33, (.int 4), x32, (.bool true), x0]) 1 fun x34 =>
  some [x33, x34] := V_is rfl (by kernel_rfl)
theorem e_f_ref26_conflicts_0 (x0 x1 : IV) : W f_ref26_conflicts 0 [x0, x1] =
  W f_ref26_conflicts 1 [(.int 0), x0, x1] := V_is rfl (by kernel_rfl)
theorem e_f_ref26_conflicts_1 (x0 x1 x2 : IV) : W f_ref26_conflicts 1 [x0, x1, x2] =
  (O.proj 8 x2).bind fun x3 =>
  (O.len x3).bind fun x4 =>
  (O.lt x0 x4).bind fun x5 =>
  cnd x5 (
    (O.proj 13 x1).bind fun x6 =>
    (O.add .i64 x6 (.int 1)).bind fun x7 =>
    W f_ref26_conflicts 2 [x0, x7, x1, x2]) (
    some [(.bool false)]) := V_is rfl (by kernel_rfl)
theorem e_f_ref26_conflicts_2 (x0 x1 x2 x3 : IV) : W f_ref26_conflicts 2 [x0, x1, x2, x3] =
  (O.proj 11 x2).bind fun x4 =>
  (O.le x1 x4).bind fun x5 =>
  cnd x5 (
    (O.projs 13 3 x2).bind fun x6 =>
    calls (W f_ref25_TermAt 0 [x6, x1]) 2 fun x7 x8 =>
    (O.sub .i64 x1 (.int 1)).bind fun x9 =>
    (O.sub .i64 x9 x0).bind fun x10 =>
    (O.proj 4 x3).bind fun x11 =>
    (O.eq x10 x11).bind fun x12 =>
    (cnd x12 (
        (O.proj 8 x3).bind fun x13 =>
        (O.index x13 x0).bind fun x14 =>
        (O.proj 0 x14).bind fun x15 =>
        (O.ne x7 x15).bind fun x16 =>
        some x16) (some (.bool false))).bind fun x13 =>
    cnd x13 (
      some [(.bool true)]) (
      (O.add .i64 x1 (.int 1)).bind fun x14 =>
      W f_ref26_conflicts 2 [x0, x14, x2, x3])) (
    (O.add .i64 x0 (.int 1)).bind fun x6 =>
    W f_ref26_conflicts 1 [x6, x2, x3]) := V_is rfl (by kernel_rfl)
theorem e_f_ref26_follow_0 (x0 x1 : IV) : W f_ref26_follow 0 [x0, x1] =
  (O.proj 0 x0).bind fun x2 =>
  (O.proj 1 x0).bind fun x3 =>
  (O.proj 2 x0).bind fun x4 =>
  (O.proj 3 x0).bind fun x5 =>
  (O.proj 4 x0).bind fun x6 =>
  (O.proj 5 x0).bind fun x7 =>
  (O.proj 6 x0).bind fun x8 =>
  (O.proj 7 x0).bind fun x9 =>
  (O.proj 8 x0).bind fun x10 =>
  (O.proj 9 x0).bind fun x11 =>
  (O.proj 10 x0).bind fun x12 =>
  (O.proj 11 x0).bind fun x13 =>
  (O.proj 12 x0).bind fun x14 =>
  (O.proj 13 x0).bind fun x15 =>
  (O.proj 14 x0).bind fun x16 =>
  (O.proj 15 x0).bind fun x17 =>
  (O.proj 16 x0).bind fun x18 =>
  some [x2, x3, (.int 0), x5, x6, x1, (.int 0), x9, (.list []), x11, x12, x13, x14, x15, x16, x17, x18] := V_is rfl (by kernel_rfl)
theorem e_f_ref25_Append_0 (x0 x1 x2 x3 : IV) : W f_ref25_Append 0 [x0, x1, x2, x3] =
  (O.lt x1 (.int 0)).bind fun x4 =>
  (cnd x4 (some (.bool true)) (
      (O.lt x2 (.int 0)).bind fun x5 =>
      some x5)).bind fun x5 =>
  (cnd x5 (some (.bool true)) (
      (O.max (.int 1) x2).bind fun x6 =>
      calls (W f_ref25_rises 0 [x3, x6]) 1 fun x7 =>
      (O.not x7).bind fun x8 =>
      some x8)).bind fun x6 =>
  cnd x6 (
    some [x0, (.int 0), (.bool false)]) (
    W f_ref25_Append 1 [x1, x2, x3, (.int 0), x0, (.int 0), (.int 0)]) := V_is rfl (by kernel_rfl)
theorem e_f_ref25_Append_1 (x0 x1 x2 x3 x4 x5 x6 : IV) : W f_ref25_Append 1 [x0, x1, x2, x3, x4, x5, x6] =
  (O.len x2).bind fun x7 =>
  (O.lt x3 x7).bind fun x8 =>
  cnd x8 (
    (O.proj 0 x4).bind fun x9 =>
    (O.sub .i64 x9 x0).bind fun x10 =>
    (O.ge x3 x10).bind fun x11 =>
    (cnd x11 (
        (O.index x2 x3).bind fun x12 =>
        (O.proj 0 x12).bind fun x13 =>
        (O.proj 1 x4).bind fun x14 =>
        (O.lt x13 x14).bind fun x15 =>
        some x15) (some (.bool false))).bind fun x12 =>
    cnd x12 (
      some [x4, (.int 0), (.bool false)]) (
      (O.add .i64 x3 (.int 1)).bind fun x13 =>
      W f_ref25_Append 1 [x0, x1, x2, x13, x4, x5, x6])) (
    (O.proj 0 x4).bind fun x9 =>
    (O.gt x0 x9).bind fun x10 =>
    cnd x10 (
      calls (W f_ref25_TermAt 0 [x4, x0]) 2 fun x11 x12 =>
      (O.not x12).bind fun x13 =>
      (cnd x13 (some (.bool true)) (
          (O.ne x11 x1).bind fun x14 =>
          some x14)).bind fun x14 =>
      cnd x14 (
        calls (W f_ref25_hint 0 [x4, x0, x1]) 1 fun x15 =>
        some [x4, x15, (.bool false)]) (
        W f_ref25_Append 2 [x0, x2, x4, x5, x6])) (
      W f_ref25_Append 2 [x0, x2, x4, x5, x6])) := V_is rfl (by kernel_rfl)
theorem e_f_ref25_Append_2 (x0 x1 x2 x3 x4 : IV) : W f_ref25_Append 2 [x0, x1, x2, x3, x4] =
  (O.proj 0 x2).bind fun x5 =>
  (O.sub .i64 x5 x0).bind fun x6 =>
  (O.max (.int 0) x6).bind fun x7 =>
  (O.sub .i64 x0 x5).bind fun x8 =>
  (O.max (.int 0) x8).bind fun x9 =>
  (O.proj 2 x2).bind fun x10 =>
  (O.append 24 (.list []) x10).bind fun x11 =>
  W f_ref25_Append 3 [x0, x1, x7, x9, x7, x2, x3, x4, x11] := V_is rfl (by kernel_rfl)
theorem e_f_ref25_Append_3 (x0 x1 x2 x3 x4 x5 x6 x7 x8 : IV) : W f_ref25_Append 3 [x0, x1, x2, x3, x4, x5, x6, x7, x8] =
  (O.len x1).bind fun x9 =>
  (O.lt x4 x9).bind fun x10 =>
  cnd x10 (
    (O.add .i64 x3 x4).bind fun x11 =>
    (O.sub .i64 x11 x2).bind fun x12 =>
    (O.len x8).bind fun x13 =>
    (O.lt x12 x13).bind fun x14 =>
    (cnd x14 (
        (O.index x8 x12).bind fun x15 =>
        (O.proj 0 x15).bind fun x16 =>
        (O.index x1 x4).bind fun x17 =>
        (O.proj 0 x17).bind fun x18 =>
        (O.eq x16 x18).bind fun x19 =>
        some x19) (some (.bool false))).bind fun x15 =>
    cnd x15 (
      (O.add .i64 x4 (.int 1)).bind fun x16 =>
      W f_ref25_Append 3 [x0, x1, x2, x3, x16, x5, x6, x7, x8]) (
      (O.slice x8 (.int 0) x12).bind fun x16 =>
      (O.sliceLo x1 x4).bind fun x17 =>
      (O.slice x8 (.int 0) x12).bind fun x18 =>
      (O.append 24 x18 x17).bind fun x19 =>
      W f_ref25_Append 4 [x0, x1, x5, x6, x7, x19])) (
    W f_ref25_Append 4 [x0, x1, x5, x6, x7, x8]) := V_is rfl (by kernel_rfl)
theorem e_f_ref25_Append_4 (x0 x1 x2 x3 x4 x5 : IV) : W f_ref25_Append 4 [x0, x1, x2, x3, x4, x5] =
  (O.len x5).bind fun x6 =>
  (O.gt x6 (.int 400)).bind fun x7 =>
  cnd x7 (
    (O.slice x5 (.int 0) (.int 400)).bind fun x8 =>
    (O.slice x5 (.int 0) (.int 400)).bind fun x9 =>
    W f_ref25_Append 5 [x0, x1, x2, x3, x4, x9]) (
    W f_ref25_Append 5 [x0, x1, x2, x3, x4, x5]) := V_is rfl (by kernel_rfl)
theorem e_f_ref25_Append_5 (x0 x1 x2 x3 x4 x5 : IV) : W f_ref25_Append 5 [x0, x1, x2, x3, x4, x5] =
  (O.proj 0 x2).bind fun x6 =>
  (O.add .i64 x6 (.int 400)).bind fun x7 =>
  (O.len x1).bind fun x8 =>
  (O.sub .i64 x7 x8).bind fun x9 =>
  (O.le x0 x9).bind fun x10 =>
  cnd x10 (
    (O.add .i64 x0 x8).bind fun x11 =>
    W f_ref25_Append 6 [x11, x2, x3, x4, x5]) (
    W f_ref25_Append 6 [x7, x2, x3, x4, x5]) := V_is rfl (by kernel_rfl)
theorem e_f_ref25_Append_6 (x0 x1 x2 x3 x4 : IV) : W f_ref25_Append 6 [x0, x1, x2, x3, x4] =
  (O.proj 0 x1).bind fun x5 =>
  (O.proj 1 x1).bind fun x6 =>
  (O.mkagg [x5, x6, x4]).bind fun x7 =>
  some [x7, x0, (.bool true)] := V_is rfl (by kernel_rfl)
theorem e_f_ref25_rises_0 (x0 x1 : IV) : W f_ref25_rises 0 [x0, x1] =
  W f_ref25_rises 1 [x0, x1, (.int 0)] := V_is rfl (by kernel_rfl)
theorem e_f_ref25_rises_1 (x0 x1 x2 : IV) : W f_ref25_rises 1 [x0, x1, x2] =
  (O.len x0).bind fun x3 =>
  (O.lt x2 x3).bind fun x4 =>
  cnd x4 (
    (O.index x0 x2).bind fun x5 =>
    (O.proj 0 x5).bind fun x6 =>
    (O.lt x6 x1).bind fun x7 =>
    (cnd x7 (some (.bool true)) (
        (O.gt x6 (.int 1000000000000000)).bind fun x8 =>
        some x8)).bind fun x8 =>
    cnd x8 (
      some [(.bool false)]) (
      (O.add .i64 x2 (.int 1)).bind fun x9 =>
      W f_ref25_rises 1 [x0, x6, x9])) (
    some [(.bool true)]) := V_is rfl (by kernel_rfl)
theorem e_f_ref25_hint_0 (x0 x1 x2 : IV) : W f_ref25_hint 0 [x0, x1, x2] =
  (O.sub .i64 x1 (.int 1)).bind fun x3 =>
  (O.proj 0 x0).bind fun x4 =>
  (O.proj 2 x0).bind fun x5 =>
  (O.len x5).bind fun x6 =>
  (O.add .i64 x4 x6).bind fun x7 =>
  (O.min x3 x7).bind fun x8 =>
  W f_ref25_hint 1 [x2, x8, x0] := V_is rfl (by kernel_rfl)
theorem e_f_ref25_hint_1 (x0 x1 x2 : IV) : W f_ref25_hint 1 [x0, x1, x2] =
  (O.proj 0 x2).bind fun x3 =>
  (O.gt x1 x3).bind fun x4 =>
  cnd x4 (
    calls (W f_ref25_TermAt 0 [x2, x1]) 2 fun x5 x6 =>
    (O.le x5 x0).bind fun x7 =>
    cnd x7 (
      some [x1]) (
      (O.sub .i64 x1 (.int 1)).bind fun x8 =>
      W f_ref25_hint 1 [x0, x8, x2])) (
    some [x3]) := V_is rfl (by kernel_rfl)
theorem e_f_ref26_acknowledged_0 (x0 x1 : IV) : W f_ref26_acknowledged 0 [x0, x1] =
  (O.proj 2 x0).bind fun x2 =>
  (O.ne x2 (.int 2)).bind fun x3 =>
  cnd x3 (
    some [x0, (.list [])]) (
    (O.projs 13 3 x0).bind fun x4 =>
    calls (W f_ref25_Last 0 [x4]) 2 fun x5 x6 =>
    (O.proj 7 x1).bind fun x7 =>
    (O.not x7).bind fun x8 =>
    cnd x8 (
      (O.proj 9 x0).bind fun x9 =>
      (O.proj 1 x1).bind fun x10 =>
      (O.index x9 x10).bind fun x11 =>
      (O.sub .i64 x11 (.int 1)).bind fun x12 =>
      (O.proj 4 x1).bind fun x13 =>
      (O.lt x13 x12).bind fun x14 =>
      cnd x14 (
        (O.add .i64 x13 (.int 1)).bind fun x15 =>
        W f_ref26_acknowledged 1 [x15, x0, x1, (.int 0), (.int 0), (.int 0), (.int 0), (.int 0), (.int 0), (.int 0), (.int 0), (.int 0), (.int 0), (.int 0), (.int 0), (.str ⟨#[]⟩)]) (
        W f_ref26_acknowledged 1 [x12, x0, x1, (.int 0), (.int 0), (.int 0), (.int 0), (.int 0), (.int 0), (.int 0), (.int 0), (.int 0), (.int 0), (.int 0), (.int 0), (.str ⟨#[]⟩)])) (
      (O.proj 4 x1).bind fun x9 =>
      (O.gt x9 x5).bind fun x10 =>
      cnd x10 (
        W f_ref26_acknowledged 2 [x5, x5, x0, x1, (.int 0), (.int 0), (.int 0), (.int 0), (.int 0), (.int 0), (.int 0), (.int 0), (.int 0), (.int 0), (.int 0), (.int 0), (.str ⟨#[]⟩)]) (
        W f_ref26_acknowledged 2 [x5, x9, x0, x1, (.int 0), (.int 0), (.int 0), (.int 0), (.int 0), (.int 0), (.int 0), (.int 0), (.int 0), (.int 0), (.int 0), (.int 0), (.str ⟨#[]⟩)]))) := V_is rfl (by kernel_rfl)
theorem e_f_ref26_acknowledged_1 (x0 x1 x2 x3 x4 x5 x6 x7 x8 x9 x10 x11 x12 x13 x14 x15 : IV) : W f_ref26_acknowledged 1 [x0, x1, x2, x3, x4, x5, x6, x7, x8, x9, x10, x11, x12, x13, x14, x15] =
  (O.proj 10 x1).bind fun x16 =>
  (O.proj 1 x2).bind fun x17 =>
  (O.index x16 x17).bind fun x18 =>
  (O.add .i64 x18 (.int 1)).bind fun x19 =>
  (O.lt x0 x19).bind fun x20 =>
  cnd x20 (
    (O.add .i64 x18 (.int 1)).bind fun x21 =>
    W f_ref26_acknowledged 3 [x21, x1, x2, x3, x4, x5, x6, x7, x8, x9, x10, x11, x12, x13, x14, x15]) (
    W f_ref26_acknowledged 3 [x0, x1, x2, x3, x4, x5, x6, x7, x8, x9, x10, x11, x12, x13, x14, x15]) := V_is rfl (by kernel_rfl)
theorem e_f_ref26_acknowledged_2 (x0 x1 x2 x3 x4 x5 x6 x7 x8 x9 x10 x11 x12 x13 x14 x15 x16 : IV) : W f_ref26_acknowledged 2 [x0, x1, x2, x3, x4, x5, x6, x7, x8, x9, x10, x11, x12, x13, x14, x15, x16] =
  (O.proj 10 x2).bind fun x17 =>
  (O.proj 1 x3).bind fun x18 =>
  (O.index x17 x18).bind fun x19 =>
  (O.le x1 x19).bind fun x20 =>
  cnd x20 (
    some [x2, (.list [])]) (
    calls (W f_ref26_set 0 [x17, x18, x1]) 1 fun x21 =>
    (O.proj 0 x2).bind fun x22 =>
    (O.proj 1 x2).bind fun x23 =>
    (O.proj 2 x2).bind fun x24 =>
    (O.proj 3 x2).bind fun x25 =>
    (O.proj 4 x2).bind fun x26 =>
    (O.proj 5 x2).bind fun x27 =>
    (O.proj 6 x2).bind fun x28 =>
    (O.proj 7 x2).bind fun x29 =>
    (O.proj 8 x2).bind fun x30 =>
    (O.proj 9 x2).bind fun x31 =>
    (O.proj 11 x2).bind fun x32 =>
    (O.proj 12 x2).bind fun x33 =>
    (O.proj 13 x2).bind fun x34 =>
    (O.proj 14 x2).bind fun x35 =>
    (O.proj 15 x2).bind fun x36 =>
    (O.proj 16 x2).bind fun x37 =>
    (O.add .i64 x1 (.int 1)).bind fun x38 =>
    calls (W f_ref26_set 0 [x31, x18, x38]) 1 fun x39 =>
    (O.mkagg [x22, x23, x24, x25, x26, x27, x28, x29, x30, x39, x21, x32, x33, x34, x35, x36, x37]).bind fun x40 =>
    calls (W f_ref26_advance 0 [x40]) 1 fun x41 =>
    (O.lt x1 x0).bind fun x42 =>
    cnd x42 (
      calls (W f_ref26_appendTo 0 [x41, x18]) 1 fun x43 =>
      (O.mklist [x43]).bind fun x44 =>
      some [x41, x44]) (
      some [x41, (.list [])])) := V_is rfl (by kernel_rfl)
theorem e_f_ref26_acknowledged_3 (x0 x1 x2 x3 x4 x5 x6 x7 x8 x9 x10 x11 x12 x13 x14 x15 : IV) : W f_ref26_acknowledged 3 [x0, x1, x2, x3, x4, x5, x6, x7, x8, x9, x10, x11, x12, x13, x14, x15] =
  (O.proj 9 x1).bind fun x16 =>
  (O.proj 1 x2).bind fun x17 =>
  (O.index x16 x17).bind fun x18 =>
  (O.ge x0 x18).bind fun x19 =>
  cnd x19 (
    some [x1, (.list [])]) (
    calls (W f_ref26_set 0 [x16, x17, x0]) 1 fun x20 =>
    (O.proj 0 x1).bind fun x21 =>
    (O.proj 1 x1).bind fun x22 =>
    (O.proj 2 x1).bind fun x23 =>
    (O.proj 3 x1).bind fun x24 =>
    (O.proj 4 x1).bind fun x25 =>
    (O.proj 5 x1).bind fun x26 =>
    (O.proj 6 x1).bind fun x27 =>
    (O.proj 7 x1).bind fun x28 =>
    (O.proj 8 x1).bind fun x29 =>
    (O.proj 10 x1).bind fun x30 =>
    (O.proj 11 x1).bind fun x31 =>
    (O.proj 12 x1).bind fun x32 =>
    (O.proj 13 x1).bind fun x33 =>
    (O.proj 14 x1).bind fun x34 =>
    (O.proj 15 x1).bind fun x35 =>
    (O.proj 16 x1).bind fun x36 =>
    (O.mkagg [x21, x22, x23, x24, x25, x26, x27, x28, x29, x20, x30, x31, x32, x33, x34, x35, x36]).bind fun x37 =>
    calls (W f_ref26_appendTo 0 [x37, x17]) 1 fun x38 =>
    (O.mklist [x38]).bind fun x39 =>
    some [x37, x39]) := V_is rfl (by kernel_rfl)
theorem e_f_ref26_installed_0 (x0 x1 : IV) : W f_ref26_installed 0 [x0, x1] =
  (O.proj 2 x0).bind fun x2 =>
  (O.eq x2 (.int 2)).bind fun x3 =>
  cnd x3 (
    some [x0, (.list [])]) (
    (O.proj 1 x1).bind fun x4 =>
    calls (W f_ref26_follow 0 [x0, x4]) 17 fun x5 x6 x7 x8 x9 x10 x11 x12 x13 x14 x15 x16 x17 x18 x19 x20 x21 =>
    (O.proj 4 x1).bind fun x22 =>
    (O.le x22 x16).bind fun x23 =>
    cnd x23 (
      (O.mkagg [x5, x6, x7, x8, x9, x10, x11, x12, x13, x14, x15, x16, x17, x18, x19, x20, x21]).bind fun x24 =>
      calls (W f_ref26_reply 0 [x24, (.int 4), x4, (.bool true), x16]) 1 fun x25 =>
      some [x24, x25]) (
      (O.mkagg [x18, x19, x20]).bind fun x24 =>
      calls (W f_ref25_TermAt 0 [x24, x22]) 2 fun x25 x26 =>
      (cnd x26 (
          (O.proj 5 x1).bind fun x27 =>
          (O.eq x25 x27).bind fun x28 =>
          some x28) (some (.bool false))).bind fun x27 =>
      cnd x27 (
        calls (W f_ref25_Compact 0 [x24, x22]) 2 fun x28 x29 =>
        (O.proj 0 x28).bind fun x30 =>
        (O.proj 1 x28).bind fun x31 =>
        (O.proj 2 x28).bind fun x32 =>
        W f_ref26_installed 1 [x5, x6, x7, x8, x9, x10, x11, x12, x14, x15, x16, x17, x30, x31, x32, x21, x1, (.int 0), (.int 0), (.int 0), (.int 0), (.int 0), (.int 0), (.int 0), (.int 0), (.int 0), (.int 0), (.int 0), (.int 0), (.str ⟨#[]⟩), x13]) (
        (O.proj 5 x1).bind fun x28 =>
        W f_ref26_installed 1 [x5, x6, x7, x8, x9, x10, x11, x12, x14, x15, x16, x17, x22, x28, (.list []), x21, x1, (.int 0), (.int 0), (.int 0), (.int 0), (.int 0), (.int 0), (.int 0), (.int 0), (.int 0), (.int 0), (.int 0), (.int 0), (.str ⟨#[]⟩), x13]))) := V_is rfl (by kernel_rfl)
theorem e_f_ref26_installed_1 (x0 x1 x2 x3 x4 x5 x6 x7 x8 x9 x10 x11 x12 x13 x14 x15 x16 x17 x18 x19 x20 x21 x22 x23 x24 x25 x26 x27 x28 x29 x30 : IV) : W f_ref26_installed 1 [x0, x1, x2, x3, x4, x5, x6, x7, x8, x9, x10, x11, x12, x13, x14, x15, x16, x17, x18, x19, x20, x21, x22, x23, x24, x25, x26, x27, x28, x29, x30] =
  (O.proj 9 x16).bind fun x31 =>
  (O.proj 4 x16).bind fun x32 =>
  (O.proj 1 x16).bind fun x33 =>
  (O.mkagg [x0, x1, x2, x3, x4, x5, x6, x7, x30, x8, x9, x32, x32, x12, x13, x14, x31]).bind fun x34 =>
  calls (W f_ref26_reply 0 [x34, (.int 4), x33, (.bool true), x32]) 1 fun x35 =>
  some [x34, x35] := V_is rfl (by kernel_rfl)
theorem e_f_ref25_Compact_0 (x0 x1 : IV) : W f_ref25_Compact 0 [x0, x1] =
  calls (W f_ref25_TermAt 0 [x0, x1]) 2 fun x2 x3 =>
  (O.not x3).bind fun x4 =>
  cnd x4 (
    some [x0, (.int 5)]) (
    (O.proj 2 x0).bind fun x5 =>
    (O.proj 0 x0).bind fun x6 =>
    (O.sub .i64 x1 x6).bind fun x7 =>
    (O.sliceLo x5 x7).bind fun x8 =>
    (O.mkagg [x1, x2, x8]).bind fun x9 =>
    some [x9, (.int 0)]) := V_is rfl (by kernel_rfl)
theorem e_f_ref26_Propose_0 (x0 x1 : IV) : W f_ref26_Propose 0 [x0, x1] =
  (O.proj 2 x0).bind fun x2 =>
  (O.ne x2 (.int 2)).bind fun x3 =>
  cnd x3 (
    some [x0, (.list []), (.int 17)]) (
    (O.slen x1).bind fun x4 =>
    (O.gt x4 (.int 20000)).bind fun x5 =>
    cnd x5 (
      some [x0, (.list []), (.int 4)]) (
      (O.proj 15 x0).bind fun x6 =>
      (O.len x6).bind fun x7 =>
      (O.ge x7 (.int 400)).bind fun x8 =>
      cnd x8 (
        some [x0, (.list []), (.int 15)]) (
        calls (W f_ref26_write 0 [x0, x1]) 1 fun x9 =>
        calls (W f_ref26_all 0 [x9]) 1 fun x10 =>
        some [x9, x10, (.int 0)]))) := V_is rfl (by kernel_rfl)
theorem e_f_ref26_Compact_0 (x0 x1 x2 : IV) : W f_ref26_Compact 0 [x0, x1, x2] =
  (O.proj 13 x0).bind fun x3 =>
  (O.lt x1 x3).bind fun x4 =>
  (cnd x4 (some (.bool true)) (
      (O.proj 12 x0).bind fun x5 =>
      (O.gt x1 x5).bind fun x6 =>
      some x6)).bind fun x5 =>
  (cnd x5 (some (.bool true)) (
      (O.gt x1 (.int 1000000000000000)).bind fun x6 =>
      some x6)).bind fun x6 =>
  cnd x6 (
    some [x0, (.int 5)]) (
    (O.projs 13 3 x0).bind fun x7 =>
    calls (W f_ref25_Compact 0 [x7, x1]) 2 fun x8 x9 =>
    (O.proj 0 x0).bind fun x10 =>
    (O.proj 1 x0).bind fun x11 =>
    (O.proj 2 x0).bind fun x12 =>
    (O.proj 3 x0).bind fun x13 =>
    (O.proj 4 x0).bind fun x14 =>
    (O.proj 5 x0).bind fun x15 =>
    (O.proj 6 x0).bind fun x16 =>
    (O.proj 7 x0).bind fun x17 =>
    (O.proj 8 x0).bind fun x18 =>
    (O.proj 9 x0).bind fun x19 =>
    (O.proj 10 x0).bind fun x20 =>
    (O.proj 11 x0).bind fun x21 =>
    (O.proj 12 x0).bind fun x22 =>
    (O.proj 14 x0).bind fun x23 =>
    (O.proj 15 x0).bind fun x24 =>
    (O.proj 16 x0).bind fun x25 =>
    (O.proj 0 x8).bind fun x26 =>
    (O.proj 1 x8).bind fun x27 =>
    (O.proj 2 x8).bind fun x28 =>
    (O.mkagg [x10, x11, x12, x13, x14, x15, x16, x17, x18, x19, x20, x21, x22, x26, x27, x28, x2]).bind fun x29 =>
    some [x29, (.int 0)]) := V_is rfl (by kernel_rfl)
theorem e_f_ref26_Restart_0 (x0 : IV) : W f_ref26_Restart 0 [x0] =
  (O.proj 0 x0).bind fun x1 =>
  (O.proj 1 x0).bind fun x2 =>
  (O.proj 3 x0).bind fun x3 =>
  (O.proj 4 x0).bind fun x4 =>
  (O.proj 7 x0).bind fun x5 =>
  (O.proj 13 x0).bind fun x6 =>
  (O.projs 13 3 x0).bind fun x7 =>
  (O.proj 16 x0).bind fun x8 =>
  (O.proj 0 x7).bind fun x9 =>
  (O.proj 1 x7).bind fun x10 =>
  (O.proj 2 x7).bind fun x11 =>
  some [x1, x2, (.int 0), x3, x4, (.int (-1)), (.int 0), x5, (.list []), (.list []), (.list []), x6, x6, x9, x10, x11, x8] := V_is rfl (by kernel_rfl)
theorem e_f_ref26_SameMessages_0 (x0 x1 : IV) : W f_ref26_SameMessages 0 [x0, x1] =
  (O.len x0).bind fun x2 =>
  (O.len x1).bind fun x3 =>
  (O.ne x2 x3).bind fun x4 =>
  cnd x4 (
    some [(.bool false)]) (
    W f_ref26_SameMessages 1 [x0, x1, (.int 0)]) := V_is rfl (by kernel_rfl)
theorem e_f_ref26_SameMessages_1 (x0 x1 x2 : IV) : W f_ref26_SameMessages 1 [x0, x1, x2] =
  (O.len x0).bind fun x3 =>
  (O.lt x2 x3).bind fun x4 =>
  cnd x4 (
    (O.index x0 x2).bind fun x5 =>
    (O.index x1 x2).bind fun x6 =>
    (O.proj 0 x5).bind fun x7 =>
    (O.proj 0 x6).bind fun x8 =>
    (O.ne x7 x8).bind fun x9 =>
    (cnd x9 (some (.bool true)) (
        (O.proj 1 x5).bind fun x10 =>
        (O.proj 1 x6).bind fun x11 =>
        (O.ne x10 x11).bind fun x12 =>
        some x12)).bind fun x10 =>
    (cnd x10 (some (.bool true)) (
        (O.proj 2 x5).bind fun x11 =>
        (O.proj 2 x6).bind fun x12 =>
        (O.ne x11 x12).bind fun x13 =>
        some x13)).bind fun x11 =>
    (cnd x11 (some (.bool true)) (
        (O.proj 3 x5).bind fun x12 =>
        (O.proj 3 x6).bind fun x13 =>
        (O.ne x12 x13).bind fun x14 =>
        some x14)).bind fun x12 =>
    (cnd x12 (some (.bool true)) (
        (O.proj 4 x5).bind fun x13 =>
        (O.proj 4 x6).bind fun x14 =>
        (O.ne x13 x14).bind fun x15 =>
        some x15)).bind fun x13 =>
    (cnd x13 (some (.bool true)) (
        (O.proj 5 x5).bind fun x14 =>
        (O.proj 5 x6).bind fun x15 =>
        (O.ne x14 x15).bind fun x16 =>
        some x16)).bind fun x14 =>
    (cnd x14 (some (.bool true)) (
        (O.proj 6 x5).bind fun x15 =>
        (O.proj 6 x6).bind fun x16 =>
        (O.ne x15 x16).bind fun x17 =>
        some x17)).bind fun x15 =>
    (cnd x15 (some (.bool true)) (
        (O.proj 7 x5).bind fun x16 =>
        (O.proj 7 x6).bind fun x17 =>
        (O.bNe x16 x17).bind fun x18 =>
        some x18)).bind fun x16 =>
    (cnd x16 (some (.bool true)) (
        (O.proj 8 x5).bind fun x17 =>
        (O.proj 8 x6).bind fun x18 =>
        calls (W f_ref25_Entries 0 [x17, x18]) 1 fun x19 =>
        (O.not x19).bind fun x20 =>
        some x20)).bind fun x17 =>
    (cnd x17 (some (.bool true)) (
        (O.proj 9 x5).bind fun x18 =>
        (O.proj 9 x6).bind fun x19 =>
        (O.sNe x18 x19).bind fun x20 =>
        some x20)).bind fun x18 =>
    cnd x18 (
      some [(.bool false)]) (
      (O.add .i64 x2 (.int 1)).bind fun x19 =>
      W f_ref26_SameMessages 1 [x0, x1, x19])) (
    some [(.bool true)]) := V_is rfl (by kernel_rfl)
theorem e_f_law26_MemberVotes_0 (x0 x1 : IV) : W f_law26_MemberVotes 0 [x0, x1] =
  (O.proj 0 x0).bind fun x2 =>
  (O.proj 1 x0).bind fun x3 =>
  (O.proj 2 x0).bind fun x4 =>
  calls (W f_member_New 0 [x2, x3, x4]) 18 fun x5 x6 x7 x8 x9 x10 x11 x12 x13 x14 x15 x16 x17 x18 x19 x20 x21 x22 =>
  calls (W f_law26_few 0 [x1]) 1 fun x23 =>
  (O.not x23).bind fun x24 =>
  (cnd x24 (some (.bool true)) (
      (O.ne x22 (.int 0)).bind fun x25 =>
      some x25)).bind fun x25 =>
  cnd x25 (
    calls (W f_law26_lives 0 []) 1 fun x26 =>
    some [x26]) (
    (O.len x1).bind fun x26 =>
    W f_law26_MemberVotes 1 [x1, x26, (.int 0), x0, x5, x6, x7, x8, x9, x10, x11, x12, x16, x17, x18, x19, x21, (.list []), x13, x14, x15, x20]) := V_is rfl (by kernel_rfl)
theorem e_f_law26_MemberVotes_1 (x0 x1 x2 x3 x4 x5 x6 x7 x8 x9 x10 x11 x12 x13 x14 x15 x16 x17 x18 x19 x20 x21 : IV) : W f_law26_MemberVotes 1 [x0, x1, x2, x3, x4, x5, x6, x7, x8, x9, x10, x11, x12, x13, x14, x15, x16, x17, x18, x19, x20, x21] =
  (O.lt x2 x1).bind fun x22 =>
  cnd x22 (
    (O.index x0 x2).bind fun x23 =>
    (O.mkagg [x4, x5, x6, x7, x8, x9, x10, x11, x18, x19, x20, x12, x13, x14, x15, x21, x16]).bind fun x24 =>
    calls (W f_law26_do 0 [x24, x23]) 19 fun x25 x26 x27 x28 x29 x30 x31 x32 x33 x34 x35 x36 x37 x38 x39 x40 x41 x42 x43 =>
    (O.lt x28 x7).bind fun x44 =>
    cnd x44 (
      some [(.bool false)]) (
      (O.eq x27 (.int 1)).bind fun x45 =>
      (cnd x45 (
          (O.ne x6 (.int 1)).bind fun x46 =>
          some x46) (some (.bool false))).bind fun x46 =>
      (cnd x46 (some (.bool true)) (
          (O.eq x27 (.int 2)).bind fun x47 =>
          (cnd x47 (
              (O.eq x6 (.int 0)).bind fun x48 =>
              some x48) (some (.bool false))).bind fun x48 =>
          some x48)).bind fun x47 =>
      (cnd x47 (some (.bool true)) (
          (O.eq x27 (.int 1)).bind fun x48 =>
          (cnd x48 (
              (O.gt x28 x7).bind fun x49 =>
              some x49) (some (.bool false))).bind fun x49 =>
          some x49)).bind fun x48 =>
      cnd x48 (
        (O.proj 0 x3).bind fun x49 =>
        (O.mkagg [x28, x49]).bind fun x50 =>
        (O.mklist [x50]).bind fun x51 =>
        (O.append 16 x17 x51).bind fun x52 =>
        W f_law26_MemberVotes 2 [x0, x1, x2, x3, x4, x5, x6, x7, x8, x9, x10, x11, x18, x19, x20, x12, x13, x14, x15, x21, x16, x52, x25, x26, x27, x28, x29, x30, x31, x32, x36, x37, x38, x39, x41, x42, x33, x34, x35, x40]) (
        W f_law26_MemberVotes 2 [x0, x1, x2, x3, x4, x5, x6, x7, x8, x9, x10, x11, x18, x19, x20, x12, x13, x14, x15, x21, x16, x17, x25, x26, x27, x28, x29, x30, x31, x32, x36, x37, x38, x39, x41, x42, x33, x34, x35, x40]))) (
    (O.len x17).bind fun x23 =>
    W f_law26_MemberVotes 3 [x17, x17, x23, (.int 0)]) := V_is rfl (by kernel_rfl)
theorem e_f_law26_MemberVotes_2 (x0 x1 x2 x3 x4 x5 x6 x7 x8 x9 x10 x11 x12 x13 x14 x15 x16 x17 x18 x19 x20 x21 x22 x23 x24 x25 x26 x27 x28 x29 x30 x31 x32 x33 x34 x35 x36 x37 x38 x39 : IV) : W f_law26_MemberVotes 2 [x0, x1, x2, x3, x4, x5, x6, x7, x8, x9, x10, x11, x12, x13, x14, x15, x16, x17, x18, x19, x20, x21, x22, x23, x24, x25, x26, x27, x28, x29, x30, x31, x32, x33, x34, x35, x36, x37, x38, x39] =
  (O.len x35).bind fun x40 =>
  W f_law26_MemberVotes 4 [x0, x1, x2, x40, (.int 0), x3, x4, x5, x6, x7, x8, x9, x10, x11, x12, x13, x14, x15, x16, x17, x18, x19, x20, x21, x22, x23, x24, x25, x26, x27, x28, x29, x30, x31, x32, x33, x34, x35, x36, x37, x38, x39] := V_is rfl (by kernel_rfl)
theorem e_f_law26_MemberVotes_3 (x0 x1 x2 x3 : IV) : W f_law26_MemberVotes 3 [x0, x1, x2, x3] =
  (O.lt x3 x2).bind fun x4 =>
  cnd x4 (
    (O.index x1 x3).bind fun x5 =>
    (O.slice x0 (.int 0) x3).bind fun x6 =>
    (O.len x6).bind fun x7 =>
    W f_law26_MemberVotes 5 [x0, x1, x2, x3, x6, x7, (.int 0), x5]) (
    calls (W f_law26_lives 0 []) 1 fun x5 =>
    some [x5]) := V_is rfl (by kernel_rfl)
theorem e_f_law26_MemberVotes_4 (x0 x1 x2 x3 x4 x5 x6 x7 x8 x9 x10 x11 x12 x13 x14 x15 x16 x17 x18 x19 x20 x21 x22 x23 x24 x25 x26 x27 x28 x29 x30 x31 x32 x33 x34 x35 x36 x37 x38 x39 x40 x41 : IV) : W f_law26_MemberVotes 4 [x0, x1, x2, x3, x4, x5, x6, x7, x8, x9, x10, x11, x12, x13, x14, x15, x16, x17, x18, x19, x20, x21, x22, x23, x24, x25, x26, x27, x28, x29, x30, x31, x32, x33, x34, x35, x36, x37, x38, x39, x40, x41] =
  (O.lt x4 x3).bind fun x42 =>
  cnd x42 (
    (O.index x37 x4).bind fun x43 =>
    (O.proj 0 x43).bind fun x44 =>
    (O.eq x44 (.int 2)).bind fun x45 =>
    (cnd x45 (
        (O.proj 7 x43).bind fun x46 =>
        some x46) (some (.bool false))).bind fun x46 =>
    cnd x46 (
      (O.proj 3 x43).bind fun x47 =>
      (O.proj 2 x43).bind fun x48 =>
      (O.mkagg [x47, x48]).bind fun x49 =>
      (O.mklist [x49]).bind fun x50 =>
      (O.append 16 x23 x50).bind fun x51 =>
      W f_law26_MemberVotes 6 [x0, x1, x2, x3, x4, x5, x6, x7, x8, x9, x10, x11, x12, x13, x14, x15, x16, x17, x18, x19, x20, x21, x22, x51, x24, x25, x26, x27, x28, x29, x30, x31, x32, x33, x34, x35, x36, x37, x38, x39, x40, x41]) (
      W f_law26_MemberVotes 6 [x0, x1, x2, x3, x4, x5, x6, x7, x8, x9, x10, x11, x12, x13, x14, x15, x16, x17, x18, x19, x20, x21, x22, x23, x24, x25, x26, x27, x28, x29, x30, x31, x32, x33, x34, x35, x36, x37, x38, x39, x40, x41])) (
    (O.add .i64 x2 (.int 1)).bind fun x43 =>
    W f_law26_MemberVotes 1 [x0, x1, x43, x5, x24, x25, x26, x27, x28, x29, x30, x31, x32, x33, x34, x35, x36, x23, x38, x39, x40, x41]) := V_is rfl (by kernel_rfl)
theorem e_f_law26_MemberVotes_5 (x0 x1 x2 x3 x4 x5 x6 x7 : IV) : W f_law26_MemberVotes 5 [x0, x1, x2, x3, x4, x5, x6, x7] =
  (O.lt x6 x5).bind fun x8 =>
  cnd x8 (
    (O.index x4 x6).bind fun x9 =>
    (O.proj 0 x7).bind fun x10 =>
    (O.proj 0 x9).bind fun x11 =>
    (O.eq x10 x11).bind fun x12 =>
    (cnd x12 (
        (O.proj 1 x7).bind fun x13 =>
        (O.proj 1 x9).bind fun x14 =>
        (O.ne x13 x14).bind fun x15 =>
        some x15) (some (.bool false))).bind fun x13 =>
    cnd x13 (
      some [(.bool false)]) (
      (O.add .i64 x6 (.int 1)).bind fun x14 =>
      W f_law26_MemberVotes 5 [x0, x1, x2, x3, x4, x5, x14, x7])) (
    (O.add .i64 x3 (.int 1)).bind fun x9 =>
    W f_law26_MemberVotes 3 [x0, x1, x2, x9]) := V_is rfl (by kernel_rfl)
theorem e_f_law26_MemberVotes_6 (x0 x1 x2 x3 x4 x5 x6 x7 x8 x9 x10 x11 x12 x13 x14 x15 x16 x17 x18 x19 x20 x21 x22 x23 x24 x25 x26 x27 x28 x29 x30 x31 x32 x33 x34 x35 x36 x37 x38 x39 x40 x41 : IV) : W f_law26_MemberVotes 6 [x0, x1, x2, x3, x4, x5, x6, x7, x8, x9, x10, x11, x12, x13, x14, x15, x16, x17, x18, x19, x20, x21, x22, x23, x24, x25, x26, x27, x28, x29, x30, x31, x32, x33, x34, x35, x36, x37, x38, x39, x40, x41] =
  (O.add .i64 x4 (.int 1)).bind fun x42 =>
  W f_law26_MemberVotes 4 [x0, x1, x2, x3, x42, x5, x6, x7, x8, x9, x10, x11, x12, x13, x14, x15, x16, x17, x18, x19, x20, x21, x22, x23, x24, x25, x26, x27, x28, x29, x30, x31, x32, x33, x34, x35, x36, x37, x38, x39, x40, x41] := V_is rfl (by kernel_rfl)
theorem e_f_law26_MemberKeeps_0 (x0 x1 : IV) : W f_law26_MemberKeeps 0 [x0, x1] =
  (O.proj 0 x0).bind fun x2 =>
  (O.proj 1 x0).bind fun x3 =>
  (O.proj 2 x0).bind fun x4 =>
  calls (W f_member_New 0 [x2, x3, x4]) 18 fun x5 x6 x7 x8 x9 x10 x11 x12 x13 x14 x15 x16 x17 x18 x19 x20 x21 x22 =>
  calls (W f_law26_few 0 [x1]) 1 fun x23 =>
  (O.not x23).bind fun x24 =>
  (cnd x24 (some (.bool true)) (
      (O.ne x22 (.int 0)).bind fun x25 =>
      some x25)).bind fun x25 =>
  cnd x25 (
    calls (W f_law26_lives 0 []) 1 fun x26 =>
    some [x26]) (
    (O.len x1).bind fun x26 =>
    W f_law26_MemberKeeps 1 [x1, x26, (.int 0), x5, x6, x7, x8, x9, x10, x11, x12, x16, x17, x18, x19, x21, x13, x14, x15, x20]) := V_is rfl (by kernel_rfl)
theorem e_f_law26_MemberKeeps_1 (x0 x1 x2 x3 x4 x5 x6 x7 x8 x9 x10 x11 x12 x13 x14 x15 x16 x17 x18 x19 : IV) : W f_law26_MemberKeeps 1 [x0, x1, x2, x3, x4, x5, x6, x7, x8, x9, x10, x11, x12, x13, x14, x15, x16, x17, x18, x19] =
  (O.lt x2 x1).bind fun x20 =>
  cnd x20 (
    (O.index x0 x2).bind fun x21 =>
    (O.mkagg [x3, x4, x5, x6, x7, x8, x9, x10, x16, x17, x18, x11, x12, x13, x14, x19, x15]).bind fun x22 =>
    calls (W f_law26_do 0 [x22, x21]) 19 fun x23 x24 x25 x26 x27 x28 x29 x30 x31 x32 x33 x34 x35 x36 x37 x38 x39 x40 x41 =>
    (O.mkagg [x36, x37, x38]).bind fun x42 =>
    calls (W f_ref25_Last 0 [x42]) 2 fun x43 x44 =>
    (O.gt x36 x35).bind fun x45 =>
    (cnd x45 (some (.bool true)) (
        (O.ne x35 x34).bind fun x46 =>
        some x46)).bind fun x46 =>
    (cnd x46 (some (.bool true)) (
        (O.gt x34 x43).bind fun x47 =>
        some x47)).bind fun x47 =>
    (cnd x47 (some (.bool true)) (
        (O.lt x34 x11).bind fun x48 =>
        (cnd x48 (
            (O.proj 0 x21).bind fun x49 =>
            (O.lt x49 (.int 4)).bind fun x50 =>
            some x50) (some (.bool false))).bind fun x49 =>
        some x49)).bind fun x48 =>
    (cnd x48 (some (.bool true)) (
        calls (W f_ref25_Valid 0 [x42]) 1 fun x49 =>
        (O.not x49).bind fun x50 =>
        some x50)).bind fun x49 =>
    cnd x49 (
      some [(.bool false)]) (
      (O.max x13 x36).bind fun x50 =>
      (O.add .i64 x50 (.int 1)).bind fun x51 =>
      W f_law26_MemberKeeps 2 [x43, x51, x0, x1, x2, x3, x4, x5, x6, x7, x8, x9, x10, x16, x17, x18, x11, x12, x13, x14, x19, x15, x23, x24, x25, x26, x27, x28, x29, x30, x34, x35, x36, x37, x39, x31, x32, x33, x38])) (
    calls (W f_law26_lives 0 []) 1 fun x21 =>
    some [x21]) := V_is rfl (by kernel_rfl)
theorem e_f_law26_MemberKeeps_2 (x0 x1 x2 x3 x4 x5 x6 x7 x8 x9 x10 x11 x12 x13 x14 x15 x16 x17 x18 x19 x20 x21 x22 x23 x24 x25 x26 x27 x28 x29 x30 x31 x32 x33 x34 x35 x36 x37 x38 : IV) : W f_law26_MemberKeeps 2 [x0, x1, x2, x3, x4, x5, x6, x7, x8, x9, x10, x11, x12, x13, x14, x15, x16, x17, x18, x19, x20, x21, x22, x23, x24, x25, x26, x27, x28, x29, x30, x31, x32, x33, x34, x35, x36, x37, x38] =
  (O.le x1 x16).bind fun x39 =>
  cnd x39 (
    (O.gt x1 x0).bind fun x40 =>
    (cnd x40 (some (.bool true)) (
        (O.sub .i64 x1 x18).bind fun x41 =>
        (O.sub .i64 x41 (.int 1)).bind fun x42 =>
        (O.index x20 x42).bind fun x43 =>
        (O.sub .i64 x1 x32).bind fun x44 =>
        (O.sub .i64 x44 (.int 1)).bind fun x45 =>
        (O.index x38 x45).bind fun x46 =>
        (O.aNe x43 x46).bind fun x47 =>
        some x47)).bind fun x41 =>
    cnd x41 (
      some [(.bool false)]) (
      (O.add .i64 x1 (.int 1)).bind fun x42 =>
      W f_law26_MemberKeeps 2 [x0, x42, x2, x3, x4, x5, x6, x7, x8, x9, x10, x11, x12, x13, x14, x15, x16, x17, x18, x19, x20, x21, x22, x23, x24, x25, x26, x27, x28, x29, x30, x31, x32, x33, x34, x35, x36, x37, x38])) (
    (O.add .i64 x4 (.int 1)).bind fun x40 =>
    W f_law26_MemberKeeps 1 [x2, x3, x40, x22, x23, x24, x25, x26, x27, x28, x29, x30, x31, x32, x33, x34, x35, x36, x37, x38]) := V_is rfl (by kernel_rfl)
theorem e_f_ref25_Valid_0 (x0 : IV) : W f_ref25_Valid 0 [x0] =
  (O.proj 0 x0).bind fun x1 =>
  (O.lt x1 (.int 0)).bind fun x2 =>
  (cnd x2 (some (.bool true)) (
      (O.gt x1 (.int 1000000000000000)).bind fun x3 =>
      some x3)).bind fun x3 =>
  (cnd x3 (some (.bool true)) (
      (O.proj 1 x0).bind fun x4 =>
      (O.lt x4 (.int 0)).bind fun x5 =>
      some x5)).bind fun x4 =>
  (cnd x4 (some (.bool true)) (
      (O.proj 1 x0).bind fun x5 =>
      (O.gt x5 (.int 1000000000000000)).bind fun x6 =>
      some x6)).bind fun x5 =>
  (cnd x5 (some (.bool true)) (
      (O.eq x1 (.int 0)).bind fun x6 =>
      (O.proj 1 x0).bind fun x7 =>
      (O.eq x7 (.int 0)).bind fun x8 =>
      (O.bNe x6 x8).bind fun x9 =>
      some x9)).bind fun x6 =>
  (cnd x6 (some (.bool true)) (
      (O.proj 2 x0).bind fun x7 =>
      (O.len x7).bind fun x8 =>
      (O.gt x8 (.int 400)).bind fun x9 =>
      some x9)).bind fun x7 =>
  cnd x7 (
    some [(.bool false)]) (
    (O.proj 2 x0).bind fun x8 =>
    (O.proj 1 x0).bind fun x9 =>
    (O.max (.int 1) x9).bind fun x10 =>
    calls (W f_ref25_rises 0 [x8, x10]) 1 fun x11 =>
    some [x11]) := V_is rfl (by kernel_rfl)
theorem e_f_law26_MemberLeads_0 (x0 x1 : IV) : W f_law26_MemberLeads 0 [x0, x1] =
  (O.proj 0 x0).bind fun x2 =>
  (O.proj 1 x0).bind fun x3 =>
  (O.proj 2 x0).bind fun x4 =>
  calls (W f_member_New 0 [x2, x3, x4]) 18 fun x5 x6 x7 x8 x9 x10 x11 x12 x13 x14 x15 x16 x17 x18 x19 x20 x21 x22 =>
  calls (W f_law26_few 0 [x1]) 1 fun x23 =>
  (O.not x23).bind fun x24 =>
  (cnd x24 (some (.bool true)) (
      (O.ne x22 (.int 0)).bind fun x25 =>
      some x25)).bind fun x25 =>
  cnd x25 (
    calls (W f_law26_lives 0 []) 1 fun x26 =>
    some [x26]) (
    (O.len x1).bind fun x26 =>
    W f_law26_MemberLeads 1 [x1, x26, (.int 0), x5, x6, x7, x8, x9, x10, x11, x12, x16, x17, x18, x19, x21, x13, x14, x15, x20]) := V_is rfl (by kernel_rfl)
theorem e_f_law26_MemberLeads_1 (x0 x1 x2 x3 x4 x5 x6 x7 x8 x9 x10 x11 x12 x13 x14 x15 x16 x17 x18 x19 : IV) : W f_law26_MemberLeads 1 [x0, x1, x2, x3, x4, x5, x6, x7, x8, x9, x10, x11, x12, x13, x14, x15, x16, x17, x18, x19] =
  (O.lt x2 x1).bind fun x20 =>
  cnd x20 (
    (O.index x0 x2).bind fun x21 =>
    (O.mkagg [x3, x4, x5, x6, x7, x8, x9, x10, x16, x17, x18, x11, x12, x13, x14, x19, x15]).bind fun x22 =>
    calls (W f_law26_do 0 [x22, x21]) 19 fun x23 x24 x25 x26 x27 x28 x29 x30 x31 x32 x33 x34 x35 x36 x37 x38 x39 x40 x41 =>
    (O.eq x5 (.int 2)).bind fun x42 =>
    (cnd x42 (
        (O.eq x25 (.int 2)).bind fun x43 =>
        some x43) (some (.bool false))).bind fun x43 =>
    cnd x43 (
      (O.mkagg [x13, x14, x19]).bind fun x44 =>
      calls (W f_ref25_Last 0 [x44]) 2 fun x45 x46 =>
      (O.mkagg [x36, x37, x38]).bind fun x47 =>
      calls (W f_ref25_Last 0 [x47]) 2 fun x48 x49 =>
      (O.ne x26 x6).bind fun x50 =>
      (cnd x50 (some (.bool true)) (
          (O.lt x48 x45).bind fun x51 =>
          some x51)).bind fun x51 =>
      cnd x51 (
        some [(.bool false)]) (
        (O.max x13 x36).bind fun x52 =>
        (O.add .i64 x52 (.int 1)).bind fun x53 =>
        W f_law26_MemberLeads 2 [x45, x53, x0, x1, x2, x3, x4, x5, x6, x7, x8, x9, x10, x16, x17, x18, x11, x12, x13, x14, x19, x15, x23, x24, x25, x26, x27, x28, x29, x30, x34, x35, x36, x37, x39, x31, x32, x33, x38])) (
      W f_law26_MemberLeads 3 [x0, x1, x2, x3, x4, x5, x6, x7, x8, x9, x10, x16, x17, x18, x11, x12, x13, x14, x19, x15, x23, x24, x25, x26, x27, x28, x29, x30, x34, x35, x36, x37, x39, x31, x32, x33, x38])) (
    calls (W f_law26_lives 0 []) 1 fun x21 =>
    some [x21]) := V_is rfl (by kernel_rfl)
theorem e_f_law26_MemberLeads_2 (x0 x1 x2 x3 x4 x5 x6 x7 x8 x9 x10 x11 x12 x13 x14 x15 x16 x17 x18 x19 x20 x21 x22 x23 x24 x25 x26 x27 x28 x29 x30 x31 x32 x33 x34 x35 x36 x37 x38 : IV) : W f_law26_MemberLeads 2 [x0, x1, x2, x3, x4, x5, x6, x7, x8, x9, x10, x11, x12, x13, x14, x15, x16, x17, x18, x19, x20, x21, x22, x23, x24, x25, x26, x27, x28, x29, x30, x31, x32, x33, x34, x35, x36, x37, x38] =
  (O.le x1 x0).bind fun x39 =>
  cnd x39 (
    (O.sub .i64 x1 x18).bind fun x40 =>
    (O.sub .i64 x40 (.int 1)).bind fun x41 =>
    (O.index x20 x41).bind fun x42 =>
    (O.sub .i64 x1 x32).bind fun x43 =>
    (O.sub .i64 x43 (.int 1)).bind fun x44 =>
    (O.index x38 x44).bind fun x45 =>
    (O.aNe x42 x45).bind fun x46 =>
    cnd x46 (
      some [(.bool false)]) (
      (O.add .i64 x1 (.int 1)).bind fun x47 =>
      W f_law26_MemberLeads 2 [x0, x47, x2, x3, x4, x5, x6, x7, x8, x9, x10, x11, x12, x13, x14, x15, x16, x17, x18, x19, x20, x21, x22, x23, x24, x25, x26, x27, x28, x29, x30, x31, x32, x33, x34, x35, x36, x37, x38])) (
    W f_law26_MemberLeads 3 [x2, x3, x4, x5, x6, x7, x8, x9, x10, x11, x12, x13, x14, x15, x16, x17, x18, x19, x20, x21, x22, x23, x24, x25, x26, x27, x28, x29, x30, x31, x32, x33, x34, x35, x36, x37, x38]) := V_is rfl (by kernel_rfl)
theorem e_f_law26_MemberLeads_3 (x0 x1 x2 x3 x4 x5 x6 x7 x8 x9 x10 x11 x12 x13 x14 x15 x16 x17 x18 x19 x20 x21 x22 x23 x24 x25 x26 x27 x28 x29 x30 x31 x32 x33 x34 x35 x36 : IV) : W f_law26_MemberLeads 3 [x0, x1, x2, x3, x4, x5, x6, x7, x8, x9, x10, x11, x12, x13, x14, x15, x16, x17, x18, x19, x20, x21, x22, x23, x24, x25, x26, x27, x28, x29, x30, x31, x32, x33, x34, x35, x36] =
  (O.eq x22 (.int 2)).bind fun x37 =>
  (cnd x37 (
      (O.gt x28 x14).bind fun x38 =>
      some x38) (some (.bool false))).bind fun x38 =>
  cnd x38 (
    (O.len x35).bind fun x39 =>
    W f_law26_MemberLeads 4 [(.int 0), x0, x1, x2, x39, (.int 0), x3, x4, x5, x6, x7, x8, x9, x10, x11, x12, x13, x14, x15, x16, x17, x18, x19, x20, x21, x22, x23, x24, x25, x26, x27, x28, x29, x30, x31, x32, x35, x33, x34, x36]) (
    W f_law26_MemberLeads 5 [x0, x1, x2, x3, x4, x5, x6, x7, x8, x9, x10, x11, x12, x13, x14, x15, x16, x17, x18, x19, x20, x21, x22, x23, x24, x25, x26, x27, x28, x29, x30, x31, x32, x33, x34, x35, x36]) := V_is rfl (by kernel_rfl)
theorem e_f_law26_MemberLeads_4 (x0 x1 x2 x3 x4 x5 x6 x7 x8 x9 x10 x11 x12 x13 x14 x15 x16 x17 x18 x19 x20 x21 x22 x23 x24 x25 x26 x27 x28 x29 x30 x31 x32 x33 x34 x35 x36 x37 x38 x39 : IV) : W f_law26_MemberLeads 4 [x0, x1, x2, x3, x4, x5, x6, x7, x8, x9, x10, x11, x12, x13, x14, x15, x16, x17, x18, x19, x20, x21, x22, x23, x24, x25, x26, x27, x28, x29, x30, x31, x32, x33, x34, x35, x36, x37, x38, x39] =
  (O.lt x5 x4).bind fun x40 =>
  cnd x40 (
    (O.index x36 x5).bind fun x41 =>
    (O.ge x41 x31).bind fun x42 =>
    cnd x42 (
      (O.add .i64 x0 (.int 1)).bind fun x43 =>
      W f_law26_MemberLeads 6 [x43, x1, x2, x3, x4, x5, x6, x7, x8, x9, x10, x11, x12, x13, x14, x15, x16, x17, x18, x19, x20, x21, x22, x23, x24, x25, x26, x27, x28, x29, x30, x31, x32, x33, x34, x35, x36, x37, x38, x39]) (
      W f_law26_MemberLeads 6 [x0, x1, x2, x3, x4, x5, x6, x7, x8, x9, x10, x11, x12, x13, x14, x15, x16, x17, x18, x19, x20, x21, x22, x23, x24, x25, x26, x27, x28, x29, x30, x31, x32, x33, x34, x35, x36, x37, x38, x39])) (
    (O.mkagg [x33, x34, x39]).bind fun x41 =>
    calls (W f_ref25_TermAt 0 [x41, x31]) 2 fun x42 x43 =>
    (O.not x43).bind fun x44 =>
    (cnd x44 (some (.bool true)) (
        (O.ne x42 x26).bind fun x45 =>
        some x45)).bind fun x45 =>
    (cnd x45 (some (.bool true)) (
        (O.mul .i64 (.int 2) x0).bind fun x46 =>
        (O.le x46 x24).bind fun x47 =>
        some x47)).bind fun x46 =>
    cnd x46 (
      some [(.bool false)]) (
      W f_law26_MemberLeads 5 [x1, x2, x3, x6, x7, x8, x9, x10, x11, x12, x13, x14, x15, x16, x17, x18, x19, x20, x21, x22, x23, x24, x25, x26, x27, x28, x29, x30, x31, x32, x33, x34, x35, x37, x38, x36, x39])) := V_is rfl (by kernel_rfl)
theorem e_f_law26_MemberLeads_5 (x0 x1 x2 x3 x4 x5 x6 x7 x8 x9 x10 x11 x12 x13 x14 x15 x16 x17 x18 x19 x20 x21 x22 x23 x24 x25 x26 x27 x28 x29 x30 x31 x32 x33 x34 x35 x36 : IV) : W f_law26_MemberLeads 5 [x0, x1, x2, x3, x4, x5, x6, x7, x8, x9, x10, x11, x12, x13, x14, x15, x16, x17, x18, x19, x20, x21, x22, x23, x24, x25, x26, x27, x28, x29, x30, x31, x32, x33, x34, x35, x36] =
  (O.add .i64 x2 (.int 1)).bind fun x37 =>
  W f_law26_MemberLeads 1 [x0, x1, x37, x20, x21, x22, x23, x24, x25, x26, x27, x28, x29, x30, x31, x32, x33, x34, x35, x36] := V_is rfl (by kernel_rfl)
theorem e_f_law26_MemberLeads_6 (x0 x1 x2 x3 x4 x5 x6 x7 x8 x9 x10 x11 x12 x13 x14 x15 x16 x17 x18 x19 x20 x21 x22 x23 x24 x25 x26 x27 x28 x29 x30 x31 x32 x33 x34 x35 x36 x37 x38 x39 : IV) : W f_law26_MemberLeads 6 [x0, x1, x2, x3, x4, x5, x6, x7, x8, x9, x10, x11, x12, x13, x14, x15, x16, x17, x18, x19, x20, x21, x22, x23, x24, x25, x26, x27, x28, x29, x30, x31, x32, x33, x34, x35, x36, x37, x38, x39] =
  (O.add .i64 x5 (.int 1)).bind fun x40 =>
  W f_law26_MemberLeads 4 [x0, x1, x2, x3, x4, x40, x6, x7, x8, x9, x10, x11, x12, x13, x14, x15, x16, x17, x18, x19, x20, x21, x22, x23, x24, x25, x26, x27, x28, x29, x30, x31, x32, x33, x34, x35, x36, x37, x38, x39] := V_is rfl (by kernel_rfl)
theorem e_f_law26_MemberElects_0 (x0 x1 x2 : IV) : W f_law26_MemberElects 0 [x0, x1, x2] =
  (O.proj 0 x0).bind fun x3 =>
  (O.proj 1 x0).bind fun x4 =>
  calls (W f_member_New 0 [x3, x4, (.int 1)]) 18 fun x5 x6 x7 x8 x9 x10 x11 x12 x13 x14 x15 x16 x17 x18 x19 x20 x21 x22 =>
  (O.ne x22 (.int 0)).bind fun x23 =>
  (cnd x23 (some (.bool true)) (
      (O.len x1).bind fun x24 =>
      (O.gt x24 (.int 20)).bind fun x25 =>
      some x25)).bind fun x24 =>
  (cnd x24 (some (.bool true)) (
      (O.proj 8 x2).bind fun x25 =>
      (O.len x25).bind fun x26 =>
      (O.gt x26 (.int 40)).bind fun x27 =>
      some x27)).bind fun x25 =>
  (cnd x25 (some (.bool true)) (
      (O.proj 9 x2).bind fun x26 =>
      (O.slen x26).bind fun x27 =>
      (O.gt x27 (.int 300)).bind fun x28 =>
      some x28)).bind fun x26 =>
  cnd x26 (
    calls (W f_law26_lives 0 []) 1 fun x27 =>
    some [x27]) (
    (O.mkagg [x5, x6, x7, x8, x9, x10, x11, x12, x13, x14, x15, x16, x17, x18, x19, x20, x21]).bind fun x27 =>
    calls (W f_member_Tick 0 [x27]) 18 fun x28 x29 x30 x31 x32 x33 x34 x35 x36 x37 x38 x39 x40 x41 x42 x43 x44 x45 =>
    W f_law26_MemberElects 1 [x1, (.int 1), (.int 0), x0, x2, x28, x29, x30, x31, x32, x33, x34, x35, x39, x40, x41, x42, x44, x36, x37, x38, x43]) := V_is rfl (by kernel_rfl)
theorem e_f_law26_MemberElects_1 (x0 x1 x2 x3 x4 x5 x6 x7 x8 x9 x10 x11 x12 x13 x14 x15 x16 x17 x18 x19 x20 x21 : IV) : W f_law26_MemberElects 1 [x0, x1, x2, x3, x4, x5, x6, x7, x8, x9, x10, x11, x12, x13, x14, x15, x16, x17, x18, x19, x20, x21] =
  (O.proj 1 x3).bind fun x22 =>
  (O.lt x2 x22).bind fun x23 =>
  (cnd x23 (
      (O.len x0).bind fun x24 =>
      (O.lt x2 x24).bind fun x25 =>
      some x25) (some (.bool false))).bind fun x24 =>
  (cnd x24 (
      (O.eq x7 (.int 1)).bind fun x25 =>
      some x25) (some (.bool false))).bind fun x25 =>
  cnd x25 (
    (O.proj 0 x3).bind fun x26 =>
    (O.eq x2 x26).bind fun x27 =>
    cnd x27 (
      W f_law26_MemberElects 2 [x0, x1, x2, x3, x4, x5, x6, x7, x8, x9, x10, x11, x12, x13, x14, x15, x16, x17, x18, x19, x20, x21]) (
      (O.index x0 x2).bind fun x28 =>
      (O.mkagg [x5, x6, x7, x8, x9, x10, x11, x12, x18, x19, x20, x13, x14, x15, x16, x21, x17]).bind fun x29 =>
      (O.mkagg [(.int 2), x2, x26, (.int 1), (.int 0), (.int 0), (.int 0), x28, (.list []), (.str ⟨#[]⟩)]).bind fun x30 =>
      calls (W f_member_Handle 0 [x29, x30]) 18 fun x31 x32 x33 x34 x35 x36 x37 x38 x39 x40 x41 x42 x43 x44 x45 x46 x47 x48 =>
      cnd x28 (
        (O.add .i64 x1 (.int 1)).bind fun x49 =>
        W f_law26_MemberElects 3 [x0, x49, x2, x3, x4, x31, x32, x33, x34, x35, x36, x37, x38, x42, x43, x44, x45, x47, x39, x40, x41, x46]) (
        W f_law26_MemberElects 3 [x0, x1, x2, x3, x4, x31, x32, x33, x34, x35, x36, x37, x38, x42, x43, x44, x45, x47, x39, x40, x41, x46]))) (
    (O.eq x22 (.int 1)).bind fun x26 =>
    (cnd x26 (
        (O.ne x7 (.int 2)).bind fun x27 =>
        some x27) (some (.bool false))).bind fun x27 =>
    cnd x27 (
      some [(.bool false)]) (
      (O.mkagg [x5, x6, x7, x8, x9, x10, x11, x12, x18, x19, x20, x13, x14, x15, x16, x21, x17]).bind fun x28 =>
      calls (W f_member_Restart 0 [x28]) 17 fun x29 x30 x31 x32 x33 x34 x35 x36 x37 x38 x39 x40 x41 x42 x43 x44 x45 =>
      (O.ne x32 x8).bind fun x46 =>
      (cnd x46 (some (.bool true)) (
          (O.ne x33 x9).bind fun x47 =>
          some x47)).bind fun x47 =>
      (cnd x47 (some (.bool true)) (
          (O.mkagg [x42, x43, x44]).bind fun x48 =>
          (O.mkagg [x15, x16, x21]).bind fun x49 =>
          calls (W f_ref25_Same 0 [x48, x49]) 1 fun x50 =>
          (O.not x50).bind fun x51 =>
          some x51)).bind fun x48 =>
      (cnd x48 (some (.bool true)) (
          (O.sNe x45 x17).bind fun x49 =>
          some x49)).bind fun x49 =>
      (cnd x49 (some (.bool true)) (
          (O.ne x31 (.int 0)).bind fun x50 =>
          some x50)).bind fun x50 =>
      (cnd x50 (some (.bool true)) (
          (O.mkagg [x29, x30, x31, x32, x33, x34, x35, x36, x37, x38, x39, x40, x41, x42, x43, x44, x45]).bind fun x51 =>
          calls (W f_member_Restart 0 [x51]) 17 fun x52 x53 x54 x55 x56 x57 x58 x59 x60 x61 x62 x63 x64 x65 x66 x67 x68 =>
          (O.mkagg [x52, x53, x54, x55, x56, x57, x58, x59, x60, x61, x62, x63, x64, x65, x66, x67, x68]).bind fun x69 =>
          calls (W f_ref26_Same 0 [x69, x51]) 1 fun x70 =>
          (O.not x70).bind fun x71 =>
          some x71)).bind fun x51 =>
      cnd x51 (
        some [(.bool false)]) (
        (O.mklist [(.int 0), (.int 1), (.int 2)]).bind fun x52 =>
        (O.len x52).bind fun x53 =>
        W f_law26_MemberElects 4 [x53, (.int 0), x3, x4, x5, x6, x7, x8, x9, x10, x11, x12, x18, x19, x20, x13, x14, x15, x16, x21, x17, x52]))) := V_is rfl (by kernel_rfl)
theorem e_f_law26_MemberElects_2 (x0 x1 x2 x3 x4 x5 x6 x7 x8 x9 x10 x11 x12 x13 x14 x15 x16 x17 x18 x19 x20 x21 : IV) : W f_law26_MemberElects 2 [x0, x1, x2, x3, x4, x5, x6, x7, x8, x9, x10, x11, x12, x13, x14, x15, x16, x17, x18, x19, x20, x21] =
  (O.add .i64 x2 (.int 1)).bind fun x22 =>
  W f_law26_MemberElects 1 [x0, x1, x22, x3, x4, x5, x6, x7, x8, x9, x10, x11, x12, x13, x14, x15, x16, x17, x18, x19, x20, x21] := V_is rfl (by kernel_rfl)
theorem e_f_law26_MemberElects_3 (x0 x1 x2 x3 x4 x5 x6 x7 x8 x9 x10 x11 x12 x13 x14 x15 x16 x17 x18 x19 x20 x21 : IV) : W f_law26_MemberElects 3 [x0, x1, x2, x3, x4, x5, x6, x7, x8, x9, x10, x11, x12, x13, x14, x15, x16, x17, x18, x19, x20, x21] =
  (O.eq x7 (.int 2)).bind fun x22 =>
  (O.mul .i64 (.int 2) x1).bind fun x23 =>
  (O.proj 1 x3).bind fun x24 =>
  (O.gt x23 x24).bind fun x25 =>
  (O.bNe x22 x25).bind fun x26 =>
  cnd x26 (
    some [(.bool false)]) (
    W f_law26_MemberElects 2 [x0, x1, x2, x3, x4, x5, x6, x7, x8, x9, x10, x11, x12, x13, x14, x15, x16, x17, x18, x19, x20, x21]) := V_is rfl (by kernel_rfl)
theorem e_f_law26_MemberElects_4 (x0 x1 x2 x3 x4 x5 x6 x7 x8 x9 x10 x11 x12 x13 x14 x15 x16 x17 x18 x19 x20 x21 : IV) : W f_law26_MemberElects 4 [x0, x1, x2, x3, x4, x5, x6, x7, x8, x9, x10, x11, x12, x13, x14, x15, x16, x17, x18, x19, x20, x21] =
  (O.lt x1 x0).bind fun x22 =>
  cnd x22 (
    (O.index x21 x1).bind fun x23 =>
    (O.eq x23 (.int 0)).bind fun x24 =>
    cnd x24 (
      (O.proj 0 x2).bind fun x25 =>
      (O.add .i64 x25 (.int 1)).bind fun x26 =>
      (O.proj 0 x3).bind fun x27 =>
      (O.proj 1 x3).bind fun x28 =>
      (O.proj 2 x3).bind fun x29 =>
      (O.proj 3 x3).bind fun x30 =>
      (O.proj 4 x3).bind fun x31 =>
      (O.proj 5 x3).bind fun x32 =>
      (O.proj 6 x3).bind fun x33 =>
      (O.proj 7 x3).bind fun x34 =>
      (O.proj 8 x3).bind fun x35 =>
      (O.proj 9 x3).bind fun x36 =>
      W f_law26_MemberElects 5 [x0, x1, x2, x3, x4, x5, x6, x7, x8, x9, x10, x11, x12, x13, x14, x15, x16, x17, x18, x19, x20, x27, x28, x26, x30, x31, x32, x33, x34, x35, x36, x21]) (
      (O.eq x23 (.int 1)).bind fun x25 =>
      cnd x25 (
        (O.proj 0 x2).bind fun x26 =>
        (O.proj 0 x3).bind fun x27 =>
        (O.proj 1 x3).bind fun x28 =>
        (O.proj 2 x3).bind fun x29 =>
        (O.proj 3 x3).bind fun x30 =>
        (O.proj 4 x3).bind fun x31 =>
        (O.proj 5 x3).bind fun x32 =>
        (O.proj 6 x3).bind fun x33 =>
        (O.proj 7 x3).bind fun x34 =>
        (O.proj 8 x3).bind fun x35 =>
        (O.proj 9 x3).bind fun x36 =>
        W f_law26_MemberElects 5 [x0, x1, x2, x3, x4, x5, x6, x7, x8, x9, x10, x11, x12, x13, x14, x15, x16, x17, x18, x19, x20, x27, x26, x26, x30, x31, x32, x33, x34, x35, x36, x21]) (
        (O.proj 0 x3).bind fun x26 =>
        (O.proj 1 x3).bind fun x27 =>
        (O.proj 2 x3).bind fun x28 =>
        (O.proj 3 x3).bind fun x29 =>
        (O.proj 4 x3).bind fun x30 =>
        (O.proj 5 x3).bind fun x31 =>
        (O.proj 6 x3).bind fun x32 =>
        (O.proj 7 x3).bind fun x33 =>
        (O.proj 8 x3).bind fun x34 =>
        (O.proj 9 x3).bind fun x35 =>
        W f_law26_MemberElects 5 [x0, x1, x2, x3, x4, x5, x6, x7, x8, x9, x10, x11, x12, x13, x14, x15, x16, x17, x18, x19, x20, (.int 6), x27, x28, x29, x30, x31, x32, x33, x34, x35, x21]))) (
    calls (W f_law26_lives 0 []) 1 fun x23 =>
    some [x23]) := V_is rfl (by kernel_rfl)
theorem e_f_law26_MemberElects_5 (x0 x1 x2 x3 x4 x5 x6 x7 x8 x9 x10 x11 x12 x13 x14 x15 x16 x17 x18 x19 x20 x21 x22 x23 x24 x25 x26 x27 x28 x29 x30 x31 : IV) : W f_law26_MemberElects 5 [x0, x1, x2, x3, x4, x5, x6, x7, x8, x9, x10, x11, x12, x13, x14, x15, x16, x17, x18, x19, x20, x21, x22, x23, x24, x25, x26, x27, x28, x29, x30, x31] =
  (O.mkagg [x4, x5, x6, x7, x8, x9, x10, x11, x12, x13, x14, x15, x16, x17, x18, x19, x20]).bind fun x32 =>
  (O.mkagg [x21, x22, x23, x24, x25, x26, x27, x28, x29, x30]).bind fun x33 =>
  calls (W f_member_Handle 0 [x32, x33]) 18 fun x34 x35 x36 x37 x38 x39 x40 x41 x42 x43 x44 x45 x46 x47 x48 x49 x50 x51 =>
  (O.mkagg [x34, x35, x36, x37, x38, x39, x40, x41, x42, x43, x44, x45, x46, x47, x48, x49, x50]).bind fun x52 =>
  calls (W f_ref26_Same 0 [x52, x32]) 1 fun x53 =>
  (O.not x53).bind fun x54 =>
  (cnd x54 (some (.bool true)) (
      (O.len x51).bind fun x55 =>
      (O.ne x55 (.int 0)).bind fun x56 =>
      some x56)).bind fun x55 =>
  cnd x55 (
    some [(.bool false)]) (
    (O.add .i64 x1 (.int 1)).bind fun x56 =>
    W f_law26_MemberElects 4 [x0, x56, x2, x3, x4, x5, x6, x7, x8, x9, x10, x11, x12, x13, x14, x15, x16, x17, x18, x19, x20, x31]) := V_is rfl (by kernel_rfl)
theorem mixed : Try.prog.follows .mixedOrders = true := by kernel_rfl
theorem numbers : numbersOk specs = true := by kernel_rfl
def insRen : Go.Shelf.Ren := ⟨fun x => match x with | 21 => 135 | 27 => 163 | 28 => 164 | 35 => 174 | 39 => 179 | n => n, fun x => match x with | 22 => 66 | 3 => 3 | 4 => 4 | 0 => 0 | n => n, fun x => x⟩
theorem insLays : Lays2.n21 Try.prog insRen where
  mixed := mixed
  f21 := by kernel_rfl
  f27 := by kernel_rfl
  f28 := by kernel_rfl
  f35 := by kernel_rfl
  f39 := by kernel_rfl
  t0 := by kernel_rfl
  a0 := Try.isAgg0
  z0 := Try.sizeOf0
  v0 := Try.zeroValue0
  t3 := by kernel_rfl
  a3 := Try.isAgg3
  z3 := Try.sizeOf3
  v3 := Try.zeroValue3
  t4 := by kernel_rfl
  a4 := Try.isAgg4
  z4 := Try.sizeOf4
  v4 := Try.zeroValue4
  t22 := by kernel_rfl
  a22 := Try.isAgg66
  z22 := Try.sizeOf66
  v22 := Try.zeroValue66
  i3 := by kernel_rfl
theorem pr_ok : ∀ i s f, (i, s) ∈ specs → pr i = some f → PrimOk Try.prog f s := by
  intro i s f hm hp
  have hs := lookS_mem numbers hm
  unfold pr at hp
  split at hp
  · injection hp with hp; subst hp; have he := hs.symm.trans (show lookS 7 specs = some ⟨128, [.data 66], [.cells 66 [true]], false⟩ by kernel_rfl); injection he with he; subst he
    exact clone_ok mixed (e := 3) (fn := fnAt Try.prog 128) (root := rootAt Try.prog 128) (rest := restAt Try.prog 128) ⟨by kernel_rfl, by kernel_rfl, by kernel_rfl, by kernel_rfl, by kernel_rfl, of_decide_eq_true (by kernel_rfl), by kernel_rfl, by kernel_rfl, by kernel_rfl, by kernel_rfl, 8, by kernel_rfl, of_decide_eq_true (by kernel_rfl)⟩
  · injection hp with hp; subst hp; have he := hs.symm.trans (show lookS 8 specs = some ⟨59, [.data 22], [.cells 22 [true]], false⟩ by kernel_rfl); injection he with he; subst he
    exact clone_ok mixed (e := 40) (fn := fnAt Try.prog 59) (root := rootAt Try.prog 59) (rest := restAt Try.prog 59) ⟨by kernel_rfl, by kernel_rfl, by kernel_rfl, by kernel_rfl, by kernel_rfl, of_decide_eq_true (by kernel_rfl), by kernel_rfl, by kernel_rfl, by kernel_rfl, by kernel_rfl, 24, by kernel_rfl, of_decide_eq_true (by kernel_rfl)⟩
  · injection hp with hp; subst hp; have he := hs.symm.trans (show lookS 36 specs = some ⟨135, [.own 66, .data 3, .own 66], [.cells 66 [true]], false⟩ by kernel_rfl); injection he with he; subst he
    exact insert_ok insLays (by kernel_rfl) (by kernel_rfl) (by kernel_rfl) (by kernel_rfl) (by kernel_rfl) (by kernel_rfl)
  · cases hp
theorem soundW : ∀ k, Sound Try.prog specs (run (tab Try.prog specs blks 3000) pr k) := sound_tab mixed numbers (by kernel_rfl) pr_ok
end Go.CT.Memb
