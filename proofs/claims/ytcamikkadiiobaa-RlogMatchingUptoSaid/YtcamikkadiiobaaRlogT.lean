import Derived.Test.YtcamikkadiiobaaCtC
import Derived.Test.YtcamikkadiiobaaRows
namespace Go.CT.Rlog
open Go.Proofs
/-- orchestrator/orchestratorlaw25.RlogAppends [.data 24, .data 3, .data 3, .data 22] → [.whole 4] -/
def f_law25_RlogAppends : Nat := 0
/-- orchestrator/orchestratorref25.Valid [.data 24] → [.whole 4] -/
def f_ref25_Valid : Nat := 1
/-- orchestrator/orchestratorref25.rises [.data 22, .data 3] → [.whole 4] -/
def f_ref25_rises : Nat := 2
/-- orchestrator/orchestratorlaw25.lives [] → [.whole 4] -/
def f_law25_lives : Nat := 3
/-- orchestrator/rlog.New [] → [.cells 24 [false, false, true]] -/
def f_rlog_New : Nat := 4
/-- orchestrator/rlog.Append [.data 24, .data 3, .data 3, .data 22] → [.cells 24 [false, false, true], .whole 3, .whole 4] -/
def f_rlog_Append : Nat := 5
/-- orchestrator/rlog.rises [.data 22, .data 3] → [.whole 4] -/
def f_rlog_rises : Nat := 6
/-- orchestrator/rlog.clone [.data 24] → [.cells 24 [false, false, true]] -/
def f_rlog_clone : Nat := 7
/-- slices.Clone[[]orchestrator/api.Entry,orchestrator/api.Entry] [.data 22] → [.cells 22 [true]] -/
def f_slices_Clone : Nat := 8
/-- orchestrator/rlog.TermAt [.data 24, .data 3] → [.whole 3, .whole 4] -/
def f_rlog_TermAt : Nat := 9
/-- orchestrator/rlog.Last [.data 24] → [.whole 3, .whole 3] -/
def f_rlog_Last : Nat := 10
/-- orchestrator/rlog.hint [.data 24, .data 3, .data 3] → [.whole 3] -/
def f_rlog_hint : Nat := 11
/-- orchestrator/rlog.Compact [.data 24, .data 3] → [.cells 24 [false, false, true], .whole 69] -/
def f_rlog_Compact : Nat := 12
/-- orchestrator/rlog.Valid [.data 24] → [.whole 4] -/
def f_rlog_Valid : Nat := 13
/-- orchestrator/orchestratorref25.Append [.data 24, .data 3, .data 3, .data 22] → [.whole 24, .whole 3, .whole 4] -/
def f_ref25_Append : Nat := 14
/-- orchestrator/orchestratorref25.TermAt [.data 24, .data 3] → [.whole 3, .whole 4] -/
def f_ref25_TermAt : Nat := 15
/-- orchestrator/orchestratorref25.hint [.data 24, .data 3, .data 3] → [.whole 3] -/
def f_ref25_hint : Nat := 16
/-- orchestrator/orchestratorref25.Same [.data 24, .data 24] → [.whole 4] -/
def f_ref25_Same : Nat := 17
/-- orchestrator/orchestratorref25.Entries [.data 22, .data 22] → [.whole 4] -/
def f_ref25_Entries : Nat := 18
/-- orchestrator/orchestratorlaw25.RlogMatching [.data 31] → [.whole 4] -/
def f_law25_RlogMatching : Nat := 19
/-- orchestrator/rlog.From [.data 24, .data 3, .data 3] → [.cells 22 [true], .whole 4] -/
def f_rlog_From : Nat := 20
/-- orchestrator/orchestratorlaw25.matches [.data 24, .data 24] → [.whole 4] -/
def f_law25_matches : Nat := 21
/-- orchestrator/orchestratorlaw25.RlogRepairs [.data 24, .data 24] → [.whole 4] -/
def f_law25_RlogRepairs : Nat := 22
/-- orchestrator/orchestratorlaw25.small [.data 24] → [.whole 4] -/
def f_law25_small : Nat := 23
/-- orchestrator/orchestratorlaw25.RlogReads [.data 24, .data 3, .data 3, .data 3] → [.whole 4] -/
def f_law25_RlogReads : Nat := 24
/-- orchestrator/rlog.Newer [.data 3, .data 3, .data 3, .data 3] → [.whole 4] -/
def f_rlog_Newer : Nat := 25
/-- orchestrator/orchestratorref25.Newer [.data 3, .data 3, .data 3, .data 3] → [.whole 4] -/
def f_ref25_Newer : Nat := 26
/-- orchestrator/orchestratorref25.Last [.data 24] → [.whole 3, .whole 3] -/
def f_ref25_Last : Nat := 27
/-- orchestrator/orchestratorref25.From [.data 24, .data 3, .data 3] → [.whole 22, .whole 4] -/
def f_ref25_From : Nat := 28
def specs : List (Nat × Spec) := [
  (0, ⟨3, [.data 24, .data 3, .data 3, .data 22], [.whole 4], false⟩),
  (1, ⟨15, [.data 24], [.whole 4], false⟩),
  (2, ⟨53, [.data 22, .data 3], [.whole 4], false⟩),
  (3, ⟨16, [], [.whole 4], false⟩),
  (4, ⟨21, [], [.cells 24 [false, false, true]], false⟩),
  (5, ⟨17, [.data 24, .data 3, .data 3, .data 22], [.cells 24 [false, false, true], .whole 3, .whole 4], false⟩),
  (6, ⟨55, [.data 22, .data 3], [.whole 4], false⟩),
  (7, ⟨56, [.data 24], [.cells 24 [false, false, true]], false⟩),
  (8, ⟨59, [.data 22], [.cells 22 [true]], false⟩),
  (9, ⟨23, [.data 24, .data 3], [.whole 3, .whole 4], false⟩),
  (10, ⟨22, [.data 24], [.whole 3, .whole 3], false⟩),
  (11, ⟨57, [.data 24, .data 3, .data 3], [.whole 3], false⟩),
  (12, ⟨54, [.data 24, .data 3], [.cells 24 [false, false, true], .whole 69], false⟩),
  (13, ⟨20, [.data 24], [.whole 4], false⟩),
  (14, ⟨18, [.data 24, .data 3, .data 3, .data 22], [.whole 24, .whole 3, .whole 4], true⟩),
  (15, ⟨30, [.data 24, .data 3], [.whole 3, .whole 4], false⟩),
  (16, ⟨58, [.data 24, .data 3, .data 3], [.whole 3], false⟩),
  (17, ⟨19, [.data 24, .data 24], [.whole 4], false⟩),
  (18, ⟨32, [.data 22, .data 22], [.whole 4], false⟩),
  (19, ⟨4, [.data 31], [.whole 4], false⟩),
  (20, ⟨24, [.data 24, .data 3, .data 3], [.cells 22 [true], .whole 4], false⟩),
  (21, ⟨25, [.data 24, .data 24], [.whole 4], false⟩),
  (22, ⟨5, [.data 24, .data 24], [.whole 4], false⟩),
  (23, ⟨26, [.data 24], [.whole 4], false⟩),
  (24, ⟨6, [.data 24, .data 3, .data 3, .data 3], [.whole 4], false⟩),
  (25, ⟨27, [.data 3, .data 3, .data 3, .data 3], [.whole 4], false⟩),
  (26, ⟨28, [.data 3, .data 3, .data 3, .data 3], [.whole 4], false⟩),
  (27, ⟨29, [.data 24], [.whole 3, .whole 3], false⟩),
  (28, ⟨31, [.data 24, .data 3, .data 3], [.whole 22, .whole 4], true⟩)]
def b2 : List Blk := [
  ⟨[(0, 0, [false, false, true, false, true]), (2, 0, [false, false, true, false, true]), (1, 0, []), (0, 0, [true, true])], ⟨3, 0, [(0, ⟨[], .one (.leaf (.at (.v 0) 22))⟩), (1, ⟨[], .one (.leaf (.at (.v 1) 3))⟩), (5, ⟨[], .one (.leaf (.at (.v 2) 3))⟩)], []⟩⟩]
def b5 : List Blk := [
  ⟨[(0, 0, [true, true, true, true])], ⟨7, 2, [(1, ⟨[], .one (.leaf (.at (.v 0) 3))⟩), (2, ⟨[], .one (.leaf (.at (.v 1) 3))⟩), (3, ⟨[], .one (.leaf (.at (.v 2) 22))⟩), (4, ⟨[], .one (.leaf (.ptr (.p 0 0)))⟩), (8, ⟨[], .one (.leaf (.ptr (.p 1 0)))⟩), (11, ⟨[], .one (.leaf (.at (.v 3) 3))⟩)], [(0, .box 24 (.leaf (.at (.v 4) 24))), (1, .box 24 (.agg 24 [.at (.v 5) 3, .at (.v 6) 3, .nil 22]))]⟩⟩,
  ⟨[(0, 0, [false, false, true, false, true, true, true, true, true, true, true, true]), (2, 0, [false, false, true, false, true, true, true, true, true, true, true, true]), (1, 0, []), (0, 0, [true, true, true, true, true, true, true, true, true])], ⟨12, 4, [(1, ⟨[], .one (.leaf (.at (.v 0) 3))⟩), (3, ⟨[], .one (.leaf (.at (.v 1) 22))⟩), (4, ⟨[], .one (.leaf (.ptr (.p 0 0)))⟩), (8, ⟨[], .one (.leaf (.ptr (.p 1 0)))⟩), (14, ⟨[], .one (.leaf (.ptr (.p 2 0)))⟩), (15, ⟨[], .one (.leaf (.at (.v 2) 3))⟩), (90, ⟨[], .one (.leaf (.at (.v 3) 22))⟩), (91, ⟨[], .one (.leaf (.at (.v 4) 3))⟩), (92, ⟨[], .one (.leaf (.at (.v 5) 3))⟩)], [(0, .box 24 (.leaf (.at (.v 6) 24))), (1, .box 24 (.agg 24 [.at (.v 7) 3, .at (.v 8) 3, .nil 22])), (2, .box 24 (.agg 24 [.at (.v 9) 3, .at (.v 10) 3, .ref 3 22])), (3, .arr 40 22 (.v 11))]⟩⟩,
  ⟨[(0, 0, [true, true, false, false, true, true, false, false, true, false, true, true, true, true, true, true, true, true]), (1, 1, []), (0, 0, [true, true, true, false, false, true, false, true, true, true, true, true, true, true, true]), (2, 0, [false, false, true, false, true, true, true, true, true, true, true, true]), (1, 0, []), (0, 0, [true, true, true, true, true, true, true, true, true])], ⟨13, 5, [(1, ⟨[], .one (.leaf (.at (.v 0) 3))⟩), (3, ⟨[], .one (.leaf (.at (.v 1) 22))⟩), (4, ⟨[], .one (.leaf (.ptr (.p 0 0)))⟩), (8, ⟨[], .one (.leaf (.ptr (.p 1 0)))⟩), (14, ⟨[], .one (.leaf (.ptr (.p 2 0)))⟩), (15, ⟨[], .one (.leaf (.at (.v 2) 3))⟩), (17, ⟨[], .one (.leaf (.ptr (.p 3 0)))⟩), (90, ⟨[], .one (.leaf (.at (.v 3) 22))⟩), (91, ⟨[], .one (.leaf (.at (.v 4) 3))⟩), (92, ⟨[], .one (.leaf (.at (.v 5) 3))⟩)], [(0, .box 24 (.leaf (.at (.v 6) 24))), (1, .box 24 (.agg 24 [.at (.v 7) 3, .at (.v 8) 3, .nil 22])), (2, .box 24 (.agg 24 [.at (.v 9) 3, .at (.v 10) 3, .ref 4 22])), (3, .box 40 (.leaf (.at (.v 11) 40))), (4, .arr 40 22 (.v 12))]⟩⟩,
  ⟨[(0, 0, [true, true, true, false, false, true, true, false, false, true, false, true, true, true, true, true, true, true, true]), (1, 1, []), (0, 0, [true, true, true, false, false, true, false, true, true, true, true, true, true, true, true]), (2, 0, [false, false, true, false, true, true, true, true, true, true, true, true]), (1, 0, []), (0, 0, [true, true, true, true, true, true, true, true, true])], ⟨12, 4, [(1, ⟨[], .one (.leaf (.at (.v 0) 3))⟩), (3, ⟨[], .one (.leaf (.at (.v 1) 22))⟩), (4, ⟨[], .one (.leaf (.ptr (.p 0 0)))⟩), (8, ⟨[], .one (.leaf (.ptr (.p 1 0)))⟩), (14, ⟨[], .one (.leaf (.ptr (.p 2 0)))⟩), (15, ⟨[], .one (.leaf (.at (.v 2) 3))⟩), (90, ⟨[], .one (.leaf (.at (.v 3) 22))⟩), (91, ⟨[], .one (.leaf (.at (.v 4) 3))⟩), (92, ⟨[], .one (.leaf (.at (.v 5) 3))⟩)], [(0, .box 24 (.leaf (.at (.v 6) 24))), (1, .box 24 (.agg 24 [.at (.v 7) 3, .at (.v 8) 3, .nil 22])), (2, .box 24 (.agg 24 [.at (.v 9) 3, .at (.v 10) 3, .ref 3 22])), (3, .arr 40 22 (.v 11))]⟩⟩]
def b6 : List Blk := [
  ⟨[(0, 0, [false, false, true, false, true]), (2, 0, [false, false, true, false, true]), (1, 0, []), (0, 0, [true, true])], ⟨4, 0, [(1, ⟨[], .one (.leaf (.at (.v 0) 3))⟩), (7, ⟨[], .one (.leaf (.at (.v 1) 22))⟩), (8, ⟨[], .one (.leaf (.at (.v 2) 3))⟩), (9, ⟨[], .one (.leaf (.at (.v 3) 3))⟩)], []⟩⟩]
def b11 : List Blk := [
  ⟨[(0, 0, [false, false, true, false, true, true]), (2, 0, [false, false, true, false, true, true]), (1, 0, []), (0, 0, [true, true, true])], ⟨3, 1, [(2, ⟨[], .one (.leaf (.at (.v 0) 3))⟩), (3, ⟨[], .one (.leaf (.ptr (.p 0 0)))⟩), (9, ⟨[], .one (.leaf (.at (.v 1) 3))⟩)], [(0, .box 24 (.leaf (.at (.v 2) 24)))]⟩⟩]
def b14 : List Blk := [
  ⟨[(0, 0, [false, false, true, false, true, true]), (2, 0, [false, false, true, false, true, true]), (1, 0, []), (0, 0, [true, true, true])], ⟨7, 2, [(1, ⟨[], .one (.leaf (.at (.v 0) 3))⟩), (2, ⟨[], .one (.leaf (.at (.v 1) 3))⟩), (3, ⟨[], .one (.leaf (.at (.v 2) 22))⟩), (4, ⟨[], .one (.leaf (.ptr (.p 0 0)))⟩), (8, ⟨[], .one (.leaf (.ptr (.p 1 0)))⟩), (11, ⟨[], .one (.leaf (.at (.v 3) 3))⟩)], [(0, .box 24 (.leaf (.at (.v 4) 24))), (1, .box 24 (.agg 24 [.at (.v 5) 3, .at (.v 6) 3, .nil 22]))]⟩⟩,
  ⟨[(0, 0, [true, true, true, true])], ⟨5, 2, [(1, ⟨[], .one (.leaf (.at (.v 0) 3))⟩), (3, ⟨[], .one (.leaf (.at (.v 1) 22))⟩), (4, ⟨[], .one (.leaf (.ptr (.p 0 0)))⟩), (8, ⟨[], .one (.leaf (.ptr (.p 1 0)))⟩)], [(0, .box 24 (.leaf (.at (.v 2) 24))), (1, .box 24 (.agg 24 [.at (.v 3) 3, .at (.v 4) 3, .nil 22]))]⟩⟩,
  ⟨[(0, 0, [false, false, true, false, true, true, true, true, true, true, true, true]), (2, 0, [false, false, true, false, true, true, true, true, true, true, true, true]), (1, 2, []), (0, 0, [true, true, true, true, true, true, true, true, true])], ⟨9, 3, [(1, ⟨[], .one (.leaf (.at (.v 0) 3))⟩), (3, ⟨[], .one (.leaf (.at (.v 1) 22))⟩), (4, ⟨[], .one (.leaf (.ptr (.p 0 0)))⟩), (8, ⟨[], .one (.leaf (.ptr (.p 1 0)))⟩), (14, ⟨[], .one (.leaf (.at (.v 2) 3))⟩), (15, ⟨[], .one (.leaf (.at (.v 3) 3))⟩), (16, ⟨[], .one (.leaf (.ref 2 22))⟩), (17, ⟨[], .one (.leaf (.at (.v 4) 3))⟩)], [(0, .box 24 (.leaf (.at (.v 5) 24))), (1, .box 24 (.agg 24 [.at (.v 6) 3, .at (.v 7) 3, .nil 22])), (2, .arr 40 22 (.v 8))]⟩⟩,
  ⟨[(0, 0, [true, true, true, true, true, true, true, true, true])], ⟨6, 3, [(1, ⟨[], .one (.leaf (.at (.v 0) 3))⟩), (3, ⟨[], .one (.leaf (.at (.v 1) 22))⟩), (4, ⟨[], .one (.leaf (.ptr (.p 0 0)))⟩), (8, ⟨[], .one (.leaf (.ptr (.p 1 0)))⟩), (16, ⟨[], .one (.leaf (.ref 2 22))⟩)], [(0, .box 24 (.leaf (.at (.v 2) 24))), (1, .box 24 (.agg 24 [.at (.v 3) 3, .at (.v 4) 3, .nil 22])), (2, .arr 40 22 (.v 5))]⟩⟩,
  ⟨[(0, 0, [true, true, true, true, true, true, true, true, true, true])], ⟨6, 3, [(1, ⟨[], .one (.leaf (.at (.v 0) 3))⟩), (3, ⟨[], .one (.leaf (.at (.v 1) 22))⟩), (4, ⟨[], .one (.leaf (.ptr (.p 0 0)))⟩), (8, ⟨[], .one (.leaf (.ptr (.p 1 0)))⟩), (16, ⟨[], .one (.leaf (.ref 2 22))⟩)], [(0, .box 24 (.leaf (.at (.v 2) 24))), (1, .box 24 (.agg 24 [.at (.v 3) 3, .at (.v 4) 3, .nil 22])), (2, .arr 40 22 (.v 5))]⟩⟩,
  ⟨[(0, 0, [true, true, true, true, true, true, true, true, true, true, true, true])], ⟨5, 3, [(4, ⟨[], .one (.leaf (.ptr (.p 0 0)))⟩), (8, ⟨[], .one (.leaf (.ptr (.p 1 0)))⟩), (16, ⟨[], .one (.leaf (.ref 2 22))⟩), (19, ⟨[], .one (.leaf (.at (.v 0) 3))⟩)], [(0, .box 24 (.leaf (.at (.v 1) 24))), (1, .box 24 (.agg 24 [.at (.v 2) 3, .at (.v 3) 3, .nil 22])), (2, .arr 40 22 (.v 4))]⟩⟩]
def b16 : List Blk := [
  ⟨[(0, 0, [false, false, false, true, true]), (2, 0, [false, false, false, true, true]), (1, 0, []), (0, 0, [true, true, true])], ⟨3, 1, [(2, ⟨[], .one (.leaf (.at (.v 0) 3))⟩), (3, ⟨[], .one (.leaf (.ptr (.p 0 0)))⟩), (7, ⟨[], .one (.leaf (.at (.v 1) 3))⟩)], [(0, .box 24 (.leaf (.at (.v 2) 24)))]⟩⟩]
def b18 : List Blk := [
  ⟨[(0, 0, [false, false, true, false, true, true]), (2, 0, [false, false, true, false, true, true]), (1, 0, []), (0, 0, [true, true, true])], ⟨3, 0, [(0, ⟨[], .one (.leaf (.at (.v 0) 22))⟩), (1, ⟨[], .one (.leaf (.at (.v 1) 22))⟩), (5, ⟨[], .one (.leaf (.at (.v 2) 3))⟩)], []⟩⟩]
def b19 : List Blk := [
  ⟨[(0, 0, [false, false, true, false, true, true, true]), (2, 0, [false, false, true, false, true, true, true]), (1, 0, []), (0, 0, [true, true, true, true])], ⟨3, 1, [(0, ⟨[], .one (.leaf (.at (.v 0) 31))⟩), (3, ⟨[], .one (.leaf (.ref 0 33))⟩), (4, ⟨[], .one (.leaf (.at (.v 1) 3))⟩)], [(0, .arr 24 33 (.v 2))]⟩⟩,
  ⟨[(0, 0, [true, true, false, false, true, false, true, true, true]), (2, 0, [false, false, true, false, true, true, true]), (1, 0, []), (0, 0, [true, true, true, true])], ⟨3, 1, [(0, ⟨[], .one (.leaf (.at (.v 0) 31))⟩), (3, ⟨[], .one (.leaf (.ref 0 33))⟩), (4, ⟨[], .one (.leaf (.at (.v 1) 3))⟩)], [(0, .arr 24 33 (.v 2))]⟩⟩,
  ⟨[(1, 1, []), (0, 0, [true, true, false, false, true, false, true, true, true]), (2, 0, [false, false, true, false, true, true, true]), (1, 0, []), (0, 0, [true, true, true, true])], ⟨3, 1, [(0, ⟨[], .one (.leaf (.at (.v 0) 31))⟩), (3, ⟨[], .one (.leaf (.ref 0 33))⟩), (4, ⟨[], .one (.leaf (.at (.v 1) 3))⟩)], [(0, .arr 24 33 (.v 2))]⟩⟩]
def b21 : List Blk := [
  ⟨[(0, 0, [false, false, false, true, true, true]), (2, 0, [false, false, false, true, true, true]), (1, 0, []), (0, 0, [true, true, true, true])], ⟨3, 2, [(2, ⟨[], .one (.leaf (.ptr (.p 0 0)))⟩), (3, ⟨[], .one (.leaf (.ptr (.p 1 0)))⟩), (5, ⟨[], .one (.leaf (.at (.v 0) 3))⟩)], [(0, .box 24 (.leaf (.at (.v 1) 24))), (1, .box 24 (.leaf (.at (.v 2) 24)))]⟩⟩]
def b22 : List Blk := [
  ⟨[(0, 0, [false, false, true, false, true, true, true]), (2, 0, [false, false, true, false, true, true, true]), (1, 0, []), (0, 0, [true, true, true, true])], ⟨4, 2, [(2, ⟨[], .one (.leaf (.ptr (.p 0 0)))⟩), (3, ⟨[], .one (.leaf (.ptr (.p 1 0)))⟩), (5, ⟨[], .one (.leaf (.at (.v 0) 3))⟩), (7, ⟨[], .one (.leaf (.at (.v 1) 3))⟩)], [(0, .box 24 (.leaf (.at (.v 2) 24))), (1, .box 24 (.leaf (.at (.v 3) 24)))]⟩⟩,
  ⟨[(0, 0, [false, false, true, false, true, false, true, false, true, true, true, false, false, true, false, false, true, false, true, true, true]), (2, 0, [false, false, true, false, true, false, true, false, true, true, true, false, false, true, false, false, true, false, true, true, true]), (1, 2, []), (0, 0, [true, true, false, true, false, true, true, true, false, false, true, false, false, true, false, true, true, true]), (0, 0, [true, true, true, true, false, false, true, false, false, true, false, true, true, true]), (1, 1, []), (0, 0, [true, true, false, false, true, false, true, true, true]), (2, 0, [false, false, true, false, true, true, true]), (1, 0, []), (0, 0, [true, true, true, true])], ⟨6, 3, [(2, ⟨[], .one (.leaf (.ptr (.p 0 0)))⟩), (12, ⟨[], .one (.leaf (.ptr (.p 1 0)))⟩), (13, ⟨[], .one (.leaf (.at (.v 0) 3))⟩), (15, ⟨[], .one (.leaf (.at (.v 1) 3))⟩)], [(0, .box 24 (.leaf (.at (.v 2) 24))), (1, .box 24 (.agg 24 [.at (.v 3) 3, .at (.v 4) 3, .ref 2 22])), (2, .arr 40 22 (.v 5))]⟩⟩]
def blks (i : Nat) : List Blk :=
  match i with
  | 2 => b2
  | 5 => b5
  | 6 => b6
  | 11 => b11
  | 14 => b14
  | 16 => b16
  | 18 => b18
  | 19 => b19
  | 21 => b21
  | 22 => b22
  | _ => []
def pr (i : Nat) : Option (List IV → Option (List IV)) :=
  match i with
  | 8 => some O.cloneF
  | _ => none
/-- What the functions say. -/
noncomputable def W (f b : Nat) (xs : List IV) : Option (List IV) := V (tab Try.prog specs blks 3000) pr ⟨f, b⟩ xs
theorem e_f_law25_RlogAppends_0 (x0 x1 x2 x3 : IV) : W f_law25_RlogAppends 0 [x0, x1, x2, x3] =
  calls (W f_ref25_Valid 0 [x0]) 1 fun x4 =>
  (O.not x4).bind fun x5 =>
  (cnd x5 (some (.bool true)) (
      (O.len x3).bind fun x6 =>
      (O.gt x6 (.int 1000)).bind fun x7 =>
      some x7)).bind fun x6 =>
  cnd x6 (
    calls (W f_law25_lives 0 []) 1 fun x7 =>
    some [x7]) (
    calls (W f_rlog_Append 0 [x0, x1, x2, x3]) 5 fun x7 x8 x9 x10 x11 =>
    calls (W f_ref25_Append 0 [x0, x1, x2, x3]) 3 fun x12 x13 x14 =>
    calls (W f_law25_lives 0 []) 1 fun x15 =>
    (cnd x15 (
        (O.mkagg [x7, x8, x9]).bind fun x16 =>
        calls (W f_ref25_Same 0 [x16, x12]) 1 fun x17 =>
        some x17) (some (.bool false))).bind fun x16 =>
    (cnd x16 (
        (O.eq x10 x13).bind fun x17 =>
        some x17) (some (.bool false))).bind fun x17 =>
    (cnd x17 (
        (O.bEq x11 x14).bind fun x18 =>
        some x18) (some (.bool false))).bind fun x18 =>
    (cnd x18 (
        (O.mkagg [x7, x8, x9]).bind fun x19 =>
        calls (W f_rlog_Valid 0 [x19]) 1 fun x20 =>
        some x20) (some (.bool false))).bind fun x19 =>
    some [x19]) := V_is rfl (by kernel_rfl)
theorem e_f_ref25_Valid_0 (x0 : IV) : W f_ref25_Valid 0 [x0] =
  (O.proj 0 x0).bind fun x1 =>
  (O.lt x1 (.int 0)).bind fun x2 =>
  (cnd x2 (some (.bool true)) (
      (O.gt x1 (.int 1000000000000000)).bind fun x3 =>
      some x3)).bind fun x3 =>
  (cnd x3 (some (.bool true)) (
      (O.proj 1 x0).bind fun x4 =>
      (O.lt x4 (.int 0)).bind fun x5 =>
      some x5)).bind fun x4 =>
  (cnd x4 (some (.bool true)) (
      (O.proj 1 x0).bind fun x5 =>
      (O.gt x5 (.int 1000000000000000)).bind fun x6 =>
      some x6)).bind fun x5 =>
  (cnd x5 (some (.bool true)) (
      (O.eq x1 (.int 0)).bind fun x6 =>
      (O.proj 1 x0).bind fun x7 =>
      (O.eq x7 (.int 0)).bind fun x8 =>
      (O.bNe x6 x8).bind fun x9 =>
      some x9)).bind fun x6 =>
  (cnd x6 (some (.bool true)) (
      (O.proj 2 x0).bind fun x7 =>
      (O.len x7).bind fun x8 =>
      (O.gt x8 (.int 400)).bind fun x9 =>
      some x9)).bind fun x7 =>
  cnd x7 (
    some [(.bool false)]) (
    (O.proj 2 x0).bind fun x8 =>
    (O.proj 1 x0).bind fun x9 =>
    (O.max (.int 1) x9).bind fun x10 =>
    calls (W f_ref25_rises 0 [x8, x10]) 1 fun x11 =>
    some [x11]) := V_is rfl (by kernel_rfl)
theorem e_f_ref25_rises_0 (x0 x1 : IV) : W f_ref25_rises 0 [x0, x1] =
  W f_ref25_rises 1 [x0, x1, (.int 0)] := V_is rfl (by kernel_rfl)
theorem e_f_ref25_rises_1 (x0 x1 x2 : IV) : W f_ref25_rises 1 [x0, x1, x2] =
  (O.len x0).bind fun x3 =>
  (O.lt x2 x3).bind fun x4 =>
  cnd x4 (
    (O.index x0 x2).bind fun x5 =>
    (O.proj 0 x5).bind fun x6 =>
    (O.lt x6 x1).bind fun x7 =>
    (cnd x7 (some (.bool true)) (
        (O.gt x6 (.int 1000000000000000)).bind fun x8 =>
        some x8)).bind fun x8 =>
    cnd x8 (
      some [(.bool false)]) (
      (O.add .i64 x2 (.int 1)).bind fun x9 =>
      W f_ref25_rises 1 [x0, x6, x9])) (
    some [(.bool true)]) := V_is rfl (by kernel_rfl)
theorem e_f_law25_lives_0 : W f_law25_lives 0 [] =
  calls (W f_rlog_New 0 []) 3 fun x0 x1 x2 =>
  (O.mkagg [(.int 1), (.str ⟨#[97]⟩)]).bind fun x3 =>
  (O.mkagg [(.int 1), (.str ⟨#[98]⟩)]).bind fun x4 =>
  (O.mkagg [(.int 2), (.str ⟨#[99]⟩)]).bind fun x5 =>
  (O.mklist [x3, x4, x5]).bind fun x6 =>
  (O.mkagg [x0, x1, x2]).bind fun x7 =>
  calls (W f_rlog_Append 0 [x7, (.int 0), (.int 0), x6]) 5 fun x8 x9 x10 x11 x12 =>
  (O.mkagg [x8, x9, x10]).bind fun x13 =>
  calls (W f_rlog_Append 0 [x13, (.int 3), (.int 1), (.list [])]) 5 fun x14 x15 x16 x17 x18 =>
  (O.mkagg [(.int 1), (.str ⟨#[120]⟩)]).bind fun x19 =>
  (O.mkagg [(.int 3), (.str ⟨#[121]⟩)]).bind fun x20 =>
  (O.mklist [x19, x20]).bind fun x21 =>
  calls (W f_rlog_Append 0 [x13, (.int 1), (.int 1), x21]) 5 fun x22 x23 x24 x25 x26 =>
  (O.mkagg [x22, x23, x24]).bind fun x27 =>
  calls (W f_rlog_Compact 0 [x27, (.int 2)]) 4 fun x28 x29 x30 x31 =>
  (O.mkagg [x28, x29, x30]).bind fun x32 =>
  calls (W f_rlog_Last 0 [x32]) 2 fun x33 x34 =>
  (cnd x12 (
      (O.eq x11 (.int 3)).bind fun x35 =>
      some x35) (some (.bool false))).bind fun x35 =>
  (cnd x35 (
      (O.not x18).bind fun x36 =>
      some x36) (some (.bool false))).bind fun x36 =>
  (cnd x36 (
      (O.eq x17 (.int 2)).bind fun x37 =>
      some x37) (some (.bool false))).bind fun x37 =>
  (O.pick x37 x26 (.bool false)).bind fun x38 =>
  (cnd x38 (
      (O.eq x25 (.int 3)).bind fun x39 =>
      some x39) (some (.bool false))).bind fun x39 =>
  (cnd x39 (
      (O.len x24).bind fun x40 =>
      (O.eq x40 (.int 3)).bind fun x41 =>
      some x41) (some (.bool false))).bind fun x40 =>
  (cnd x40 (
      (O.index x24 (.int 1)).bind fun x41 =>
      (O.proj 1 x41).bind fun x42 =>
      (O.sEq x42 (.str ⟨#[98]⟩)).bind fun x43 =>
      some x43) (some (.bool false))).bind fun x41 =>
  (cnd x41 (
      (O.index x24 (.int 2)).bind fun x42 =>
      (O.mkagg [(.int 3), (.str ⟨#[121]⟩)]).bind fun x43 =>
      (O.aEq x42 x43).bind fun x44 =>
      some x44) (some (.bool false))).bind fun x42 =>
  (cnd x42 (
      (O.eq x31 (.int 0)).bind fun x43 =>
      some x43) (some (.bool false))).bind fun x43 =>
  (cnd x43 (
      (O.eq x28 (.int 2)).bind fun x44 =>
      some x44) (some (.bool false))).bind fun x44 =>
  (cnd x44 (
      (O.eq x29 (.int 1)).bind fun x45 =>
      some x45) (some (.bool false))).bind fun x45 =>
  (cnd x45 (
      (O.eq x33 (.int 3)).bind fun x46 =>
      some x46) (some (.bool false))).bind fun x46 =>
  (cnd x46 (
      (O.eq x34 (.int 3)).bind fun x47 =>
      some x47) (some (.bool false))).bind fun x47 =>
  (cnd x47 (
      calls (W f_rlog_Valid 0 [x32]) 1 fun x48 =>
      some x48) (some (.bool false))).bind fun x48 =>
  some [x48] := V_is rfl (by kernel_rfl)
theorem e_f_rlog_New_0 : W f_rlog_New 0 [] =
  some [(.int 0), (.int 0), (.list [])] := V_is rfl (by kernel_rfl)
theorem e_f_rlog_Append_0 (x0 x1 x2 x3 : IV) : W f_rlog_Append 0 [x0, x1, x2, x3] =
  (O.lt x1 (.int 0)).bind fun x4 =>
  (cnd x4 (some (.bool true)) (
      (O.lt x2 (.int 0)).bind fun x5 =>
      some x5)).bind fun x5 =>
  (cnd x5 (some (.bool true)) (
      (O.max (.int 1) x2).bind fun x6 =>
      calls (W f_rlog_rises 0 [x3, x6]) 1 fun x7 =>
      (O.not x7).bind fun x8 =>
      some x8)).bind fun x6 =>
  cnd x6 (
    calls (W f_rlog_clone 0 [x0]) 3 fun x7 x8 x9 =>
    some [x7, x8, x9, (.int 0), (.bool false)]) (
    (O.len x3).bind fun x7 =>
    (O.proj 0 x0).bind fun x8 =>
    (O.sub .i64 x8 x7).bind fun x9 =>
    (O.gt x1 x9).bind fun x10 =>
    cnd x10 (
      (O.sub .i64 x8 x1).bind fun x11 =>
      (O.max (.int 0) x11).bind fun x12 =>
      W f_rlog_Append 1 [x1, x2, x3, x12, x0, (.int 0), (.int 0)]) (
      W f_rlog_Append 1 [x1, x2, x3, x7, x0, (.int 0), (.int 0)])) := V_is rfl (by kernel_rfl)
theorem e_f_rlog_Append_1 (x0 x1 x2 x3 x4 x5 x6 : IV) : W f_rlog_Append 1 [x0, x1, x2, x3, x4, x5, x6] =
  (O.sliceLo x2 x3).bind fun x7 =>
  (O.proj 1 x4).bind fun x8 =>
  calls (W f_rlog_rises 0 [x7, x8]) 1 fun x9 =>
  (O.not x9).bind fun x10 =>
  cnd x10 (
    calls (W f_rlog_clone 0 [x4]) 3 fun x11 x12 x13 =>
    some [x11, x12, x13, (.int 0), (.bool false)]) (
    calls (W f_rlog_TermAt 0 [x4, x0]) 2 fun x11 x12 =>
    (O.proj 0 x4).bind fun x13 =>
    (O.gt x0 x13).bind fun x14 =>
    (cnd x14 (
        (O.not x12).bind fun x15 =>
        (cnd x15 (some (.bool true)) (
            (O.ne x11 x1).bind fun x16 =>
            some x16)).bind fun x16 =>
        some x16) (some (.bool false))).bind fun x15 =>
    cnd x15 (
      calls (W f_rlog_clone 0 [x4]) 3 fun x16 x17 x18 =>
      calls (W f_rlog_hint 0 [x4, x0, x1]) 1 fun x19 =>
      some [x16, x17, x18, x19, (.bool false)]) (
      calls (W f_rlog_clone 0 [x4]) 3 fun x16 x17 x18 =>
      (O.sub .i64 x0 x13).bind fun x19 =>
      (O.max (.int 0) x19).bind fun x20 =>
      (O.sliceLo x2 x3).bind fun x21 =>
      (O.len x21).bind fun x22 =>
      W f_rlog_Append 2 [x0, x2, x20, x21, x22, (.int 0), x4, x5, x6, x16, x17, x18])) := V_is rfl (by kernel_rfl)
theorem e_f_rlog_Append_2 (x0 x1 x2 x3 x4 x5 x6 x7 x8 x9 x10 x11 : IV) : W f_rlog_Append 2 [x0, x1, x2, x3, x4, x5, x6, x7, x8, x9, x10, x11] =
  (O.lt x5 x4).bind fun x12 =>
  cnd x12 (
    (O.index x3 x5).bind fun x13 =>
    (O.len x11).bind fun x14 =>
    (O.lt x2 x14).bind fun x15 =>
    (cnd x15 (
        (O.index x11 x2).bind fun x16 =>
        (O.proj 0 x16).bind fun x17 =>
        (O.proj 0 x13).bind fun x18 =>
        (O.ne x17 x18).bind fun x19 =>
        some x19) (some (.bool false))).bind fun x16 =>
    cnd x16 (
      (O.slice x11 (.int 0) x2).bind fun x17 =>
      (O.slice x11 (.int 0) x2).bind fun x18 =>
      W f_rlog_Append 3 [x0, x1, x2, x3, x4, x5, x6, x7, x8, x9, x10, x13, x18]) (
      W f_rlog_Append 3 [x0, x1, x2, x3, x4, x5, x6, x7, x8, x9, x10, x13, x11])) (
    (O.len x1).bind fun x13 =>
    (O.add .i64 x0 x13).bind fun x14 =>
    (O.proj 0 x6).bind fun x15 =>
    (O.add .i64 x15 (.int 400)).bind fun x16 =>
    (O.min x14 x16).bind fun x17 =>
    some [x9, x10, x11, x17, (.bool true)]) := V_is rfl (by kernel_rfl)
theorem e_f_rlog_Append_3 (x0 x1 x2 x3 x4 x5 x6 x7 x8 x9 x10 x11 x12 : IV) : W f_rlog_Append 3 [x0, x1, x2, x3, x4, x5, x6, x7, x8, x9, x10, x11, x12] =
  (O.len x12).bind fun x13 =>
  (O.eq x2 x13).bind fun x14 =>
  (cnd x14 (
      (O.lt x2 (.int 400)).bind fun x15 =>
      some x15) (some (.bool false))).bind fun x15 =>
  cnd x15 (
    (O.mklist [x11]).bind fun x16 =>
    (O.append 24 x12 x16).bind fun x17 =>
    W f_rlog_Append 4 [x0, x1, x2, x3, x4, x5, x6, x7, x8, x9, x10, x17]) (
    W f_rlog_Append 4 [x0, x1, x2, x3, x4, x5, x6, x7, x8, x9, x10, x12]) := V_is rfl (by kernel_rfl)
theorem e_f_rlog_Append_4 (x0 x1 x2 x3 x4 x5 x6 x7 x8 x9 x10 x11 : IV) : W f_rlog_Append 4 [x0, x1, x2, x3, x4, x5, x6, x7, x8, x9, x10, x11] =
  (O.add .i64 x2 (.int 1)).bind fun x12 =>
  (O.add .i64 x5 (.int 1)).bind fun x13 =>
  W f_rlog_Append 2 [x0, x1, x12, x3, x4, x13, x6, x7, x8, x9, x10, x11] := V_is rfl (by kernel_rfl)
theorem e_f_rlog_rises_0 (x0 x1 : IV) : W f_rlog_rises 0 [x0, x1] =
  (O.len x0).bind fun x2 =>
  W f_rlog_rises 1 [x1, x0, x2, (.int 0)] := V_is rfl (by kernel_rfl)
theorem e_f_rlog_rises_1 (x0 x1 x2 x3 : IV) : W f_rlog_rises 1 [x0, x1, x2, x3] =
  (O.lt x3 x2).bind fun x4 =>
  cnd x4 (
    (O.index x1 x3).bind fun x5 =>
    (O.proj 0 x5).bind fun x6 =>
    (O.lt x6 x0).bind fun x7 =>
    (cnd x7 (some (.bool true)) (
        (O.gt x6 (.int 1000000000000000)).bind fun x8 =>
        some x8)).bind fun x8 =>
    cnd x8 (
      some [(.bool false)]) (
      (O.add .i64 x3 (.int 1)).bind fun x9 =>
      W f_rlog_rises 1 [x6, x1, x2, x9])) (
    some [(.bool true)]) := V_is rfl (by kernel_rfl)
theorem e_f_rlog_clone_0 (x0 : IV) : W f_rlog_clone 0 [x0] =
  (O.proj 2 x0).bind fun x1 =>
  calls (W f_slices_Clone 0 [x1]) 1 fun x2 =>
  (O.proj 0 x0).bind fun x3 =>
  (O.proj 1 x0).bind fun x4 =>
  some [x3, x4, x2] := V_is rfl (by kernel_rfl)
theorem e_f_slices_Clone (xs : List IV) : W f_slices_Clone 0 xs = O.cloneF xs := V_eq _ _ _ _
theorem e_f_rlog_TermAt_0 (x0 x1 : IV) : W f_rlog_TermAt 0 [x0, x1] =
  calls (W f_rlog_Last 0 [x0]) 2 fun x2 x3 =>
  (O.proj 0 x0).bind fun x4 =>
  (O.lt x1 x4).bind fun x5 =>
  (cnd x5 (some (.bool true)) (
      (O.gt x1 x2).bind fun x6 =>
      some x6)).bind fun x6 =>
  cnd x6 (
    some [(.int 0), (.bool false)]) (
    (O.eq x1 x4).bind fun x7 =>
    cnd x7 (
      (O.proj 1 x0).bind fun x8 =>
      some [x8, (.bool true)]) (
      (O.proj 2 x0).bind fun x8 =>
      (O.sub .i64 x1 x4).bind fun x9 =>
      (O.sub .i64 x9 (.int 1)).bind fun x10 =>
      (O.index x8 x10).bind fun x11 =>
      (O.proj 0 x11).bind fun x12 =>
      some [x12, (.bool true)])) := V_is rfl (by kernel_rfl)
theorem e_f_rlog_Last_0 (x0 : IV) : W f_rlog_Last 0 [x0] =
  (O.proj 2 x0).bind fun x1 =>
  (O.len x1).bind fun x2 =>
  (O.gt x2 (.int 0)).bind fun x3 =>
  cnd x3 (
    (O.proj 0 x0).bind fun x4 =>
    (O.add .i64 x4 x2).bind fun x5 =>
    (O.sub .i64 x2 (.int 1)).bind fun x6 =>
    (O.index x1 x6).bind fun x7 =>
    (O.proj 0 x7).bind fun x8 =>
    some [x5, x8]) (
    (O.proj 0 x0).bind fun x4 =>
    (O.proj 1 x0).bind fun x5 =>
    some [x4, x5]) := V_is rfl (by kernel_rfl)
theorem e_f_rlog_hint_0 (x0 x1 x2 : IV) : W f_rlog_hint 0 [x0, x1, x2] =
  calls (W f_rlog_Last 0 [x0]) 2 fun x3 x4 =>
  (O.sub .i64 x1 (.int 1)).bind fun x5 =>
  (O.min x5 x3).bind fun x6 =>
  W f_rlog_hint 1 [x2, x6, x0] := V_is rfl (by kernel_rfl)
theorem e_f_rlog_hint_1 (x0 x1 x2 : IV) : W f_rlog_hint 1 [x0, x1, x2] =
  (O.proj 0 x2).bind fun x3 =>
  (O.gt x1 x3).bind fun x4 =>
  cnd x4 (
    calls (W f_rlog_TermAt 0 [x2, x1]) 2 fun x5 x6 =>
    (O.le x5 x0).bind fun x7 =>
    cnd x7 (
      some [x1]) (
      (O.sub .i64 x1 (.int 1)).bind fun x8 =>
      W f_rlog_hint 1 [x0, x8, x2])) (
    some [x3]) := V_is rfl (by kernel_rfl)
theorem e_f_rlog_Compact_0 (x0 x1 : IV) : W f_rlog_Compact 0 [x0, x1] =
  calls (W f_rlog_TermAt 0 [x0, x1]) 2 fun x2 x3 =>
  (O.not x3).bind fun x4 =>
  cnd x4 (
    calls (W f_rlog_clone 0 [x0]) 3 fun x5 x6 x7 =>
    some [x5, x6, x7, (.int 5)]) (
    (O.proj 2 x0).bind fun x5 =>
    (O.proj 0 x0).bind fun x6 =>
    (O.sub .i64 x1 x6).bind fun x7 =>
    (O.sliceLo x5 x7).bind fun x8 =>
    calls (W f_slices_Clone 0 [x8]) 1 fun x9 =>
    some [x1, x2, x9, (.int 0)]) := V_is rfl (by kernel_rfl)
theorem e_f_rlog_Valid_0 (x0 : IV) : W f_rlog_Valid 0 [x0] =
  (O.proj 0 x0).bind fun x1 =>
  (O.lt x1 (.int 0)).bind fun x2 =>
  (cnd x2 (some (.bool true)) (
      (O.gt x1 (.int 1000000000000000)).bind fun x3 =>
      some x3)).bind fun x3 =>
  (cnd x3 (some (.bool true)) (
      (O.proj 1 x0).bind fun x4 =>
      (O.lt x4 (.int 0)).bind fun x5 =>
      some x5)).bind fun x4 =>
  (cnd x4 (some (.bool true)) (
      (O.proj 1 x0).bind fun x5 =>
      (O.gt x5 (.int 1000000000000000)).bind fun x6 =>
      some x6)).bind fun x5 =>
  (cnd x5 (some (.bool true)) (
      (O.eq x1 (.int 0)).bind fun x6 =>
      (O.proj 1 x0).bind fun x7 =>
      (O.eq x7 (.int 0)).bind fun x8 =>
      (O.bNe x6 x8).bind fun x9 =>
      some x9)).bind fun x6 =>
  cnd x6 (
    some [(.bool false)]) (
    (O.proj 2 x0).bind fun x7 =>
    (O.len x7).bind fun x8 =>
    (O.le x8 (.int 400)).bind fun x9 =>
    (cnd x9 (
        (O.proj 1 x0).bind fun x10 =>
        (O.max (.int 1) x10).bind fun x11 =>
        calls (W f_rlog_rises 0 [x7, x11]) 1 fun x12 =>
        some x12) (some (.bool false))).bind fun x10 =>
    some [x10]) := V_is rfl (by kernel_rfl)
theorem e_f_ref25_Append_0 (x0 x1 x2 x3 : IV) : W f_ref25_Append 0 [x0, x1, x2, x3] =
  (O.lt x1 (.int 0)).bind fun x4 =>
  (cnd x4 (some (.bool true)) (
      (O.lt x2 (.int 0)).bind fun x5 =>
      some x5)).bind fun x5 =>
  (cnd x5 (some (.bool true)) (
      (O.max (.int 1) x2).bind fun x6 =>
      calls (W f_ref25_rises 0 [x3, x6]) 1 fun x7 =>
      (O.not x7).bind fun x8 =>
      some x8)).bind fun x6 =>
  cnd x6 (
    some [x0, (.int 0), (.bool false)]) (
    W f_ref25_Append 1 [x1, x2, x3, (.int 0), x0, (.int 0), (.int 0)]) := V_is rfl (by kernel_rfl)
theorem e_f_ref25_Append_1 (x0 x1 x2 x3 x4 x5 x6 : IV) : W f_ref25_Append 1 [x0, x1, x2, x3, x4, x5, x6] =
  (O.len x2).bind fun x7 =>
  (O.lt x3 x7).bind fun x8 =>
  cnd x8 (
    (O.proj 0 x4).bind fun x9 =>
    (O.sub .i64 x9 x0).bind fun x10 =>
    (O.ge x3 x10).bind fun x11 =>
    (cnd x11 (
        (O.index x2 x3).bind fun x12 =>
        (O.proj 0 x12).bind fun x13 =>
        (O.proj 1 x4).bind fun x14 =>
        (O.lt x13 x14).bind fun x15 =>
        some x15) (some (.bool false))).bind fun x12 =>
    cnd x12 (
      some [x4, (.int 0), (.bool false)]) (
      (O.add .i64 x3 (.int 1)).bind fun x13 =>
      W f_ref25_Append 1 [x0, x1, x2, x13, x4, x5, x6])) (
    (O.proj 0 x4).bind fun x9 =>
    (O.gt x0 x9).bind fun x10 =>
    cnd x10 (
      calls (W f_ref25_TermAt 0 [x4, x0]) 2 fun x11 x12 =>
      (O.not x12).bind fun x13 =>
      (cnd x13 (some (.bool true)) (
          (O.ne x11 x1).bind fun x14 =>
          some x14)).bind fun x14 =>
      cnd x14 (
        calls (W f_ref25_hint 0 [x4, x0, x1]) 1 fun x15 =>
        some [x4, x15, (.bool false)]) (
        W f_ref25_Append 2 [x0, x2, x4, x5, x6])) (
      W f_ref25_Append 2 [x0, x2, x4, x5, x6])) := V_is rfl (by kernel_rfl)
theorem e_f_ref25_Append_2 (x0 x1 x2 x3 x4 : IV) : W f_ref25_Append 2 [x0, x1, x2, x3, x4] =
  (O.proj 0 x2).bind fun x5 =>
  (O.sub .i64 x5 x0).bind fun x6 =>
  (O.max (.int 0) x6).bind fun x7 =>
  (O.sub .i64 x0 x5).bind fun x8 =>
  (O.max (.int 0) x8).bind fun x9 =>
  (O.proj 2 x2).bind fun x10 =>
  (O.append 24 (.list []) x10).bind fun x11 =>
  W f_ref25_Append 3 [x0, x1, x7, x9, x7, x2, x3, x4, x11] := V_is rfl (by kernel_rfl)
theorem e_f_ref25_Append_3 (x0 x1 x2 x3 x4 x5 x6 x7 x8 : IV) : W f_ref25_Append 3 [x0, x1, x2, x3, x4, x5, x6, x7, x8] =
  (O.len x1).bind fun x9 =>
  (O.lt x4 x9).bind fun x10 =>
  cnd x10 (
    (O.add .i64 x3 x4).bind fun x11 =>
    (O.sub .i64 x11 x2).bind fun x12 =>
    (O.len x8).bind fun x13 =>
    (O.lt x12 x13).bind fun x14 =>
    (cnd x14 (
        (O.index x8 x12).bind fun x15 =>
        (O.proj 0 x15).bind fun x16 =>
        (O.index x1 x4).bind fun x17 =>
        (O.proj 0 x17).bind fun x18 =>
        (O.eq x16 x18).bind fun x19 =>
        some x19) (some (.bool false))).bind fun x15 =>
    cnd x15 (
      (O.add .i64 x4 (.int 1)).bind fun x16 =>
      W f_ref25_Append 3 [x0, x1, x2, x3, x16, x5, x6, x7, x8]) (
      (O.slice x8 (.int 0) x12).bind fun x16 =>
      (O.sliceLo x1 x4).bind fun x17 =>
      (O.slice x8 (.int 0) x12).bind fun x18 =>
      (O.append 24 x18 x17).bind fun x19 =>
      W f_ref25_Append 4 [x0, x1, x5, x6, x7, x19])) (
    W f_ref25_Append 4 [x0, x1, x5, x6, x7, x8]) := V_is rfl (by kernel_rfl)
theorem e_f_ref25_Append_4 (x0 x1 x2 x3 x4 x5 : IV) : W f_ref25_Append 4 [x0, x1, x2, x3, x4, x5] =
  (O.len x5).bind fun x6 =>
  (O.gt x6 (.int 400)).bind fun x7 =>
  cnd x7 (
    (O.slice x5 (.int 0) (.int 400)).bind fun x8 =>
    (O.slice x5 (.int 0) (.int 400)).bind fun x9 =>
    W f_ref25_Append 5 [x0, x1, x2, x3, x4, x9]) (
    W f_ref25_Append 5 [x0, x1, x2, x3, x4, x5]) := V_is rfl (by kernel_rfl)
theorem e_f_ref25_Append_5 (x0 x1 x2 x3 x4 x5 : IV) : W f_ref25_Append 5 [x0, x1, x2, x3, x4, x5] =
  (O.proj 0 x2).bind fun x6 =>
  (O.add .i64 x6 (.int 400)).bind fun x7 =>
  (O.len x1).bind fun x8 =>
  (O.sub .i64 x7 x8).bind fun x9 =>
  (O.le x0 x9).bind fun x10 =>
  cnd x10 (
    (O.add .i64 x0 x8).bind fun x11 =>
    W f_ref25_Append 6 [x11, x2, x3, x4, x5]) (
    W f_ref25_Append 6 [x7, x2, x3, x4, x5]) := V_is rfl (by kernel_rfl)
theorem e_f_ref25_Append_6 (x0 x1 x2 x3 x4 : IV) : W f_ref25_Append 6 [x0, x1, x2, x3, x4] =
  (O.proj 0 x1).bind fun x5 =>
  (O.proj 1 x1).bind fun x6 =>
  (O.mkagg [x5, x6, x4]).bind fun x7 =>
  some [x7, x0, (.bool true)] := V_is rfl (by kernel_rfl)
theorem e_f_ref25_TermAt_0 (x0 x1 : IV) : W f_ref25_TermAt 0 [x0, x1] =
  (O.proj 0 x0).bind fun x2 =>
  (O.eq x1 x2).bind fun x3 =>
  cnd x3 (
    (O.proj 1 x0).bind fun x4 =>
    some [x4, (.bool true)]) (
    (O.lt x1 x2).bind fun x4 =>
    (cnd x4 (some (.bool true)) (
        (O.proj 2 x0).bind fun x5 =>
        (O.len x5).bind fun x6 =>
        (O.add .i64 x2 x6).bind fun x7 =>
        (O.gt x1 x7).bind fun x8 =>
        some x8)).bind fun x5 =>
    cnd x5 (
      some [(.int 0), (.bool false)]) (
      (O.proj 2 x0).bind fun x6 =>
      (O.sub .i64 x1 x2).bind fun x7 =>
      (O.sub .i64 x7 (.int 1)).bind fun x8 =>
      (O.index x6 x8).bind fun x9 =>
      (O.proj 0 x9).bind fun x10 =>
      some [x10, (.bool true)])) := V_is rfl (by kernel_rfl)
theorem e_f_ref25_hint_0 (x0 x1 x2 : IV) : W f_ref25_hint 0 [x0, x1, x2] =
  (O.sub .i64 x1 (.int 1)).bind fun x3 =>
  (O.proj 0 x0).bind fun x4 =>
  (O.proj 2 x0).bind fun x5 =>
  (O.len x5).bind fun x6 =>
  (O.add .i64 x4 x6).bind fun x7 =>
  (O.min x3 x7).bind fun x8 =>
  W f_ref25_hint 1 [x2, x8, x0] := V_is rfl (by kernel_rfl)
theorem e_f_ref25_hint_1 (x0 x1 x2 : IV) : W f_ref25_hint 1 [x0, x1, x2] =
  (O.proj 0 x2).bind fun x3 =>
  (O.gt x1 x3).bind fun x4 =>
  cnd x4 (
    calls (W f_ref25_TermAt 0 [x2, x1]) 2 fun x5 x6 =>
    (O.le x5 x0).bind fun x7 =>
    cnd x7 (
      some [x1]) (
      (O.sub .i64 x1 (.int 1)).bind fun x8 =>
      W f_ref25_hint 1 [x0, x8, x2])) (
    some [x3]) := V_is rfl (by kernel_rfl)
theorem e_f_ref25_Same_0 (x0 x1 : IV) : W f_ref25_Same 0 [x0, x1] =
  (O.proj 0 x0).bind fun x2 =>
  (O.proj 0 x1).bind fun x3 =>
  (O.eq x2 x3).bind fun x4 =>
  (cnd x4 (
      (O.proj 1 x0).bind fun x5 =>
      (O.proj 1 x1).bind fun x6 =>
      (O.eq x5 x6).bind fun x7 =>
      some x7) (some (.bool false))).bind fun x5 =>
  (cnd x5 (
      (O.proj 2 x0).bind fun x6 =>
      (O.proj 2 x1).bind fun x7 =>
      calls (W f_ref25_Entries 0 [x6, x7]) 1 fun x8 =>
      some x8) (some (.bool false))).bind fun x6 =>
  some [x6] := V_is rfl (by kernel_rfl)
theorem e_f_ref25_Entries_0 (x0 x1 : IV) : W f_ref25_Entries 0 [x0, x1] =
  (O.len x0).bind fun x2 =>
  (O.len x1).bind fun x3 =>
  (O.ne x2 x3).bind fun x4 =>
  cnd x4 (
    some [(.bool false)]) (
    W f_ref25_Entries 1 [x0, x1, (.int 0)]) := V_is rfl (by kernel_rfl)
theorem e_f_ref25_Entries_1 (x0 x1 x2 : IV) : W f_ref25_Entries 1 [x0, x1, x2] =
  (O.len x0).bind fun x3 =>
  (O.lt x2 x3).bind fun x4 =>
  cnd x4 (
    (O.index x0 x2).bind fun x5 =>
    (O.index x1 x2).bind fun x6 =>
    (O.aNe x5 x6).bind fun x7 =>
    cnd x7 (
      some [(.bool false)]) (
      (O.add .i64 x2 (.int 1)).bind fun x8 =>
      W f_ref25_Entries 1 [x0, x1, x8])) (
    some [(.bool true)]) := V_is rfl (by kernel_rfl)
theorem e_f_law25_RlogMatching_0 (x0 : IV) : W f_law25_RlogMatching 0 [x0] =
  (O.len x0).bind fun x1 =>
  (O.gt x1 (.int 60)).bind fun x2 =>
  cnd x2 (
    calls (W f_law25_lives 0 []) 1 fun x3 =>
    some [x3]) (
    calls (W f_rlog_New 0 []) 3 fun x3 x4 x5 =>
    calls (W f_rlog_New 0 []) 3 fun x6 x7 x8 =>
    calls (W f_rlog_New 0 []) 3 fun x9 x10 x11 =>
    (O.mkagg [x3, x4, x5]).bind fun x12 =>
    (O.mkagg [x6, x7, x8]).bind fun x13 =>
    (O.mkagg [x9, x10, x11]).bind fun x14 =>
    (O.mklist [x12, x13, x14]).bind fun x15 =>
    W f_law25_RlogMatching 1 [x0, (.int 0), x15]) := V_is rfl (by kernel_rfl)
theorem e_f_law25_RlogMatching_1 (x0 x1 x2 : IV) : W f_law25_RlogMatching 1 [x0, x1, x2] =
  (O.len x0).bind fun x3 =>
  (O.lt x1 x3).bind fun x4 =>
  cnd x4 (
    (O.index x0 x1).bind fun x5 =>
    (O.proj 1 x5).bind fun x6 =>
    (O.lt x6 (.int 0)).bind fun x7 =>
    (cnd x7 (some (.bool true)) (
        (O.proj 2 x5).bind fun x8 =>
        (O.lt x8 (.int 0)).bind fun x9 =>
        some x9)).bind fun x8 =>
    (cnd x8 (some (.bool true)) (
        (O.proj 3 x5).bind fun x9 =>
        (O.lt x9 (.int 0)).bind fun x10 =>
        some x10)).bind fun x9 =>
    (cnd x9 (some (.bool true)) (
        (O.proj 3 x5).bind fun x10 =>
        (O.gt x10 (.int 60)).bind fun x11 =>
        some x11)).bind fun x10 =>
    cnd x10 (
      calls (W f_law25_lives 0 []) 1 fun x11 =>
      some [x11]) (
      (O.rem .i64 x6 (.int 3)).bind fun x11 =>
      (O.proj 2 x5).bind fun x12 =>
      (O.rem .i64 x12 (.int 3)).bind fun x13 =>
      (O.index x2 x13).bind fun x14 =>
      calls (W f_rlog_Last 0 [x14]) 2 fun x15 x16 =>
      (O.proj 0 x5).bind fun x17 =>
      cnd x17 (
        (O.add .i64 x1 (.int 1)).bind fun x18 =>
        (O.add .i64 (.int 33) x1).bind fun x19 =>
        (O.conv .u8 x19).bind fun x20 =>
        (O.mklist [x20]).bind fun x21 =>
        (O.strOf x21).bind fun x22 =>
        (O.mkagg [x18, x22]).bind fun x23 =>
        (O.mklist [x23]).bind fun x24 =>
        calls (W f_rlog_Append 0 [x14, x15, x16, x24]) 5 fun x25 x26 x27 x28 x29 =>
        (O.not x29).bind fun x30 =>
        (cnd x30 (some (.bool true)) (
            (O.add .i64 x15 (.int 1)).bind fun x31 =>
            (O.ne x28 x31).bind fun x32 =>
            some x32)).bind fun x31 =>
        cnd x31 (
          some [(.bool false)]) (
          (O.mkagg [x25, x26, x27]).bind fun x32 =>
          (O.setAt 0 3 true true x2 x13 x32).bind fun x33 =>
          W f_law25_RlogMatching 2 [x0, x1, x33])) (
        (O.index x2 x11).bind fun x18 =>
        (O.proj 3 x5).bind fun x19 =>
        calls (W f_rlog_TermAt 0 [x18, x19]) 2 fun x20 x21 =>
        (O.add .i64 x19 (.int 1)).bind fun x22 =>
        (O.proj 4 x5).bind fun x23 =>
        calls (W f_rlog_From 0 [x18, x22, x23]) 2 fun x24 x25 =>
        (O.pick x21 x25 (.bool false)).bind fun x26 =>
        cnd x26 (
          calls (W f_rlog_Append 0 [x14, x19, x20, x24]) 5 fun x27 x28 x29 x30 x31 =>
          (O.mkagg [x27, x28, x29]).bind fun x32 =>
          (O.setAt 0 3 true true x2 x13 x32).bind fun x33 =>
          W f_law25_RlogMatching 3 [x0, x1, x33]) (
          W f_law25_RlogMatching 3 [x0, x1, x2])))) (
    calls (W f_law25_lives 0 []) 1 fun x5 =>
    (cnd x5 (
        (O.index x2 (.int 0)).bind fun x6 =>
        (O.index x2 (.int 1)).bind fun x7 =>
        calls (W f_law25_matches 0 [x6, x7]) 1 fun x8 =>
        some x8) (some (.bool false))).bind fun x6 =>
    (cnd x6 (
        (O.index x2 (.int 0)).bind fun x7 =>
        (O.index x2 (.int 2)).bind fun x8 =>
        calls (W f_law25_matches 0 [x7, x8]) 1 fun x9 =>
        some x9) (some (.bool false))).bind fun x7 =>
    (cnd x7 (
        (O.index x2 (.int 1)).bind fun x8 =>
        (O.index x2 (.int 2)).bind fun x9 =>
        calls (W f_law25_matches 0 [x8, x9]) 1 fun x10 =>
        some x10) (some (.bool false))).bind fun x8 =>
    some [x8]) := V_is rfl (by kernel_rfl)
theorem e_f_law25_RlogMatching_2 (x0 x1 x2 : IV) : W f_law25_RlogMatching 2 [x0, x1, x2] =
  (O.add .i64 x1 (.int 1)).bind fun x3 =>
  W f_law25_RlogMatching 1 [x0, x3, x2] := V_is rfl (by kernel_rfl)
theorem e_f_law25_RlogMatching_3 (x0 x1 x2 : IV) : W f_law25_RlogMatching 3 [x0, x1, x2] =
  W f_law25_RlogMatching 2 [x0, x1, x2] := V_is rfl (by kernel_rfl)
theorem e_f_rlog_From_0 (x0 x1 x2 : IV) : W f_rlog_From 0 [x0, x1, x2] =
  calls (W f_rlog_Last 0 [x0]) 2 fun x3 x4 =>
  (O.proj 0 x0).bind fun x5 =>
  (O.le x1 x5).bind fun x6 =>
  (cnd x6 (some (.bool true)) (
      (O.add .i64 x3 (.int 1)).bind fun x7 =>
      (O.gt x1 x7).bind fun x8 =>
      some x8)).bind fun x7 =>
  cnd x7 (
    some [(.list []), (.bool false)]) (
    (O.proj 2 x0).bind fun x8 =>
    (O.sub .i64 x1 x5).bind fun x9 =>
    (O.sub .i64 x9 (.int 1)).bind fun x10 =>
    (O.sliceLo x8 x10).bind fun x11 =>
    (O.max (.int 0) x2).bind fun x12 =>
    (O.len x11).bind fun x13 =>
    (O.min x12 x13).bind fun x14 =>
    (O.slice x11 (.int 0) x14).bind fun x15 =>
    calls (W f_slices_Clone 0 [x15]) 1 fun x16 =>
    some [x16, (.bool true)]) := V_is rfl (by kernel_rfl)
theorem e_f_law25_matches_0 (x0 x1 : IV) : W f_law25_matches 0 [x0, x1] =
  (O.proj 0 x0).bind fun x2 =>
  (O.ne x2 (.int 0)).bind fun x3 =>
  (cnd x3 (some (.bool true)) (
      (O.proj 0 x1).bind fun x4 =>
      (O.ne x4 (.int 0)).bind fun x5 =>
      some x5)).bind fun x4 =>
  cnd x4 (
    some [(.bool false)]) (
    (O.proj 2 x0).bind fun x5 =>
    (O.len x5).bind fun x6 =>
    (O.proj 2 x1).bind fun x7 =>
    (O.len x7).bind fun x8 =>
    (O.min x6 x8).bind fun x9 =>
    W f_law25_matches 1 [x9, x0, x1]) := V_is rfl (by kernel_rfl)
theorem e_f_law25_matches_1 (x0 x1 x2 : IV) : W f_law25_matches 1 [x0, x1, x2] =
  (O.gt x0 (.int 0)).bind fun x3 =>
  (cnd x3 (
      (O.proj 2 x1).bind fun x4 =>
      (O.sub .i64 x0 (.int 1)).bind fun x5 =>
      (O.index x4 x5).bind fun x6 =>
      (O.proj 0 x6).bind fun x7 =>
      (O.proj 2 x2).bind fun x8 =>
      (O.sub .i64 x0 (.int 1)).bind fun x9 =>
      (O.index x8 x9).bind fun x10 =>
      (O.proj 0 x10).bind fun x11 =>
      (O.ne x7 x11).bind fun x12 =>
      some x12) (some (.bool false))).bind fun x4 =>
  cnd x4 (
    (O.sub .i64 x0 (.int 1)).bind fun x5 =>
    W f_law25_matches 1 [x5, x1, x2]) (
    (O.proj 2 x1).bind fun x5 =>
    (O.slice x5 (.int 0) x0).bind fun x6 =>
    (O.proj 2 x2).bind fun x7 =>
    (O.slice x7 (.int 0) x0).bind fun x8 =>
    calls (W f_ref25_Entries 0 [x6, x8]) 1 fun x9 =>
    some [x9]) := V_is rfl (by kernel_rfl)
theorem e_f_law25_RlogRepairs_0 (x0 x1 : IV) : W f_law25_RlogRepairs 0 [x0, x1] =
  calls (W f_law25_small 0 [x0]) 1 fun x2 =>
  (O.not x2).bind fun x3 =>
  (cnd x3 (some (.bool true)) (
      calls (W f_law25_small 0 [x1]) 1 fun x4 =>
      (O.not x4).bind fun x5 =>
      some x5)).bind fun x4 =>
  (cnd x4 (some (.bool true)) (
      (O.proj 0 x0).bind fun x5 =>
      (O.ne x5 (.int 0)).bind fun x6 =>
      some x6)).bind fun x5 =>
  (cnd x5 (some (.bool true)) (
      (O.proj 0 x1).bind fun x6 =>
      (O.ne x6 (.int 0)).bind fun x7 =>
      some x7)).bind fun x6 =>
  cnd x6 (
    calls (W f_law25_lives 0 []) 1 fun x7 =>
    some [x7]) (
    calls (W f_rlog_Last 0 [x0]) 2 fun x7 x8 =>
    W f_law25_RlogRepairs 1 [x7, (.int 0), x0, x1]) := V_is rfl (by kernel_rfl)
theorem e_f_law25_RlogRepairs_1 (x0 x1 x2 x3 : IV) : W f_law25_RlogRepairs 1 [x0, x1, x2, x3] =
  (O.le x1 (.int 60)).bind fun x4 =>
  cnd x4 (
    calls (W f_rlog_TermAt 0 [x2, x0]) 2 fun x5 x6 =>
    (O.add .i64 x0 (.int 1)).bind fun x7 =>
    calls (W f_rlog_From 0 [x2, x7, (.int 100)]) 2 fun x8 x9 =>
    calls (W f_rlog_Append 0 [x3, x0, x5, x8]) 5 fun x10 x11 x12 x13 x14 =>
    cnd x14 (
      (O.proj 2 x2).bind fun x15 =>
      (O.len x15).bind fun x16 =>
      (O.ne x13 x16).bind fun x17 =>
      (cnd x17 (some (.bool true)) (
          (O.len x12).bind fun x18 =>
          (O.lt x18 x13).bind fun x19 =>
          some x19)).bind fun x18 =>
      cnd x18 (
        some [(.bool false)]) (
        (O.sub .i64 x0 (.int 1)).bind fun x19 =>
        (O.max (.int 0) x19).bind fun x20 =>
        W f_law25_RlogRepairs 2 [x13, x20, x2, x10, x11, x12])) (
      (O.lt x13 (.int 0)).bind fun x15 =>
      (cnd x15 (some (.bool true)) (
          (O.ge x13 x0).bind fun x16 =>
          some x16)).bind fun x16 =>
      (cnd x16 (some (.bool true)) (
          (O.mkagg [x10, x11, x12]).bind fun x17 =>
          calls (W f_ref25_Same 0 [x17, x3]) 1 fun x18 =>
          (O.not x18).bind fun x19 =>
          some x19)).bind fun x17 =>
      cnd x17 (
        some [(.bool false)]) (
        (O.add .i64 x1 (.int 1)).bind fun x18 =>
        W f_law25_RlogRepairs 1 [x13, x18, x2, x3]))) (
    some [(.bool false)]) := V_is rfl (by kernel_rfl)
theorem e_f_law25_RlogRepairs_2 (x0 x1 x2 x3 x4 x5 : IV) : W f_law25_RlogRepairs 2 [x0, x1, x2, x3, x4, x5] =
  (O.lt x1 x0).bind fun x6 =>
  cnd x6 (
    (O.index x5 x1).bind fun x7 =>
    (O.proj 0 x7).bind fun x8 =>
    (O.proj 2 x2).bind fun x9 =>
    (O.index x9 x1).bind fun x10 =>
    (O.proj 0 x10).bind fun x11 =>
    (O.ne x8 x11).bind fun x12 =>
    cnd x12 (
      some [(.bool false)]) (
      (O.add .i64 x1 (.int 1)).bind fun x13 =>
      W f_law25_RlogRepairs 2 [x0, x13, x2, x3, x4, x5])) (
    calls (W f_law25_lives 0 []) 1 fun x7 =>
    some [x7]) := V_is rfl (by kernel_rfl)
theorem e_f_law25_small_0 (x0 : IV) : W f_law25_small 0 [x0] =
  (O.proj 2 x0).bind fun x1 =>
  (O.len x1).bind fun x2 =>
  (O.le x2 (.int 60)).bind fun x3 =>
  (cnd x3 (
      calls (W f_ref25_Valid 0 [x0]) 1 fun x4 =>
      some x4) (some (.bool false))).bind fun x4 =>
  some [x4] := V_is rfl (by kernel_rfl)
theorem e_f_law25_RlogReads_0 (x0 x1 x2 x3 : IV) : W f_law25_RlogReads 0 [x0, x1, x2, x3] =
  calls (W f_rlog_Valid 0 [x0]) 1 fun x4 =>
  calls (W f_ref25_Valid 0 [x0]) 1 fun x5 =>
  (O.bNe x4 x5).bind fun x6 =>
  (cnd x6 (some (.bool true)) (
      calls (W f_rlog_New 0 []) 3 fun x7 x8 x9 =>
      (O.mkagg [x7, x8, x9]).bind fun x10 =>
      (O.mkagg [(.int 0), (.int 0), (.list [])]).bind fun x11 =>
      calls (W f_ref25_Same 0 [x10, x11]) 1 fun x12 =>
      (O.not x12).bind fun x13 =>
      some x13)).bind fun x7 =>
  (cnd x7 (some (.bool true)) (
      (O.proj 1 x0).bind fun x8 =>
      (O.proj 0 x0).bind fun x9 =>
      calls (W f_rlog_Newer 0 [x3, x1, x8, x9]) 1 fun x10 =>
      calls (W f_ref25_Newer 0 [x3, x1, x8, x9]) 1 fun x11 =>
      (O.bNe x10 x11).bind fun x12 =>
      some x12)).bind fun x8 =>
  cnd x8 (
    some [(.bool false)]) (
    calls (W f_ref25_Valid 0 [x0]) 1 fun x9 =>
    (O.not x9).bind fun x10 =>
    cnd x10 (
      calls (W f_law25_lives 0 []) 1 fun x11 =>
      some [x11]) (
      calls (W f_rlog_Last 0 [x0]) 2 fun x11 x12 =>
      calls (W f_ref25_Last 0 [x0]) 2 fun x13 x14 =>
      calls (W f_rlog_TermAt 0 [x0, x1]) 2 fun x15 x16 =>
      calls (W f_ref25_TermAt 0 [x0, x1]) 2 fun x17 x18 =>
      calls (W f_rlog_From 0 [x0, x1, x2]) 2 fun x19 x20 =>
      calls (W f_ref25_From 0 [x0, x1, x2]) 2 fun x21 x22 =>
      calls (W f_law25_lives 0 []) 1 fun x23 =>
      (cnd x23 (
          (O.eq x11 x13).bind fun x24 =>
          some x24) (some (.bool false))).bind fun x24 =>
      (cnd x24 (
          (O.eq x12 x14).bind fun x25 =>
          some x25) (some (.bool false))).bind fun x25 =>
      (cnd x25 (
          (O.eq x15 x17).bind fun x26 =>
          some x26) (some (.bool false))).bind fun x26 =>
      (cnd x26 (
          (O.bEq x16 x18).bind fun x27 =>
          some x27) (some (.bool false))).bind fun x27 =>
      (cnd x27 (
          calls (W f_ref25_Entries 0 [x19, x21]) 1 fun x28 =>
          some x28) (some (.bool false))).bind fun x28 =>
      (cnd x28 (
          (O.bEq x20 x22).bind fun x29 =>
          some x29) (some (.bool false))).bind fun x29 =>
      some [x29])) := V_is rfl (by kernel_rfl)
theorem e_f_rlog_Newer_0 (x0 x1 x2 x3 : IV) : W f_rlog_Newer 0 [x0, x1, x2, x3] =
  (O.gt x0 x2).bind fun x4 =>
  (cnd x4 (some (.bool true)) (
      (O.eq x0 x2).bind fun x5 =>
      (cnd x5 (
          (O.ge x1 x3).bind fun x6 =>
          some x6) (some (.bool false))).bind fun x6 =>
      some x6)).bind fun x5 =>
  some [x5] := V_is rfl (by kernel_rfl)
theorem e_f_ref25_Newer_0 (x0 x1 x2 x3 : IV) : W f_ref25_Newer 0 [x0, x1, x2, x3] =
  (O.gt x0 x2).bind fun x4 =>
  (cnd x4 (some (.bool true)) (
      (O.eq x0 x2).bind fun x5 =>
      (cnd x5 (
          (O.ge x1 x3).bind fun x6 =>
          some x6) (some (.bool false))).bind fun x6 =>
      some x6)).bind fun x5 =>
  some [x5] := V_is rfl (by kernel_rfl)
theorem e_f_ref25_Last_0 (x0 : IV) : W f_ref25_Last 0 [x0] =
  (O.proj 2 x0).bind fun x1 =>
  (O.len x1).bind fun x2 =>
  (O.eq x2 (.int 0)).bind fun x3 =>
  cnd x3 (
    (O.proj 0 x0).bind fun x4 =>
    (O.proj 1 x0).bind fun x5 =>
    some [x4, x5]) (
    (O.proj 0 x0).bind fun x4 =>
    (O.add .i64 x4 x2).bind fun x5 =>
    (O.sub .i64 x2 (.int 1)).bind fun x6 =>
    (O.index x1 x6).bind fun x7 =>
    (O.proj 0 x7).bind fun x8 =>
    some [x5, x8]) := V_is rfl (by kernel_rfl)
theorem e_f_ref25_From_0 (x0 x1 x2 : IV) : W f_ref25_From 0 [x0, x1, x2] =
  (O.proj 0 x0).bind fun x3 =>
  (O.le x1 x3).bind fun x4 =>
  (cnd x4 (some (.bool true)) (
      (O.proj 2 x0).bind fun x5 =>
      (O.len x5).bind fun x6 =>
      (O.add .i64 x3 x6).bind fun x7 =>
      (O.add .i64 x7 (.int 1)).bind fun x8 =>
      (O.gt x1 x8).bind fun x9 =>
      some x9)).bind fun x5 =>
  cnd x5 (
    some [(.list []), (.bool false)]) (
    (O.sub .i64 x1 x3).bind fun x6 =>
    (O.sub .i64 x6 (.int 1)).bind fun x7 =>
    (O.max (.int 0) x2).bind fun x8 =>
    (O.proj 2 x0).bind fun x9 =>
    (O.len x9).bind fun x10 =>
    (O.sub .i64 x10 x7).bind fun x11 =>
    (O.min x8 x11).bind fun x12 =>
    (O.add .i64 x7 x12).bind fun x13 =>
    (O.slice x9 x7 x13).bind fun x14 =>
    some [x14, (.bool true)]) := V_is rfl (by kernel_rfl)
theorem mixed : Try.prog.follows .mixedOrders = true := by kernel_rfl
theorem numbers : numbersOk specs = true := by kernel_rfl
theorem pr_ok : ∀ i s f, (i, s) ∈ specs → pr i = some f → PrimOk Try.prog f s := by
  intro i s f hm hp
  have hs := lookS_mem numbers hm
  unfold pr at hp
  split at hp
  · injection hp with hp; subst hp; have he := hs.symm.trans (show lookS 8 specs = some ⟨59, [.data 22], [.cells 22 [true]], false⟩ by kernel_rfl); injection he with he; subst he
    exact clone_ok mixed (e := 40) (fn := fnAt Try.prog 59) (root := rootAt Try.prog 59) (rest := restAt Try.prog 59) ⟨by kernel_rfl, by kernel_rfl, by kernel_rfl, by kernel_rfl, by kernel_rfl, of_decide_eq_true (by kernel_rfl), by kernel_rfl, by kernel_rfl, by kernel_rfl, by kernel_rfl, 24, by kernel_rfl, of_decide_eq_true (by kernel_rfl)⟩
  · cases hp
theorem soundW : ∀ k, Sound Try.prog specs (run (tab Try.prog specs blks 3000) pr k) := sound_tab mixed numbers (by kernel_rfl) pr_ok
end Go.CT.Rlog
