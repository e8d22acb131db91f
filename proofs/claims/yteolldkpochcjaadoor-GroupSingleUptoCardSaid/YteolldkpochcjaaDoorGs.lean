import Derived.Test.YteolldkpochcjaaDoorCtD
import Derived.Test.YteolldkpochcjaaDoorTab
import Derived.WalkKit
import Derived.ProofKit
import Derived.OpenShut
import Derived.JoinedCond
import Derived.Test.YteolldkpochcjaaDoorCards
import Derived.Test.YteolldkpochcjaaDoorTie
import Derived.Deep.DeepHandedRow
import Derived.Lib.LaidTab
import Derived.Test.YteolldkpochcjaaDoorGsPrA
/- A group of one member commits what is proposed as soon as it is the leader: the statement GroupSingleUptoCardSaid, with no condition of its own. -/
set_option linter.unusedVariables false
set_option linter.unusedSimpArgs false
namespace Go.Proofs.YteolldkpochcjaaDoor
open Go.ChangeShapes Go.WideShapes Go.ChangeAt Go.RowKit Go.CT Go.CT.Memb
set_option linter.unusedVariables false
def tabCells (d : DataW Unit) : Array Value := match d with | .agg l => (l.flatMap fun | .lit (.int k n) => [Value.int k n] | .agg m => m.map (fun | .lit (.int k n) => Value.int k n | _ => undef) | _ => [undef]).toArray | _ => #[]
noncomputable def laidWorld (os : Os) : World :=
 { World.holding Tryd.prog os ⟨#[], #[], []⟩ with heap := (((World.holding Tryd.prog os ⟨#[], #[], []⟩).heap).modify 1 (fun | .cells _ t frozen => .cells (tabCells Rows.laid_unicode_utf8_acceptRanges) t frozen | o => o)).modify 0 (fun | .cells _ t frozen => .cells (tabCells Rows.laid_unicode_utf8_first) t frozen | o => o) }
theorem own : ownKnob Tryd.prog.godebug = none := by kernel_rfl
theorem laidOut : laidOutB Tryd.prog = true := by kernel_rfl
theorem one_le {H : Type} (d : DataW H) : 1 ≤ Rows.uptoBulk d := by
 cases d with
 | lit l => cases l <;> simp [Rows.uptoBulk]
 | nil => simp [Rows.uptoBulk]
 | ptr d => simp [Rows.uptoBulk]
 | slice elems spare => simp [Rows.uptoBulk]
 | agg parts => simp [Rows.uptoBulk]
 | iface t d => simp [Rows.uptoBulk]
 | map entries => simp [Rows.uptoBulk]
 | held h => simp [Rows.uptoBulk]
theorem bulky (H : Type) : Bulky (H := H) Rows.uptoBulk Rows.uptoBulkAll :=
 ⟨rfl, fun _ _ => rfl, one_le, fun s => by simp [Rows.uptoBulk], fun es sp => by simp only [Rows.uptoBulk]; omega, fun ps => by simp [Rows.uptoBulk]⟩
theorem small {H : Type} {ds : List (DataW H)} (h : Rows.uptoSmall H ds = true) : Rows.uptoBulkAll ds ≤ 1048576 := of_decide_eq_true h
theorem andT {a b : Bool} (ha : a = true) (hb : b = true) : (a && b) = true := by rw [ha, hb]; rfl
theorem gMaps : mapsRowed Tryd.prog = true := by kernel_rfl
theorem gStops : (Tryd.prog.stops == []) = true := by kernel_rfl
theorem gKnobs : (Tryd.prog.stopKnobs == []) = true := by kernel_rfl
theorem gKeys : (Rows.groupSingleUptoRow.plainKeys == Tryd.prog.plainKeys) = true := by kernel_rfl
theorem gHeard : Tryd.prog.stopsHeard = true := by kernel_rfl
theorem gEnter : Tryd.prog.mayEnter = true := by kernel_rfl
theorem gLift : (Rows.groupSingleUptoRow.lifted == Tryd.prog.liftsFinal) = true := by kernel_rfl
theorem gMake : (Tryd.prog.make == some Rows.groupSingleUptoRow.make) = true := by kernel_rfl
end Go.Proofs.YteolldkpochcjaaDoor
namespace Go.Proofs.YteolldkpochcjaaDoor
open Go.ChangeShapes Go.WideShapes Go.ChangeAt Go.RowKit Go.CT Go.CT.Memb
set_option linter.unusedVariables false
namespace groupSingle
theorem spec_ok (H : Type) (ds : List (DataW H)) (h : ds.length = 1) : (Rows.groupSingleSpec.fn H ds).results = [.lit (.bool true)] ∧ (Rows.groupSingleSpec.fn H ds).args = ds ∧ (Rows.groupSingleSpec.fn H ds).vars = [] := by
 match ds, h with
 | [d0], _ => exact ⟨rfl, rfl, rfl⟩
theorem d1 : dataTs Tryd.prog [31, 9] = true := by kernel_rfl
theorem d2 : Tryd.prog.underlying 4 = some .bool := by kernel_rfl
theorem d3 : Tryd.f4.body.isSome = true := by kernel_rfl
theorem d4 : (Tryd.f4.name == "runtime.NumGoroutine") = false := by kernel_rfl
theorem d5 : Tryd.f4.params.toList = [31] := by kernel_rfl
theorem d6 : Tryd.f4.resultTypes = #[4] := by kernel_rfl
theorem d7 : lookS 0 specs = some ⟨4, ([31] : List Nat).map PS.data, [.whole 4], false⟩ := by kernel_rfl
set_option maxRecDepth 100000 in
theorem ct (hV : ∀ xs, WTs Tryd.prog [31] xs → IV.bulks xs ≤ 1048576 → W f_law27_GroupSingle 0 xs = some [.bool true]) (H : Type) (enc : TypeId × Value → H) (W : World) (base : Nat) (args : Array Value) (ds gs : List (DataW H)) (before : List MemPlace)
  (hval : ∀ (j : Nat) t v, Tryd.f4.params[j]? = some t → args[j]? = some v → Value.okWide Tryd.prog W .any base t v)
  (hW : DataW.Whole enc Tryd.prog Tryd.f4.params.toList [] false W args.toList ds gs before) (hk : Rows.uptoBulkAll (ds ++ gs) ≤ 1048576) :
  Calls Tryd.prog 4 args W fun e W' => ∃ v, e = .returned v ∧ Rows.groupSingleSpec.post enc Tryd.prog Tryd.f4 false true false false W args v W' := by
 have hV' : ∀ xs, WTs Tryd.prog [31] xs → IV.bulks xs ≤ 1048576 → V (tab Tryd.prog specs blks 3000) pr ⟨0, 0⟩ xs = some [.bool true] := hV
 have h8 := mem_of_lookS d7
 refine contract_of (TS := [31, 9]) (bks := Rows.uptoBulkAll) (s := Rows.groupSingleSpec) soundW h8 d2 Tryd.func4 d3 d4 d5 d6 laidOut d1 ?_ (bulky H) ?_ ?_ hV' W base args ds gs before ?_ ?_ ?_
 ·decide
 ·rfl
 ·exact spec_ok H
 ·exact hval
 ·exact hW
 ·exact hk
theorem laid_met (os : Os) : laidMet Tryd.prog Rows.groupSingleUptoRow.laid ((laidWorld os).forCall (fun _ _ => 0) ⟨#[], #[.slice none 0 0], []⟩).memory :=
 laidMet_of_run' 8 (by kernel_rfl) (by kernel_rfl)
theorem reads (os : Os) {H : Type} (enc : TypeId × Value → H) : ∃ places, DataW.whole enc Tryd.prog ((laidWorld os).forCall (fun _ _ => 0) ⟨#[], #[.slice none 0 0], []⟩).memory Tryd.f4.params.toList Rows.groupSingleSpec.vars false (#[.slice none 0 0] : Array Value).toList 8 = some ([.nil], [], places) :=
 ⟨[], by kernel_rfl⟩
set_option maxRecDepth 100000 in
theorem lifted (hV : ∀ xs, WTs Tryd.prog [31] xs → IV.bulks xs ≤ 1048576 → W f_law27_GroupSingle 0 xs = some [.bool true]) (os : Os) (started : os.Started) (H : Type) (enc : TypeId × Value → H) (F : Stop.Interp) :
  ReturnsInHanded {} Tryd.checked os 4 .any ((Rows.OpenSpec.upto Rows.groupSingleSpec).preRow enc Tryd.prog Tryd.f4 Rows.groupSingleUptoRow.domain false Rows.groupSingleUptoRow.laid) (((Rows.OpenSpec.upto Rows.groupSingleSpec).at F).post enc Tryd.prog Tryd.f4 false true false false) := by
 obtain ⟨places, hx⟩ := reads os enc
 refine returnsInHanded_of_row (C := Tryd.checked) (s := Rows.OpenSpec.upto Rows.groupSingleSpec) own started (by kernel_rfl) Tryd.func4
  (witness_row_at (enc := enc) (C := Tryd.checked) false (laidWorld os) #[.slice none 0 0] rfl (by kernel_rfl) (by kernel_rfl) (by kernel_rfl)
   (OpenSpec.preRow_of_cond 8 hx (by kernel_rfl) (fun k hk => by cases hk; kernel_rfl) (by kernel_rfl) (laid_met os))) ?_
 intro W base args ds gs before hval hW _ hcond _ hL _ _
 exact ct hV H enc W base args ds gs before hval hW (small (hcond _ rfl))
set_option maxHeartbeats 4000000 in
theorem closed : joinedFacts Tryd.prog 4 Tryd.f4 (Rows.OpenSpec.upto Rows.groupSingleSpec).bare Rows.groupSingleUptoRow = true := by
 unfold joinedFacts
 exact andT (andT (andT (andT (andT (andT (andT (andT (andT (andT (andT (andT (andT (andT (andT (andT (andT (andT (andT (andT (andT (andT (andT (andT (andT (andT (andT (andT (andT (andT (andT (by as_aux_lemma => kernel_rfl) laidOut) gMaps) (by as_aux_lemma => kernel_rfl)) (by as_aux_lemma => kernel_rfl)) (by as_aux_lemma => kernel_rfl)) gStops) (by as_aux_lemma => kernel_rfl)) gKnobs) (by as_aux_lemma => kernel_rfl)) (by as_aux_lemma => kernel_rfl)) (by as_aux_lemma => kernel_rfl)) (by as_aux_lemma => kernel_rfl)) (by as_aux_lemma => kernel_rfl)) (by as_aux_lemma => kernel_rfl)) (by as_aux_lemma => kernel_rfl)) (by as_aux_lemma => kernel_rfl)) (by as_aux_lemma => kernel_rfl)) (by as_aux_lemma => kernel_rfl)) (by as_aux_lemma => kernel_rfl)) (by as_aux_lemma => kernel_rfl)) (by as_aux_lemma => kernel_rfl)) gKeys) (by as_aux_lemma => kernel_rfl)) gHeard) gEnter) gLift) gMake) (by as_aux_lemma => kernel_rfl)) (by as_aux_lemma => kernel_rfl)) (by as_aux_lemma => kernel_rfl)) (by as_aux_lemma => kernel_rfl)
set_option maxHeartbeats 4000000 in
theorem holds_of (hV : ∀ xs, WTs Tryd.prog [31] xs → IV.bulks xs ≤ 1048576 → W f_law27_GroupSingle 0 xs = some [.bool true]) : Rows.GroupSingleUptoSaid :=
 OpenClaim.holds_of_cond 4 Tryd.f4 rfl rfl rfl rfl rfl rfl rfl ⟨rfl, rfl, rfl, rfl, rfl⟩ rfl rfl rfl rfl rfl (by as_aux_lemma => kernel_rfl) Tryd.func4 closed
  (of_decide_eq_true (by as_aux_lemma => kernel_rfl)) (by unfold Func.isWrapper; first | (rw [if_pos (by decide +kernel)]; kernel_rfl) | (rw [if_neg (by decide +kernel)]; exact ⟨rfl, rfl⟩))
  (fun os started H enc _ F => by rw [OpenClaim.pre_eq_preRow]; exact lifted hV os started H enc F)
set_option maxHeartbeats 4000000 in
theorem noStand : ([31] : List Nat).all (fun t => !(Tryd.prog.wantsStandIn t)) = true := by as_aux_lemma => kernel_rfl
set_option maxHeartbeats 4000000 in
theorem plain (f : FuncId) (fn : Func) (hf : Tryd.pinned.checked.prog.funcNamed "orchestrator/orchestratorlaw27.GroupSingle" = some f) (hfn : Tryd.pinned.checked.prog.funcs[f]? = some fn) :
  false = Tryd.pinned.checked.prog.looks [] ∧ ∀ (j : Nat) t, fn.params[j]? = some t → Tryd.pinned.checked.prog.wantsStandIn t = false := by
 obtain rfl : f = 4 := Option.some.inj ((show Tryd.prog.funcNamed "orchestrator/orchestratorlaw27.GroupSingle" = some 4 by as_aux_lemma => kernel_rfl).symm.trans hf) |>.symm
 obtain rfl : fn = Tryd.f4 := (Option.some.inj (Tryd.func4.symm.trans hfn)).symm
 refine ⟨by as_aux_lemma => kernel_rfl, fun j t ht => ?_⟩
 have hm : t ∈ Tryd.f4.params.toList := Array.mem_toList_iff.2 (Array.mem_of_getElem? ht)
 rw [d5] at hm
 have h := List.all_eq_true.1 noStand t hm
 have h' : Tryd.prog.wantsStandIn t = false := by simpa using h
 exact h'
set_option maxHeartbeats 4000000 in
theorem card_of (hV : ∀ xs, WTs Tryd.prog [31] xs → IV.bulks xs ≤ 1048576 → W f_law27_GroupSingle 0 xs = some [.bool true]) : Rows.GroupSingleUptoCardSaid :=
 Claim7.holds_tied_plain_at .later [] _ _ _ _ (holds_of hV) (fun _ h => by cases h) (by as_aux_lemma => kernel_rfl) (fun _ h => by cases h) groupSingleUpto_row_tie rfl ⟨rfl, rfl⟩ (by as_aux_lemma => kernel_rfl) rfl plain (by as_aux_lemma => kernel_rfl)
end groupSingle
end Go.Proofs.YteolldkpochcjaaDoor
namespace Go.Proofs.YteolldkpochcjaaDoor
open Go.CT Go.CT.Memb
theorem GroupSingle_upto : Rows.GroupSingleUptoCardSaid := groupSingle.card_of fun xs h _ => law xs h
end Go.Proofs.YteolldkpochcjaaDoor
