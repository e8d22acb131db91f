import Derived.Test.YtcamikkadiiobaaMembG
set_option linter.unusedVariables false
set_option linter.unusedSimpArgs false
namespace Go.Proofs.Ytcamikkadiiobaa
open Go.ChangeShapes Go.WideShapes Go.ChangeAt Go.RowKit Go.CT Go.CT.Memb
set_option linter.unusedVariables false
namespace memberSays
theorem spec_ok (H : Type) (ds : List (DataW H)) (h : ds.length = 2) : (Rows.memberSaysSpec.fn H ds).results = [.lit (.bool true)] ∧ (Rows.memberSaysSpec.fn H ds).args = ds ∧ (Rows.memberSaysSpec.fn H ds).vars = [] := by
  match ds, h with
  | [d0, d1], _ => exact ⟨rfl, rfl, rfl⟩
theorem d1 : dataTs Try.prog [63, 3, 64, 76, 5, 74, 4, 22, 40, 9] = true := by kernel_rfl
theorem d2 : Try.prog.underlying 4 = some .bool := by kernel_rfl
theorem d3 : Try.f10.body.isSome = true := by kernel_rfl
theorem d4 : (Try.f10.name == "runtime.NumGoroutine") = false := by kernel_rfl
theorem d5 : Try.f10.params.toList = [63, 64] := by kernel_rfl
theorem d6 : Try.f10.resultTypes = #[4] := by kernel_rfl
theorem d7 : lookS 0 specs = some ⟨10, ([63, 64] : List Nat).map PS.data, [.whole 4], false⟩ := by kernel_rfl
set_option maxRecDepth 100000 in
theorem ct (hV : ∀ xs, WTs Try.prog [63, 64] xs → IV.bulks xs ≤ 1048576 → W f_law26_MemberSays 0 xs = some [.bool true]) (H : Type) (enc : TypeId × Value → H) (W : World) (base : Nat) (args : Array Value) (ds gs : List (DataW H)) (before : List MemPlace)
    (hval : ∀ (j : Nat) t v, Try.f10.params[j]? = some t → args[j]? = some v → Value.okWide Try.prog W .any base t v)
    (hW : DataW.Whole enc Try.prog Try.f10.params.toList [] false W args.toList ds gs before) (hk : Rows.uptoBulkAll (ds ++ gs) ≤ 1048576) :
    Calls Try.prog 10 args W fun e W' => ∃ v, e = .returned v ∧ Rows.memberSaysSpec.post enc Try.prog Try.f10 false true false false W args v W' := by
  have hV' : ∀ xs, WTs Try.prog [63, 64] xs → IV.bulks xs ≤ 1048576 → V (tab Try.prog specs blks 3000) pr ⟨0, 0⟩ xs = some [.bool true] := hV
  have h8 := mem_of_lookS d7
  refine contract_of (TS := [63, 3, 64, 76, 5, 74, 4, 22, 40, 9]) (bks := Rows.uptoBulkAll) (s := Rows.memberSaysSpec) soundW h8 d2 Try.func10 d3 d4 d5 d6 laidOut d1 ?_ (bulky H) ?_ ?_ hV' W base args ds gs before ?_ ?_ ?_
  · decide
  · rfl
  · exact spec_ok H
  · exact hval
  · exact hW
  · exact hk
set_option maxRecDepth 100000 in
theorem lifted (hV : ∀ xs, WTs Try.prog [63, 64] xs → IV.bulks xs ≤ 1048576 → W f_law26_MemberSays 0 xs = some [.bool true]) (os : Os) (started : os.Started) (H : Type) (enc : TypeId × Value → H) (F : Stop.Interp) :
    ReturnsInHanded {} Try.checked os 10 .any ((Rows.OpenSpec.upto Rows.memberSaysSpec).pre6 enc Try.prog Try.f10 Rows.memberSaysUptoRow.domain false) (((Rows.OpenSpec.upto Rows.memberSaysSpec).at F).post enc Try.prog Try.f10 false true false false) := by
  refine returnsInHanded_of_cond (C := Try.checked) (s := Rows.OpenSpec.upto Rows.memberSaysSpec) (k := Rows.uptoSmall) rfl own started (by kernel_rfl) Try.func10
      (OpenSpec.witness (enc := enc) (C := Try.checked) (s := Rows.OpenSpec.upto Rows.memberSaysSpec) (k := Rows.uptoSmall) rfl false ⟨#[], #[.agg #[.int .i64 0, .int .i64 0, .int .i64 0], .slice none 0 0], []⟩ 8 (by kernel_rfl) (by kernel_rfl) (by kernel_rfl)
        (x := ([.agg [.lit (.int .i64 0), .lit (.int .i64 0), .lit (.int .i64 0)], .nil], [], [])) (by kernel_rfl) rfl (by kernel_rfl)) ?_
  intro W base args ds gs before hval hW _ hk _
  exact ct hV H enc W base args ds gs before hval hW (small hk)
set_option maxHeartbeats 4000000 in
/-- What the law's statement asks of its program. -/
theorem holds_of (hV : ∀ xs, WTs Try.prog [63, 64] xs → IV.bulks xs ≤ 1048576 → W f_law26_MemberSays 0 xs = some [.bool true]) : Rows.MemberSaysUptoSaid :=
  OpenClaim.holds_of_cond 10 Try.f10 rfl rfl rfl rfl rfl rfl rfl ⟨rfl, rfl, rfl, rfl, rfl⟩ rfl rfl rfl rfl rfl (by as_aux_lemma => kernel_rfl) Try.func10 (by as_aux_lemma => kernel_rfl)
    (of_decide_eq_true (by as_aux_lemma => kernel_rfl)) (by unfold Func.isWrapper; first | (rw [if_pos (by decide +kernel)]; kernel_rfl) | (rw [if_neg (by decide +kernel)]; exact ⟨rfl, rfl⟩))
    (fun os started H enc _ F => lifted hV os started H enc F)
end memberSays
end Go.Proofs.Ytcamikkadiiobaa
