import Derived.Test.YtcamikkadiiobaaMembG
set_option linter.unusedVariables false
set_option linter.unusedSimpArgs false
namespace Go.Proofs.Ytcamikkadiiobaa
open Go.ChangeShapes Go.WideShapes Go.ChangeAt Go.RowKit Go.CT Go.CT.Memb
set_option linter.unusedVariables false
namespace memberElects
theorem spec_ok (H : Type) (ds : List (DataW H)) (h : ds.length = 3) : (Rows.memberElectsSpec.fn H ds).results = [.lit (.bool true)] ∧ (Rows.memberElectsSpec.fn H ds).args = ds ∧ (Rows.memberElectsSpec.fn H ds).vars = [] := by
  match ds, h with
  | [d0, d1, d2], _ => exact ⟨rfl, rfl, rfl⟩
theorem d1 : dataTs Try.prog [63, 3, 84, 4, 74, 22, 40, 9] = true := by kernel_rfl
theorem d2 : Try.prog.underlying 4 = some .bool := by kernel_rfl
theorem d3 : Try.f14.body.isSome = true := by kernel_rfl
theorem d4 : (Try.f14.name == "runtime.NumGoroutine") = false := by kernel_rfl
theorem d5 : Try.f14.params.toList = [63, 84, 74] := by kernel_rfl
theorem d6 : Try.f14.resultTypes = #[4] := by kernel_rfl
theorem d7 : lookS 95 specs = some ⟨14, ([63, 84, 74] : List Nat).map PS.data, [.whole 4], false⟩ := by kernel_rfl
set_option maxRecDepth 100000 in
theorem ct (hV : ∀ xs, WTs Try.prog [63, 84, 74] xs → IV.bulks xs ≤ 1048576 → W f_law26_MemberElects 0 xs = some [.bool true]) (H : Type) (enc : TypeId × Value → H) (W : World) (base : Nat) (args : Array Value) (ds gs : List (DataW H)) (before : List MemPlace)
    (hval : ∀ (j : Nat) t v, Try.f14.params[j]? = some t → args[j]? = some v → Value.okWide Try.prog W .any base t v)
    (hW : DataW.Whole enc Try.prog Try.f14.params.toList [] false W args.toList ds gs before) (hk : Rows.uptoBulkAll (ds ++ gs) ≤ 1048576) :
    Calls Try.prog 14 args W fun e W' => ∃ v, e = .returned v ∧ Rows.memberElectsSpec.post enc Try.prog Try.f14 false true false false W args v W' := by
  have hV' : ∀ xs, WTs Try.prog [63, 84, 74] xs → IV.bulks xs ≤ 1048576 → V (tab Try.prog specs blks 3000) pr ⟨95, 0⟩ xs = some [.bool true] := hV
  have h8 := mem_of_lookS d7
  refine contract_of (TS := [63, 3, 84, 4, 74, 22, 40, 9]) (bks := Rows.uptoBulkAll) (s := Rows.memberElectsSpec) soundW h8 d2 Try.func14 d3 d4 d5 d6 laidOut d1 ?_ (bulky H) ?_ ?_ hV' W base args ds gs before ?_ ?_ ?_
  · decide
  · rfl
  · exact spec_ok H
  · exact hval
  · exact hW
  · exact hk
set_option maxRecDepth 100000 in
theorem lifted (hV : ∀ xs, WTs Try.prog [63, 84, 74] xs → IV.bulks xs ≤ 1048576 → W f_law26_MemberElects 0 xs = some [.bool true]) (os : Os) (started : os.Started) (H : Type) (enc : TypeId × Value → H) (F : Stop.Interp) :
    ReturnsInHanded {} Try.checked os 14 .any ((Rows.OpenSpec.upto Rows.memberElectsSpec).pre6 enc Try.prog Try.f14 Rows.memberElectsUptoRow.domain false) (((Rows.OpenSpec.upto Rows.memberElectsSpec).at F).post enc Try.prog Try.f14 false true false false) := by
  refine returnsInHanded_of_cond (C := Try.checked) (s := Rows.OpenSpec.upto Rows.memberElectsSpec) (k := Rows.uptoSmall) rfl own started (by kernel_rfl) Try.func14
      (OpenSpec.witness (enc := enc) (C := Try.checked) (s := Rows.OpenSpec.upto Rows.memberElectsSpec) (k := Rows.uptoSmall) rfl false ⟨#[], #[.agg #[.int .i64 0, .int .i64 0, .int .i64 0], .slice none 0 0, .agg #[.int .i64 0, .int .i64 0, .int .i64 0, .int .i64 0, .int .i64 0, .int .i64 0, .int .i64 0, .bool false, .slice none 0 0, .string ⟨#[]⟩]], []⟩ 8 (by kernel_rfl) (by kernel_rfl) (by kernel_rfl)
        (x := ([.agg [.lit (.int .i64 0), .lit (.int .i64 0), .lit (.int .i64 0)], .nil, .agg [.lit (.int .i64 0), .lit (.int .i64 0), .lit (.int .i64 0), .lit (.int .i64 0), .lit (.int .i64 0), .lit (.int .i64 0), .lit (.int .i64 0), .lit (.bool false), .nil, .lit (.string [])]], [], [])) (by kernel_rfl) rfl (by kernel_rfl)) ?_
  intro W base args ds gs before hval hW _ hk _
  exact ct hV H enc W base args ds gs before hval hW (small hk)
set_option maxHeartbeats 4000000 in
/-- What the law's statement asks of its program. -/
theorem holds_of (hV : ∀ xs, WTs Try.prog [63, 84, 74] xs → IV.bulks xs ≤ 1048576 → W f_law26_MemberElects 0 xs = some [.bool true]) : Rows.MemberElectsUptoSaid :=
  OpenClaim.holds_of_cond 14 Try.f14 rfl rfl rfl rfl rfl rfl rfl ⟨rfl, rfl, rfl, rfl, rfl⟩ rfl rfl rfl rfl rfl (by as_aux_lemma => kernel_rfl) Try.func14 (by as_aux_lemma => kernel_rfl)
    (of_decide_eq_true (by as_aux_lemma => kernel_rfl)) (by unfold Func.isWrapper; first | (rw [if_pos (by decide +kernel)]; kernel_rfl) | (rw [if_neg (by decide +kernel)]; exact ⟨rfl, rfl⟩))
    (fun os started H enc _ F => lifted hV os started H enc F)
end memberElects
end Go.Proofs.Ytcamikkadiiobaa
