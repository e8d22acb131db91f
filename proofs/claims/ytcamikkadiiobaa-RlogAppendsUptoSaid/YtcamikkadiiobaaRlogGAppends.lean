import Derived.Test.YtcamikkadiiobaaRlogG
namespace Go.Proofs.Ytcamikkadiiobaa
open Go.ChangeShapes Go.WideShapes Go.ChangeAt Go.RowKit Go.CT Go.CT.Rlog
set_option linter.unusedVariables false
namespace rlogAppends
theorem spec_ok (H : Type) (ds : List (DataW H)) (h : ds.length = 4) : (Rows.rlogAppendsSpec.fn H ds).results = [.lit (.bool true)] ∧ (Rows.rlogAppendsSpec.fn H ds).args = ds ∧ (Rows.rlogAppendsSpec.fn H ds).vars = [] := by
  match ds, h with
  | [d0, d1, d2, d3], _ => exact ⟨rfl, rfl, rfl⟩
theorem d1 : dataTs Try.prog [24, 3, 22, 40, 9] = true := by kernel_rfl
theorem d2 : Try.prog.underlying 4 = some .bool := by kernel_rfl
theorem d3 : Try.f3.body.isSome = true := by kernel_rfl
theorem d4 : (Try.f3.name == "runtime.NumGoroutine") = false := by kernel_rfl
theorem d5 : Try.f3.params.toList = [24, 3, 3, 22] := by kernel_rfl
theorem d6 : Try.f3.resultTypes = #[4] := by kernel_rfl
theorem d7 : lookS 0 specs = some ⟨3, ([24, 3, 3, 22] : List Nat).map PS.data, [.whole 4], false⟩ := by kernel_rfl
set_option maxRecDepth 100000 in
theorem ct (hV : ∀ xs, WTs Try.prog [24, 3, 3, 22] xs → IV.bulks xs ≤ 1048576 → W f_law25_RlogAppends 0 xs = some [.bool true]) (H : Type) (enc : TypeId × Value → H) (W : World) (base : Nat) (args : Array Value) (ds gs : List (DataW H)) (before : List MemPlace)
    (hval : ∀ (j : Nat) t v, Try.f3.params[j]? = some t → args[j]? = some v → Value.okWide Try.prog W .any base t v)
    (hW : DataW.Whole enc Try.prog Try.f3.params.toList [] false W args.toList ds gs before) (hk : Rows.uptoBulkAll (ds ++ gs) ≤ 1048576) :
    Calls Try.prog 3 args W fun e W' => ∃ v, e = .returned v ∧ Rows.rlogAppendsSpec.post enc Try.prog Try.f3 false true false false W args v W' := by
  have hV' : ∀ xs, WTs Try.prog [24, 3, 3, 22] xs → IV.bulks xs ≤ 1048576 → V (tab Try.prog specs blks 3000) pr ⟨0, 0⟩ xs = some [.bool true] := hV
  have h8 := mem_of_lookS d7
  refine contract_of (TS := [24, 3, 22, 40, 9]) (bks := Rows.uptoBulkAll) (s := Rows.rlogAppendsSpec) soundW h8 d2 Try.func3 d3 d4 d5 d6 laidOut d1 ?_ (bulky H) ?_ ?_ hV' W base args ds gs before ?_ ?_ ?_
  · decide
  · rfl
  · exact spec_ok H
  · exact hval
  · exact hW
  · exact hk
set_option maxRecDepth 100000 in
theorem lifted (hV : ∀ xs, WTs Try.prog [24, 3, 3, 22] xs → IV.bulks xs ≤ 1048576 → W f_law25_RlogAppends 0 xs = some [.bool true]) (os : Os) (started : os.Started) (H : Type) (enc : TypeId × Value → H) (F : Stop.Interp) :
    ReturnsInHanded {} Try.checked os 3 .any ((Rows.OpenSpec.upto Rows.rlogAppendsSpec).pre6 enc Try.prog Try.f3 Rows.rlogAppendsUptoRow.domain false) (((Rows.OpenSpec.upto Rows.rlogAppendsSpec).at F).post enc Try.prog Try.f3 false true false false) := by
  refine returnsInHanded_of_cond (C := Try.checked) (s := Rows.OpenSpec.upto Rows.rlogAppendsSpec) (k := Rows.uptoSmall) rfl own started (by kernel_rfl) Try.func3
      (OpenSpec.witness (enc := enc) (C := Try.checked) (s := Rows.OpenSpec.upto Rows.rlogAppendsSpec) (k := Rows.uptoSmall) rfl false ⟨#[], #[.agg #[.int .i64 0, .int .i64 0, .slice none 0 0], .int .i64 0, .int .i64 0, .slice none 0 0], []⟩ 8 (by kernel_rfl) (by kernel_rfl) (by kernel_rfl)
        (x := ([.agg [.lit (.int .i64 0), .lit (.int .i64 0), .nil], .lit (.int .i64 0), .lit (.int .i64 0), .nil], [], [])) (by kernel_rfl) rfl (by kernel_rfl)) ?_
  intro W base args ds gs before hval hW _ hk _
  exact ct hV H enc W base args ds gs before hval hW (small hk)
/-- What the law's statement asks of its program. -/
theorem holds_of (hV : ∀ xs, WTs Try.prog [24, 3, 3, 22] xs → IV.bulks xs ≤ 1048576 → W f_law25_RlogAppends 0 xs = some [.bool true]) : Rows.RlogAppendsUptoSaid :=
  OpenClaim.holds_of_cond 3 Try.f3 rfl rfl rfl rfl rfl rfl rfl ⟨rfl, rfl, rfl, rfl, rfl⟩ rfl rfl rfl rfl rfl (by kernel_rfl) Try.func3 (by kernel_rfl)
    (of_decide_eq_true (by kernel_rfl)) (by unfold Func.isWrapper; first | (rw [if_pos (by decide +kernel)]; kernel_rfl) | (rw [if_neg (by decide +kernel)]; exact ⟨rfl, rfl⟩))
    (fun os started H enc _ F => lifted hV os started H enc F)
end rlogAppends
end Go.Proofs.Ytcamikkadiiobaa
