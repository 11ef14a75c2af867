/- PredictRows: a row has K tokens at most, and none behind an End; kinds that are in order are its bytes: the law returns true for all arguments. No conditions. -/
import Derived.Test.YtgbpioccaenjaaaWg
import Derived.Test.YtgbpioccaenjaaaArgs
import Derived.Test.YtgbpioccaenjaaaOk
set_option linter.unusedSimpArgs false
set_option linter.unusedVariables false
namespace Go.Proofs.Ytgbpioccaenjaaa.predictRows
open Go Go.Hm Go.ChangeShapes Go.WideShapes Go.ChangeAt Go.RowKit

set_option maxRecDepth 100000 in
theorem on_law (l : List AV) (hl : ArgsC Try.prog 8 [3, 37] l) : ∃ lk lim H', C lk lim 5 l [] = some (.val (.bool true), H') := by
  obtain ⟨a0, a1, rfl, h0, h1⟩ := args2 hl
  obtain ⟨n0, rfl, b0⟩ := arg_int h0
  obtain ⟨l1, rfl⟩ := arg_ints h1
  exact ⟨0, 0, [], rows_code n0 l1⟩

set_option maxRecDepth 100000 in
theorem lifted (os : Os) (started : os.Started) (H : Type) (enc : TypeId × Value → H) :
    ReturnsInHanded {} Try.checked os 5 .any (Rows.predictRowsSpec.pre6 enc Try.prog Try.f5 Rows.predictRowsRow.domain false) (Rows.predictRowsSpec.post enc Try.prog Try.f5 false true false false) := by
  refine returnsInHanded_of_change (C := Try.checked) own started (by kernel_rfl) Try.func5
    (ChangeSpec.witness6 (enc := enc) (C := Try.checked) false ⟨#[], #[.int .i64 0, .slice none 0 0], []⟩ 8 (by kernel_rfl) (by kernel_rfl) (by kernel_rfl) (by kernel_rfl)) ?_
  intro W base args ds gs before hval hW _ _
  exact law_contract (d := 8) (tb := 4) orcOk (by decide) laidOut (by kernel_rfl) rfl Try.underlying4 rfl (by kernel_rfl)
    (fun ds hl => match ds, hl with | [_, _], _ => rfl) (fun l hl => on_law l hl) hval hW

theorem holds : Rows.PredictRowsSaid :=
  OpenClaim.holds_of_wide 5 Try.f5 rfl rfl rfl rfl rfl rfl rfl ⟨rfl, rfl, rfl, rfl, rfl⟩ rfl rfl rfl rfl rfl (by kernel_rfl) Try.func5 (by kernel_rfl)
    (of_decide_eq_true (by kernel_rfl)) (by unfold Func.isWrapper; first | (rw [if_pos (by decide +kernel)]; kernel_rfl) | (rw [if_neg (by decide +kernel)]; exact ⟨rfl, rfl⟩))
    (fun os started H enc _ => lifted os started H enc)
end Go.Proofs.Ytgbpioccaenjaaa.predictRows
#print axioms Go.Proofs.Ytgbpioccaenjaaa.predictRows.holds
