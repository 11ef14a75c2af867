/- PredictAccepts: a grammar is accepted just if it may be, is reduced, has no left recursion and no conflict: the law returns true for all arguments. No conditions. -/
import Derived.Test.YtgbpioccaenjaaaWf
import Derived.Test.YtgbpioccaenjaaaArgs
import Derived.Test.YtgbpioccaenjaaaOk
set_option linter.unusedSimpArgs false
set_option linter.unusedVariables false
namespace Go.Proofs.Ytgbpioccaenjaaa.predictAccepts
open Go Go.Hm Go.ChangeShapes Go.WideShapes Go.ChangeAt Go.RowKit

set_option maxRecDepth 100000 in
theorem on_law (l : List AV) (hl : ArgsC Try.prog 8 [24] l) : ∃ lk lim H', C lk lim 6 l [] = some (.val (.bool true), H') := by
 obtain ⟨a0, rfl, h0⟩ := args1 hl
 obtain ⟨g0, rfl⟩ := arg_gram h0
 exact ⟨0, 0, [], accepts_code g0⟩

set_option maxRecDepth 100000 in
theorem lifted (os : Os) (started : os.Started) (H : Type) (enc : TypeId × Value → H) :
  ReturnsInHanded {} Try.checked os 6 .any (Rows.predictAcceptsSpec.pre6 enc Try.prog Try.f6 Rows.predictAcceptsRow.domain false) (Rows.predictAcceptsSpec.post enc Try.prog Try.f6 false true false false) := by
 refine returnsInHanded_of_change (C := Try.checked) own started (by kernel_rfl) Try.func6
  (ChangeSpec.witness6 (enc := enc) (C := Try.checked) false ⟨#[], #[.agg #[.int .i64 0, .int .i64 0, .int .i64 0, .slice none 0 0]], []⟩ 8 (by kernel_rfl) (by kernel_rfl) (by kernel_rfl) (by kernel_rfl)) ?_
 intro W base args ds gs before hval hW _ _
 exact law_contract (d := 8) (tb := 4) orcOk (by decide) laidOut (by kernel_rfl) rfl Try.underlying4 rfl (by kernel_rfl)
  (fun ds hl => match ds, hl with | [_], _ => rfl) (fun l hl => on_law l hl) hval hW

theorem holds : Rows.PredictAcceptsSaid :=
 OpenClaim.holds_of_wide 6 Try.f6 rfl rfl rfl rfl rfl rfl rfl ⟨rfl, rfl, rfl, rfl, rfl⟩ rfl rfl rfl rfl rfl (by kernel_rfl) Try.func6 (by kernel_rfl)
  (of_decide_eq_true (by kernel_rfl)) (by unfold Func.isWrapper; first | (rw [if_pos (by decide +kernel)]; kernel_rfl) | (rw [if_neg (by decide +kernel)]; exact ⟨rfl, rfl⟩))
  (fun os started H enc _ => lifted os started H enc)
end Go.Proofs.Ytgbpioccaenjaaa.predictAccepts
#print axioms Go.Proofs.Ytgbpioccaenjaaa.predictAccepts.holds
