/- PredictOne: of a strong grammar no row is predicted by two productions of a nonterminal; of another one the row of the conflict is, and by both: the law returns true for all arguments. No conditions. -/
import Derived.Test.YtgbpioccaenjaaaGX
import Derived.Test.YtgbpioccaenjaaaArgs
import Derived.Test.YtgbpioccaenjaaaOk
set_option linter.unusedSimpArgs false
set_option linter.unusedVariables false
namespace Go.Proofs.Ytgbpioccaenjaaa.predictOne
open Go Go.Hm Go.ChangeShapes Go.WideShapes Go.ChangeAt Go.RowKit

set_option maxRecDepth 100000 in
theorem on_law (l : List AV) (hl : ArgsC Try.prog 8 [24, 9] l) : ∃ lk lim H', C lk lim 3 l [] = some (.val (.bool true), H') := by
 obtain ⟨a0, a1, rfl, h0, h1⟩ := args2 hl
 obtain ⟨g0, rfl⟩ := arg_gram h0
 obtain ⟨s1, rfl⟩ := arg_str h1
 exact ⟨0, 0, [], one_code g0 s1⟩

set_option maxRecDepth 100000 in
theorem lifted (os : Os) (started : os.Started) (H : Type) (enc : TypeId × Value → H) :
  ReturnsInHanded {} Try.checked os 3 .any (Rows.predictOneSpec.pre6 enc Try.prog Try.f3 Rows.predictOneRow.domain false) (Rows.predictOneSpec.post enc Try.prog Try.f3 false true false false) := by
 refine returnsInHanded_of_change (C := Try.checked) own started (by kernel_rfl) Try.func3
  (ChangeSpec.witness6 (enc := enc) (C := Try.checked) false ⟨#[], #[.agg #[.int .i64 0, .int .i64 0, .int .i64 0, .slice none 0 0], .string ⟨#[]⟩], []⟩ 8 (by kernel_rfl) (by kernel_rfl) (by kernel_rfl) (by kernel_rfl)) ?_
 intro W base args ds gs before hval hW _ _
 exact law_contract (d := 8) (tb := 4) orcOk (by decide) laidOut (by kernel_rfl) rfl Try.underlying4 rfl (by kernel_rfl)
  (fun ds hl => match ds, hl with | [_, _], _ => rfl) (fun l hl => on_law l hl) hval hW

theorem holds : Rows.PredictOneSaid :=
 OpenClaim.holds_of_wide 3 Try.f3 rfl rfl rfl rfl rfl rfl rfl ⟨rfl, rfl, rfl, rfl, rfl⟩ rfl rfl rfl rfl rfl (by kernel_rfl) Try.func3 (by kernel_rfl)
  (of_decide_eq_true (by kernel_rfl)) (by unfold Func.isWrapper; first | (rw [if_pos (by decide +kernel)]; kernel_rfl) | (rw [if_neg (by decide +kernel)]; exact ⟨rfl, rfl⟩))
  (fun os started H enc _ => lifted os started H enc)
end Go.Proofs.Ytgbpioccaenjaaa.predictOne
#print axioms Go.Proofs.Ytgbpioccaenjaaa.predictOne.holds
