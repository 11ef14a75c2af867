/- FirstCalls: rows are joined, and the first ones told, as the document says: the law returns true for all arguments. No conditions. -/
import Derived.Test.YtpaocofhpdmjpaaNe
import Derived.Test.YtpaocofhpdmjpaaArg3
import Derived.Test.YtpaocofhpdmjpaaOk
set_option linter.unusedSimpArgs false
set_option linter.unusedVariables false
namespace Go.Proofs.Ytpaocofhpdmjpaa.firstCalls
open Go Go.Hm Go.ChangeShapes Go.WideShapes Go.ChangeAt Go.RowKit

set_option maxRecDepth 100000 in
theorem on_law (l : List AV) (hl : ArgsC Try.prog 8 [32, 22, 22, 39, 33, 3, 3] l) : ∃ lk lim H', C lk lim 9 l [] = some (.val (.bool true), H') := by
  obtain ⟨a0, a1, a2, a3, a4, a5, a6, rfl, h0, h1, h2, h3, h4, h5, h6⟩ := args7 hl
  obtain ⟨g0, rfl⟩ := arg_gram h0
  obtain ⟨l1, rfl, k1⟩ := arg_rows h1
  obtain ⟨l2, rfl, k2⟩ := arg_rows h2
  obtain ⟨l3, rfl, k3⟩ := arg_sets h3
  obtain ⟨l4, rfl⟩ := arg_ints h4
  obtain ⟨n5, rfl, b5⟩ := arg_int h5
  obtain ⟨n6, rfl, b6⟩ := arg_int h6
  exact ⟨0, 0, [], calls_code g0 l1 l2 l3 l4 n5 n6 k1 k2 k3 b5⟩

set_option maxRecDepth 100000 in
theorem lifted (os : Os) (started : os.Started) (H : Type) (enc : TypeId × Value → H) :
    ReturnsInHanded {} Try.checked os 9 .any (Rows.firstCallsSpec.pre6 enc Try.prog Try.f9 Rows.firstCallsRow.domain false) (Rows.firstCallsSpec.post enc Try.prog Try.f9 false true false false) := by
  refine returnsInHanded_of_change (C := Try.checked) own started (by kernel_rfl) Try.func9
    (ChangeSpec.witness6 (enc := enc) (C := Try.checked) false ⟨#[], #[.agg #[.int .i64 0, .int .i64 0, .int .i64 0, .slice none 0 0], .slice none 0 0, .slice none 0 0, .slice none 0 0, .slice none 0 0, .int .i64 0, .int .i64 0], []⟩ 8 (by kernel_rfl) (by kernel_rfl) (by kernel_rfl) (by kernel_rfl)) ?_
  intro W base args ds gs before hval hW _ _
  exact law_contract (d := 8) (tb := 4) orcOk (by decide) laidOut (by kernel_rfl) rfl Try.underlying4 rfl (by kernel_rfl)
    (fun ds hl => match ds, hl with | [_, _, _, _, _, _, _], _ => rfl) (fun l hl => on_law l hl) hval hW

theorem holds : Rows.FirstCallsSaid :=
  OpenClaim.holds_of_wide 9 Try.f9 rfl rfl rfl rfl rfl rfl rfl ⟨rfl, rfl, rfl, rfl, rfl⟩ rfl rfl rfl rfl rfl (by kernel_rfl) Try.func9 (by kernel_rfl)
    (of_decide_eq_true (by kernel_rfl)) (by unfold Func.isWrapper; first | (rw [if_pos (by decide +kernel)]; kernel_rfl) | (rw [if_neg (by decide +kernel)]; exact ⟨rfl, rfl⟩))
    (fun os started H enc _ => lifted os started H enc)
end Go.Proofs.Ytpaocofhpdmjpaa.firstCalls
#print axioms Go.Proofs.Ytpaocofhpdmjpaa.firstCalls.holds
