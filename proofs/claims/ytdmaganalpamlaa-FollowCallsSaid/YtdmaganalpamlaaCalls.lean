/- FollowCalls: what may stand behind is what the document says: the law returns true for all arguments. No conditions. -/
import Derived.Test.YtdmaganalpamlaaTe
import Derived.Test.YtdmaganalpamlaaArg2
import Derived.Test.YtdmaganalpamlaaOk
set_option linter.unusedSimpArgs false
set_option linter.unusedVariables false
namespace Go.Proofs.Ytdmaganalpamlaa.followCalls
open Go Go.Hm Go.ChangeShapes Go.WideShapes Go.ChangeAt Go.RowKit

set_option maxRecDepth 100000 in
theorem on_law (l : List AV) (hl : ArgsC Try.prog 8 [24, 3] l) : ∃ lk lim H', C lk lim 7 l [] = some (.val (.bool true), H') := by
  obtain ⟨a0, a1, rfl, h0, h1⟩ := args2 hl
  obtain ⟨g0, rfl⟩ := arg_gram h0
  obtain ⟨n, rfl, _⟩ := arg_int h1
  exact ⟨0, 0, [], fcalls_code (lk := 0) (lim := 0) (H := []) (Nat.le_refl _) g0 n⟩

set_option maxRecDepth 100000 in
theorem lifted (os : Os) (started : os.Started) (H : Type) (enc : TypeId × Value → H) :
    ReturnsInHanded {} Try.checked os 7 .any (Rows.followCallsSpec.pre6 enc Try.prog Try.f7 Rows.followCallsRow.domain false) (Rows.followCallsSpec.post enc Try.prog Try.f7 false true false false) := by
  refine returnsInHanded_of_change (C := Try.checked) own started (by kernel_rfl) Try.func7
    (ChangeSpec.witness6 (enc := enc) (C := Try.checked) false ⟨#[], #[.agg #[.int .i64 0, .int .i64 0, .int .i64 0, .slice none 0 0], .int .i64 0], []⟩ 8 (by kernel_rfl) (by kernel_rfl) (by kernel_rfl) (by kernel_rfl)) ?_
  intro W base args ds gs before hval hW _ _
  exact law_contract (d := 8) (tb := 4) orcOk (by decide) laidOut (by kernel_rfl) rfl Try.underlying4 rfl (by kernel_rfl)
    (fun ds hl => match ds, hl with | [_, _], _ => rfl) (fun l hl => on_law l hl) hval hW

theorem holds : Rows.FollowCallsSaid :=
  OpenClaim.holds_of_wide 7 Try.f7 rfl rfl rfl rfl rfl rfl rfl ⟨rfl, rfl, rfl, rfl, rfl⟩ rfl rfl rfl rfl rfl (by kernel_rfl) Try.func7 (by kernel_rfl)
    (of_decide_eq_true (by kernel_rfl)) (by unfold Func.isWrapper; first | (rw [if_pos (by decide +kernel)]; kernel_rfl) | (rw [if_neg (by decide +kernel)]; exact ⟨rfl, rfl⟩))
    (fun os started H enc _ => lifted os started H enc)
end Go.Proofs.Ytdmaganalpamlaa.followCalls
#print axioms Go.Proofs.Ytdmaganalpamlaa.followCalls.holds
