/- FollowMore: a production more gives no row fewer; of K 1 rows are the beginnings of those of a greater K: the law returns true for all arguments. No conditions. -/
import Derived.Test.YtdmaganalpamlaaGP
import Derived.Test.YtdmaganalpamlaaArg4
import Derived.Test.YtdmaganalpamlaaOk
set_option linter.unusedSimpArgs false
set_option linter.unusedVariables false
namespace Go.Proofs.Ytdmaganalpamlaa.followMore
open Go Go.Hm Go.ChangeShapes Go.WideShapes Go.ChangeAt Go.RowKit

set_option maxRecDepth 100000 in
theorem on_law (l : List AV) (hl : ArgsS Try.prog 8 [24, 34] l) : ∃ lk lim H', C lk lim 5 l [] = some (.val (.bool true), H') := by
  obtain ⟨a0, a1, rfl, h0, h1⟩ := args2S hl
  obtain ⟨g, rfl, hs, hr⟩ := arg_gramS h0
  obtain ⟨p, rfl⟩ := arg_prodS h1
  have e : reachBytes = 140737488351232 := rfl
  rw [e] at hs hr
  exact ⟨0, 0, [], more_code g p (by unfold room; omega) (fun q hq => by have := hr q hq; unfold room; omega)⟩

set_option maxRecDepth 100000 in
theorem lifted (os : Os) (started : os.Started) (H : Type) (enc : TypeId × Value → H) :
    ReturnsInHanded {} Try.checked os 5 .any (Rows.followMoreSpec.pre6 enc Try.prog Try.f5 Rows.followMoreRow.domain false) (Rows.followMoreSpec.post enc Try.prog Try.f5 false true false false) := by
  refine returnsInHanded_of_change_sized (C := Try.checked) own started (by kernel_rfl) Try.func5
    (ChangeSpec.witness6 (enc := enc) (C := Try.checked) false ⟨#[], #[.agg #[.int .i64 0, .int .i64 0, .int .i64 0, .slice none 0 0], .agg #[.int .i64 0, .slice none 0 0]], []⟩ 8 (by kernel_rfl) (by kernel_rfl) (by kernel_rfl) (by kernel_rfl)) ?_
  intro W base args ds gs before hval hW _ hz _
  exact law_contractS (d := 8) (tb := 4) orcOk (by decide) laidOut (by kernel_rfl) rfl Try.underlying4 rfl (by kernel_rfl)
    (fun ds hl => match ds, hl with | [_, _], _ => rfl) (fun l hl => on_law l hl) hval hW hz

theorem holds : Rows.FollowMoreSaid :=
  OpenClaim.holds_of_wide 5 Try.f5 rfl rfl rfl rfl rfl rfl rfl ⟨rfl, rfl, rfl, rfl, rfl⟩ rfl rfl rfl rfl rfl (by kernel_rfl) Try.func5 (by kernel_rfl)
    (of_decide_eq_true (by kernel_rfl)) (by unfold Func.isWrapper; first | (rw [if_pos (by decide +kernel)]; kernel_rfl) | (rw [if_neg (by decide +kernel)]; exact ⟨rfl, rfl⟩))
    (fun os started H enc _ => lifted os started H enc)
end Go.Proofs.Ytdmaganalpamlaa.followMore
#print axioms Go.Proofs.Ytdmaganalpamlaa.followMore.holds
