/- FollowSeen: whatever nonterminal 0 derives, what stands behind a nonterminal in it is one of its FOLLOW: the law returns true for all arguments. No conditions. -/
import Derived.Test.YtdmaganalpamlaaGR
import Derived.Test.YtdmaganalpamlaaArg2
import Derived.Test.YtdmaganalpamlaaOk
set_option linter.unusedSimpArgs false
set_option linter.unusedVariables false
namespace Go.Proofs.Ytdmaganalpamlaa.followSeen
open Go Go.Hm Go.ChangeShapes Go.WideShapes Go.ChangeAt Go.RowKit

set_option maxRecDepth 100000 in
theorem on_law (l : List AV) (hl : ArgsC Try.prog 8 [24, 32, 3] l) : ∃ lk lim H', C lk lim 4 l [] = some (.val (.bool true), H') := by
  obtain ⟨a0, a1, a2, rfl, h0, h1, h2⟩ := args3 hl
  obtain ⟨g0, rfl⟩ := arg_gram h0
  obtain ⟨c, rfl⟩ := arg_ints h1
  obtain ⟨n, rfl, _⟩ := arg_int h2
  exact ⟨0, 0, [], fseen_code (lk := 0) (lim := 0) (H := []) (Nat.le_refl _) g0 c n⟩

set_option maxRecDepth 100000 in
theorem lifted (os : Os) (started : os.Started) (H : Type) (enc : TypeId × Value → H) :
    ReturnsInHanded {} Try.checked os 4 .any (Rows.followSeenSpec.pre6 enc Try.prog Try.f4 Rows.followSeenRow.domain false) (Rows.followSeenSpec.post enc Try.prog Try.f4 false true false false) := by
  refine returnsInHanded_of_change (C := Try.checked) own started (by kernel_rfl) Try.func4
    (ChangeSpec.witness6 (enc := enc) (C := Try.checked) false ⟨#[], #[.agg #[.int .i64 0, .int .i64 0, .int .i64 0, .slice none 0 0], .slice none 0 0, .int .i64 0], []⟩ 8 (by kernel_rfl) (by kernel_rfl) (by kernel_rfl) (by kernel_rfl)) ?_
  intro W base args ds gs before hval hW _ _
  exact law_contract (d := 8) (tb := 4) orcOk (by decide) laidOut (by kernel_rfl) rfl Try.underlying4 rfl (by kernel_rfl)
    (fun ds hl => match ds, hl with | [_, _, _], _ => rfl) (fun l hl => on_law l hl) hval hW

theorem holds : Rows.FollowSeenSaid :=
  OpenClaim.holds_of_wide 4 Try.f4 rfl rfl rfl rfl rfl rfl rfl ⟨rfl, rfl, rfl, rfl, rfl⟩ rfl rfl rfl rfl rfl (by kernel_rfl) Try.func4 (by kernel_rfl)
    (of_decide_eq_true (by kernel_rfl)) (by unfold Func.isWrapper; first | (rw [if_pos (by decide +kernel)]; kernel_rfl) | (rw [if_neg (by decide +kernel)]; exact ⟨rfl, rfl⟩))
    (fun os started H enc _ => lifted os started H enc)
end Go.Proofs.Ytdmaganalpamlaa.followSeen
#print axioms Go.Proofs.Ytdmaganalpamlaa.followSeen.holds
