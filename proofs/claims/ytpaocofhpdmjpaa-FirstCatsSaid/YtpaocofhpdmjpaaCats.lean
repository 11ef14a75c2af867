/- FirstCats: joining is in whatever brackets the same, the empty row alone cuts, a row more gives no fewer: the law returns true for all arguments. No conditions. -/
import Derived.Test.YtpaocofhpdmjpaaV
import Derived.Test.YtpaocofhpdmjpaaArgs
set_option linter.unusedSimpArgs false
set_option linter.unusedVariables false
namespace Go.Proofs.Ytpaocofhpdmjpaa.firstCats
open Go Go.Hm Go.ChangeShapes Go.WideShapes Go.ChangeAt Go.RowKit

set_option maxRecDepth 100000 in
theorem on_law (l : List AV) (hl : ArgsC Try.prog 8 [22, 22, 22, 3] l) : ∃ lk lim H', C lk lim 3 l [] = some (.val (.bool true), H') := by
  obtain ⟨a0, a1, a2, a3, rfl, h0, h1, h2, h3⟩ := args4 hl
  obtain ⟨l0, rfl, k0⟩ := arg_rows h0
  obtain ⟨l1, rfl, k1⟩ := arg_rows h1
  obtain ⟨l2, rfl, k2⟩ := arg_rows h2
  obtain ⟨n3, rfl, b3⟩ := arg_int h3
  exact ⟨0, 0, [], cats_code l0 l1 l2 n3 k0 k1 k2⟩

set_option maxRecDepth 100000 in
theorem lifted (os : Os) (started : os.Started) (H : Type) (enc : TypeId × Value → H) :
    ReturnsInHanded {} Try.checked os 3 .any (Rows.firstCatsSpec.pre6 enc Try.prog Try.f3 Rows.firstCatsRow.domain false) (Rows.firstCatsSpec.post enc Try.prog Try.f3 false true false false) := by
  refine returnsInHanded_of_change (C := Try.checked) own started (by kernel_rfl) Try.func3
    (ChangeSpec.witness6 (enc := enc) (C := Try.checked) false ⟨#[], #[.slice none 0 0, .slice none 0 0, .slice none 0 0, .int .i64 0], []⟩ 8 (by kernel_rfl) (by kernel_rfl) (by kernel_rfl) (by kernel_rfl)) ?_
  intro W base args ds gs before hval hW _ _
  exact law_contract (d := 8) (tb := 4) orcOk (by decide) laidOut (by kernel_rfl) rfl Try.underlying4 rfl (by kernel_rfl)
    (fun ds hl => match ds, hl with | [_, _, _, _], _ => rfl) (fun l hl => on_law l hl) hval hW

theorem holds : Rows.FirstCatsSaid :=
  OpenClaim.holds_of_wide 3 Try.f3 rfl rfl rfl rfl rfl rfl rfl ⟨rfl, rfl, rfl, rfl, rfl⟩ rfl rfl rfl rfl rfl (by kernel_rfl) Try.func3 (by kernel_rfl)
    (of_decide_eq_true (by kernel_rfl)) (by unfold Func.isWrapper; first | (rw [if_pos (by decide +kernel)]; kernel_rfl) | (rw [if_neg (by decide +kernel)]; exact ⟨rfl, rfl⟩))
    (fun os started H enc _ => lifted os started H enc)
end Go.Proofs.Ytpaocofhpdmjpaa.firstCats
#print axioms Go.Proofs.Ytpaocofhpdmjpaa.firstCats.holds
