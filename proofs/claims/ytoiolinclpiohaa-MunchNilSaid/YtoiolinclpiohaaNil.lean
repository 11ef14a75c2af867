/- MunchNil: a scanner that nobody made answers ErrNil, and nothing: the law returns true for all arguments. No conditions. -/
import Derived.Test.YtoiolinclpiohaaO
import Derived.Test.YtoiolinclpiohaaArgs
set_option linter.unusedSimpArgs false
set_option linter.unusedVariables false
namespace Go.Proofs.Ytoiolinclpiohaa.munchNil
open Go Go.Hm Go.ChangeShapes Go.WideShapes Go.ChangeAt Go.RowKit

set_option maxRecDepth 100000 in
theorem on_law (l : List AV) (hl : ArgsC Try.prog 8 [3, 9] l) : ∃ lk lim H', C lk lim 8 l [] = some (.val (.bool true), H') := by
  obtain ⟨a0, a1, rfl, h0, h1⟩ := args2 hl
  obtain ⟨n0, rfl, b0⟩ := arg_int h0
  obtain ⟨s1, rfl⟩ := arg_str h1
  exact ⟨0, 0, [], nil_code n0 b0 s1⟩

set_option maxRecDepth 100000 in
theorem lifted (os : Os) (started : os.Started) (H : Type) (enc : TypeId × Value → H) :
    ReturnsInHanded {} Try.checked os 8 .any (Rows.munchNilSpec.pre6 enc Try.prog Try.f8 Rows.munchNilRow.domain false) (Rows.munchNilSpec.post enc Try.prog Try.f8 false true false false) := by
  refine returnsInHanded_of_change (C := Try.checked) own started (by kernel_rfl) Try.func8
    (ChangeSpec.witness6 (enc := enc) (C := Try.checked) false ⟨#[], #[.int .i64 0, .string ⟨#[]⟩], []⟩ 8 (by kernel_rfl) (by kernel_rfl) (by kernel_rfl) (by kernel_rfl)) ?_
  intro W base args ds gs before hval hW _ _
  exact law_contract (d := 8) (tb := 4) orcOk (by decide) laidOut (by kernel_rfl) rfl Try.underlying4 rfl (by kernel_rfl)
    (fun ds hl => match ds, hl with | [_, _], _ => rfl) (fun l hl => on_law l hl) hval hW

theorem holds : Rows.MunchNilSaid :=
  OpenClaim.holds_of_wide 8 Try.f8 rfl rfl rfl rfl rfl rfl rfl ⟨rfl, rfl, rfl, rfl, rfl⟩ rfl rfl rfl rfl rfl (by kernel_rfl) Try.func8 (by kernel_rfl)
    (of_decide_eq_true (by kernel_rfl)) (by unfold Func.isWrapper; first | (rw [if_pos (by decide +kernel)]; kernel_rfl) | (rw [if_neg (by decide +kernel)]; exact ⟨rfl, rfl⟩))
    (fun os started H enc _ => lifted os started H enc)
end Go.Proofs.Ytoiolinclpiohaa.munchNil
#print axioms Go.Proofs.Ytoiolinclpiohaa.munchNil.holds
