/- MunchScript: whatever a scanner is told, it does what the document says: the law returns true for all arguments. No conditions. -/
import Derived.Test.YtoiolinclpiohaaW
import Derived.Test.YtoiolinclpiohaaArg2
set_option linter.unusedSimpArgs false
set_option linter.unusedVariables false
namespace Go.Proofs.Ytoiolinclpiohaa.munchScript
open Go Go.Hm Go.ChangeShapes Go.WideShapes Go.ChangeAt Go.RowKit

set_option maxRecDepth 100000 in
theorem on_law (l : List AV) (hl : ArgsC Try.prog 8 [24, 50] l) : ∃ lk lim H', C lk lim 9 l [] = some (.val (.bool true), H') := by
  obtain ⟨a0, a1, rfl, h0, h1⟩ := args2 hl
  obtain ⟨nx0, rl0, rfl⟩ := arg_dfa h0
  obtain ⟨l1, rfl, ok1⟩ := arg_acts h1
  exact ⟨0, 0, [], script_code nx0 rl0 l1 ok1⟩

set_option maxRecDepth 100000 in
theorem lifted (os : Os) (started : os.Started) (H : Type) (enc : TypeId × Value → H) :
    ReturnsInHanded {} Try.checked os 9 .any (Rows.munchScriptSpec.pre6 enc Try.prog Try.f9 Rows.munchScriptRow.domain false) (Rows.munchScriptSpec.post enc Try.prog Try.f9 false true false false) := by
  refine returnsInHanded_of_change (C := Try.checked) own started (by kernel_rfl) Try.func9
    (ChangeSpec.witness6 (enc := enc) (C := Try.checked) false ⟨#[], #[.agg #[.slice none 0 0, .slice none 0 0], .slice none 0 0], []⟩ 8 (by kernel_rfl) (by kernel_rfl) (by kernel_rfl) (by kernel_rfl)) ?_
  intro W base args ds gs before hval hW _ _
  exact law_contract (d := 8) (tb := 4) orcOk (by decide) laidOut (by kernel_rfl) rfl Try.underlying4 rfl (by kernel_rfl)
    (fun ds hl => match ds, hl with | [_, _], _ => rfl) (fun l hl => on_law l hl) hval hW

theorem holds : Rows.MunchScriptSaid :=
  OpenClaim.holds_of_wide 9 Try.f9 rfl rfl rfl rfl rfl rfl rfl ⟨rfl, rfl, rfl, rfl, rfl⟩ rfl rfl rfl rfl rfl (by kernel_rfl) Try.func9 (by kernel_rfl)
    (of_decide_eq_true (by kernel_rfl)) (by unfold Func.isWrapper; first | (rw [if_pos (by decide +kernel)]; kernel_rfl) | (rw [if_neg (by decide +kernel)]; exact ⟨rfl, rfl⟩))
    (fun os started H enc _ => lifted os started H enc)
end Go.Proofs.Ytoiolinclpiohaa.munchScript
#print axioms Go.Proofs.Ytoiolinclpiohaa.munchScript.holds
