/- LeastCalls: tables are made least, and told apart, as the document says: the law returns true for all arguments. No conditions. -/
import Derived.Test.YtdbbaopgmapmaaaX6
import Derived.Test.YtdbbaopgmapmaaaArgs
set_option linter.unusedSimpArgs false
set_option linter.unusedVariables false
namespace Go.Proofs.Ytdbbaopgmapmaaa.leastCalls
open Go Go.Hm Go.ChangeShapes Go.WideShapes Go.ChangeAt Go.RowKit

set_option maxRecDepth 100000 in
theorem on_law (l : List AV) (hl : ArgsC Try.prog 8 [24, 24, 3] l) : ∃ lk lim H', C lk lim 8 l [] = some (.val (.bool true), H') := by
  obtain ⟨a0, a1, a2, rfl, h0, h1, h2⟩ := args3 hl
  obtain ⟨nx0, rl0, rfl⟩ := arg_dfa h0
  obtain ⟨nx1, rl1, rfl⟩ := arg_dfa h1
  obtain ⟨n2, rfl, b2⟩ := arg_int h2
  exact ⟨0, 0, [], lcalls_code nx0 rl0 nx1 rl1 n2⟩

set_option maxRecDepth 100000 in
theorem lifted (os : Os) (started : os.Started) (H : Type) (enc : TypeId × Value → H) :
    ReturnsInHanded {} Try.checked os 8 .any (Rows.leastCallsSpec.pre6 enc Try.prog Try.f8 Rows.leastCallsRow.domain false) (Rows.leastCallsSpec.post enc Try.prog Try.f8 false true false false) := by
  refine returnsInHanded_of_change (C := Try.checked) own started (by kernel_rfl) Try.func8
    (ChangeSpec.witness6 (enc := enc) (C := Try.checked) false ⟨#[], #[.agg #[.slice none 0 0, .slice none 0 0], .agg #[.slice none 0 0, .slice none 0 0], .int .i64 0], []⟩ 8 (by kernel_rfl) (by kernel_rfl) (by kernel_rfl) (by kernel_rfl)) ?_
  intro W base args ds gs before hval hW _ _
  exact law_contract (d := 8) (tb := 4) orcOk (by decide) laidOut (by kernel_rfl) rfl Try.underlying4 rfl (by kernel_rfl)
    (fun ds hl => match ds, hl with | [_, _, _], _ => rfl) (fun l hl => on_law l hl) hval hW

theorem holds : Rows.LeastCallsSaid :=
  OpenClaim.holds_of_wide 8 Try.f8 rfl rfl rfl rfl rfl rfl rfl ⟨rfl, rfl, rfl, rfl, rfl⟩ rfl rfl rfl rfl rfl (by kernel_rfl) Try.func8 (by kernel_rfl)
    (of_decide_eq_true (by kernel_rfl)) (by unfold Func.isWrapper; first | (rw [if_pos (by decide +kernel)]; kernel_rfl) | (rw [if_neg (by decide +kernel)]; exact ⟨rfl, rfl⟩))
    (fun os started H enc _ => lifted os started H enc)
end Go.Proofs.Ytdbbaopgmapmaaa.leastCalls
#print axioms Go.Proofs.Ytdbbaopgmapmaaa.leastCalls.holds
