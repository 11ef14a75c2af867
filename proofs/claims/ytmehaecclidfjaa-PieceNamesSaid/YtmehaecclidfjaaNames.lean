/- PieceNames: the chapter's example comes out as it tells: the law returns true. No conditions. -/
import Derived.Test.YtmehaecclidfjaaArgs
import Derived.Test.YtmehaecclidfjaaNm
import Derived.Test.YtmehaecclidfjaaU2
set_option linter.unusedSimpArgs false
set_option linter.unusedVariables false
namespace Go.Proofs.Ytmehaecclidfjaa.pieceNames
open Go Go.Hm Go.ChangeShapes Go.WideShapes Go.ChangeAt Go.RowKit

set_option maxRecDepth 100000 in
theorem on_law (l : List AV) (hl : ArgsC Try.prog 8 ([] : List TypeId) l) (hz : ∀ (j : Nat) t e n cells, ([] : List TypeId)[j]? = some t → Try.prog.underlying t = some (.slice e) → l[j]? = some (.sl n cells) → n * Try.prog.bytesOf e ≤ reachBytes) :
    ∃ lk lim H', C2 lk lim 6 l [] = some (.val (.bool true), H') := by
  match l, hl with
  | [], _ => exact ⟨0, 0, [], names_code⟩

set_option maxRecDepth 100000 in
theorem lifted (os : Os) (started : os.Started) (H : Type) (enc : TypeId × Value → H) :
    ReturnsInHanded {} Try.checked os 6 .any (Rows.pieceNamesSpec.pre6 enc Try.prog Try.f6 Rows.pieceNamesRow.domain false) (Rows.pieceNamesSpec.post enc Try.prog Try.f6 false true false false) := by
  refine returnsInHanded_of_change_sized (C := Try.checked) own started (by kernel_rfl) Try.func6
    (ChangeSpec.witness6 (enc := enc) (C := Try.checked) false ⟨#[], #[], []⟩ 8 (by kernel_rfl) (by kernel_rfl) (by kernel_rfl) (by kernel_rfl)) ?_
  intro W base args ds gs before hval hW _ hz _
  exact law_contract_sized (d := 8) (tb := 4) orcOk2 (by decide) laidOut (by kernel_rfl) rfl Try.underlying4 rfl (by kernel_rfl)
    (fun ds hl => match ds, hl with | [], _ => rfl) (fun l hl hz => on_law l hl hz) hval hW hz

theorem holds : Rows.PieceNamesSaid :=
  OpenClaim.holds_of_wide 6 Try.f6 rfl rfl rfl rfl rfl rfl rfl ⟨rfl, rfl, rfl, rfl, rfl⟩ rfl rfl rfl rfl rfl (by kernel_rfl) Try.func6 (by kernel_rfl)
    (of_decide_eq_true (by kernel_rfl)) (by unfold Func.isWrapper; first | (rw [if_pos (by decide +kernel)]; kernel_rfl) | (rw [if_neg (by decide +kernel)]; exact ⟨rfl, rfl⟩))
    (fun os started H enc _ => lifted os started H enc)
end Go.Proofs.Ytmehaecclidfjaa.pieceNames
#print axioms Go.Proofs.Ytmehaecclidfjaa.pieceNames.holds
