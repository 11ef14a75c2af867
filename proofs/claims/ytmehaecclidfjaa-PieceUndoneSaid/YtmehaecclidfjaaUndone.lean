/- PieceUndone: an edit and its opposite leave the text as it was, and a refused one changes nothing: the law returns true for all arguments. No conditions. -/
import Derived.Test.YtmehaecclidfjaaArgs
set_option linter.unusedSimpArgs false
set_option linter.unusedVariables false
namespace Go.Proofs.Ytmehaecclidfjaa.pieceUndone
open Go Go.Hm Go.ChangeShapes Go.WideShapes Go.ChangeAt Go.RowKit

set_option maxRecDepth 100000 in
theorem on_law (l : List AV) (hl : ArgsC Try.prog 8 [9, 22, 24] l) (hz : ∀ (j : Nat) t e n cells, [9, 22, 24][j]? = some t → Try.prog.underlying t = some (.slice e) → l[j]? = some (.sl n cells) → n * Try.prog.bytesOf e ≤ reachBytes) :
    ∃ lk lim H', C lk lim 3 l [] = some (.val (.bool true), H') := by
  obtain ⟨a0, a1, a2, rfl, h0, h1, h2⟩ := args3 hl
  obtain ⟨s0, rfl⟩ := arg_str h0
  obtain ⟨l1, rfl, ok1⟩ := arg_acts h1
  obtain ⟨x2, rfl, ok2⟩ := arg_act h2
  have b40 : Try.prog.bytesOf 24 = 40 := by kernel_rfl
  have hrb : reachBytes = 140737488351232 := by decide
  have hz1 := hz 1 22 24 l1.length (acC l1) rfl Try.underlying22 rfl
  rw [b40, hrb] at hz1
  exact ⟨0, 0, [], undone_code (by unfold room; omega) (by omega)⟩

set_option maxRecDepth 100000 in
theorem lifted (os : Os) (started : os.Started) (H : Type) (enc : TypeId × Value → H) :
    ReturnsInHanded {} Try.checked os 3 .any (Rows.pieceUndoneSpec.pre6 enc Try.prog Try.f3 Rows.pieceUndoneRow.domain false) (Rows.pieceUndoneSpec.post enc Try.prog Try.f3 false true false false) := by
  refine returnsInHanded_of_change_sized (C := Try.checked) own started (by kernel_rfl) Try.func3
    (ChangeSpec.witness6 (enc := enc) (C := Try.checked) false ⟨#[], #[.string ⟨#[]⟩, .slice none 0 0, .agg #[.int .i64 0, .int .i64 0, .int .i64 0, .string ⟨#[]⟩]], []⟩ 8 (by kernel_rfl) (by kernel_rfl) (by kernel_rfl) (by kernel_rfl)) ?_
  intro W base args ds gs before hval hW _ hz _
  exact law_contract_sized (d := 8) (tb := 4) orcOk (by decide) laidOut (by kernel_rfl) rfl Try.underlying4 rfl (by kernel_rfl)
    (fun ds hl => match ds, hl with | [_, _, _], _ => rfl) (fun l hl hz => on_law l hl hz) hval hW hz

theorem holds : Rows.PieceUndoneSaid :=
  OpenClaim.holds_of_wide 3 Try.f3 rfl rfl rfl rfl rfl rfl rfl ⟨rfl, rfl, rfl, rfl, rfl⟩ rfl rfl rfl rfl rfl (by kernel_rfl) Try.func3 (by kernel_rfl)
    (of_decide_eq_true (by kernel_rfl)) (by unfold Func.isWrapper; first | (rw [if_pos (by decide +kernel)]; kernel_rfl) | (rw [if_neg (by decide +kernel)]; exact ⟨rfl, rfl⟩))
    (fun os started H enc _ => lifted os started H enc)
end Go.Proofs.Ytmehaecclidfjaa.pieceUndone
#print axioms Go.Proofs.Ytmehaecclidfjaa.pieceUndone.holds
