/- PieceScript: whatever is done, the text is what the document says: the law returns true for all arguments. No conditions. -/
import Derived.Test.YtmehaecclidfjaaArgs
import Derived.Test.YtmehaecclidfjaaSc3
import Derived.Test.YtmehaecclidfjaaU2
set_option linter.unusedSimpArgs false
set_option linter.unusedVariables false
namespace Go.Proofs.Ytmehaecclidfjaa.pieceScript
open Go Go.Hm Go.ChangeShapes Go.WideShapes Go.ChangeAt Go.RowKit

set_option maxRecDepth 100000 in
theorem on_law (l : List AV) (hl : ArgsC Try.prog 8 [9, 22, 3, 3, 3] l) (hz : ∀ (j : Nat) t e n cells, [9, 22, 3, 3, 3][j]? = some t → Try.prog.underlying t = some (.slice e) → l[j]? = some (.sl n cells) → n * Try.prog.bytesOf e ≤ reachBytes) :
    ∃ lk lim H', C2 lk lim 7 l [] = some (.val (.bool true), H') := by
  obtain ⟨a0, a1, a2, a3, a4, rfl, h0, h1, h2, h3, h4⟩ := args5 hl
  obtain ⟨s0, rfl⟩ := arg_str h0
  obtain ⟨l1, rfl, ok1⟩ := arg_acts h1
  obtain ⟨n2, rfl, b2⟩ := arg_int h2
  obtain ⟨n3, rfl, b3⟩ := arg_int h3
  obtain ⟨n4, rfl, b4⟩ := arg_int h4
  have b40 : Try.prog.bytesOf 24 = 40 := by kernel_rfl
  have hrb : reachBytes = 140737488351232 := by decide
  have hz1 := hz 1 22 24 l1.length (acC l1) rfl Try.underlying22 rfl
  rw [b40, hrb] at hz1
  exact ⟨0, 0, [], pscript_code (by omega) ok1⟩

set_option maxRecDepth 100000 in
theorem lifted (os : Os) (started : os.Started) (H : Type) (enc : TypeId × Value → H) :
    ReturnsInHanded {} Try.checked os 7 .any (Rows.pieceScriptSpec.pre6 enc Try.prog Try.f7 Rows.pieceScriptRow.domain false) (Rows.pieceScriptSpec.post enc Try.prog Try.f7 false true false false) := by
  refine returnsInHanded_of_change_sized (C := Try.checked) own started (by kernel_rfl) Try.func7
    (ChangeSpec.witness6 (enc := enc) (C := Try.checked) false ⟨#[], #[.string ⟨#[]⟩, .slice none 0 0, .int .i64 0, .int .i64 0, .int .i64 0], []⟩ 8 (by kernel_rfl) (by kernel_rfl) (by kernel_rfl) (by kernel_rfl)) ?_
  intro W base args ds gs before hval hW _ hz _
  exact law_contract_sized (d := 8) (tb := 4) orcOk2 (by decide) laidOut (by kernel_rfl) rfl Try.underlying4 rfl (by kernel_rfl)
    (fun ds hl => match ds, hl with | [_, _, _, _, _], _ => rfl) (fun l hl hz => on_law l hl hz) hval hW hz

theorem holds : Rows.PieceScriptSaid :=
  OpenClaim.holds_of_wide 7 Try.f7 rfl rfl rfl rfl rfl rfl rfl ⟨rfl, rfl, rfl, rfl, rfl⟩ rfl rfl rfl rfl rfl (by kernel_rfl) Try.func7 (by kernel_rfl)
    (of_decide_eq_true (by kernel_rfl)) (by unfold Func.isWrapper; first | (rw [if_pos (by decide +kernel)]; kernel_rfl) | (rw [if_neg (by decide +kernel)]; exact ⟨rfl, rfl⟩))
    (fun os started H enc _ => lifted os started H enc)
end Go.Proofs.Ytmehaecclidfjaa.pieceScript
#print axioms Go.Proofs.Ytmehaecclidfjaa.pieceScript.holds
