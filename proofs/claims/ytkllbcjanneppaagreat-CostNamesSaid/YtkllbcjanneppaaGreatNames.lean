/- CostNames: the chapter's example comes out as it tells: the law returns true. No conditions. -/
import Derived.Test.YtkllbcjanneppaaGreatNn
import Derived.Test.YtkllbcjanneppaaGreatOa
set_option linter.unusedSimpArgs false
set_option linter.unusedVariables false
namespace Go.Proofs.YtkllbcjanneppaaGreat.costNames
open Go Go.Hm Go.ChangeShapes Go.WideShapes Go.ChangeAt Go.RowKit

set_option maxRecDepth 100000 in
theorem lifted (os : Os) (started : os.Started) (H : Type) (enc : TypeId × Value → H) :
  ReturnsInHanded {} Tryz.checked os 3 .any (Rows.costNamesSpec.pre6 enc Tryz.prog Tryz.f3 Rows.costNamesRow.domain false) (Rows.costNamesSpec.post enc Tryz.prog Tryz.f3 false true false false):=by
 refine returnsInHanded_of_change (C:=Tryz.checked) own started (by kernel_rfl) Tryz.func3
  (ChangeSpec.witness6 (enc:=enc) (C:=Tryz.checked) false ⟨#[],#[],[]⟩ 8 (by kernel_rfl) (by kernel_rfl) (by kernel_rfl) (by kernel_rfl)) ?_
 intro W base args ds gs before hval hW _ _
 exact law_contract (d:=8) (tb:=4) orcOk1 (by decide) laidOut (by kernel_rfl) rfl Tryz.underlying4 rfl (by kernel_rfl)
  (fun ds hl => match ds,hl with | [],_ => rfl) (fun l hl => match l,hl with | [],_ => ⟨0,0,[],names0⟩) hval hW

theorem holds : Rows.CostNamesSaid:=
 OpenClaim.holds_of_wide 3 Tryz.f3 rfl rfl rfl rfl rfl rfl rfl ⟨rfl,rfl,rfl,rfl,rfl⟩ rfl rfl rfl rfl rfl (by kernel_rfl) Tryz.func3 (by kernel_rfl)
  (of_decide_eq_true (by kernel_rfl)) (by unfold Func.isWrapper;first | (rw [if_pos (by decide +kernel)];kernel_rfl) | (rw [if_neg (by decide +kernel)];exact ⟨rfl,rfl⟩))
  (fun os started H enc _ => lifted os started H enc)
end Go.Proofs.YtkllbcjanneppaaGreat.costNames
#print axioms Go.Proofs.YtkllbcjanneppaaGreat.costNames.holds
