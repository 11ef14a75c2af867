/- NfaNames: the chapter's example comes out as it tells: the law returns true. No conditions. -/
import Derived.Test.YtnhennjliinplaaN
import Derived.Test.YtnhennjliinplaaOk
set_option linter.all false
namespace Go.Proofs.Ytnhennjliinplaa.nfaNames
open Go Go.Hm Go.ChangeShapes Go.WideShapes Go.ChangeAt Go.RowKit

set_option maxRecDepth 100000 in
theorem lifted (os : Os) (started : os.Started) (H : Type) (enc : TypeId × Value → H) :
  ReturnsInHanded {} Try.checked os 6 .any (Rows.nfaNamesSpec.pre6 enc Try.prog Try.f6 Rows.nfaNamesRow.domain false) (Rows.nfaNamesSpec.post enc Try.prog Try.f6 false true false false):=by
 refine returnsInHanded_of_change (C:=Try.checked) own started (by kernel_rfl) Try.func6
  (ChangeSpec.witness6 (enc:=enc) (C:=Try.checked) false ⟨#[],#[],[]⟩ 8 (by kernel_rfl) (by kernel_rfl) (by kernel_rfl) (by kernel_rfl)) ?_
 intro W base args ds gs before hval hW _ _
 exact law_contract (d:=8) (tb:=4) orcOk (by decide) laidOut (by kernel_rfl) rfl Try.underlying4 rfl (by kernel_rfl)
  (fun ds hl => match ds,hl with | [],_ => rfl) (fun l hl => match l,hl with | [],_ => ⟨0,0,[],names0⟩) hval hW

theorem holds : Rows.NfaNamesSaid:=
 OpenClaim.holds_of_wide 6 Try.f6 rfl rfl rfl rfl rfl rfl rfl ⟨rfl,rfl,rfl,rfl,rfl⟩ rfl rfl rfl rfl rfl (by kernel_rfl) Try.func6 (by kernel_rfl)
  (of_decide_eq_true (by kernel_rfl)) (by unfold Func.isWrapper;first | (rw [if_pos (by decide +kernel)];kernel_rfl) | (rw [if_neg (by decide +kernel)];exact ⟨rfl,rfl⟩))
  (fun os started H enc _ => lifted os started H enc)
end Go.Proofs.Ytnhennjliinplaa.nfaNames
#print axioms Go.Proofs.Ytnhennjliinplaa.nfaNames.holds
