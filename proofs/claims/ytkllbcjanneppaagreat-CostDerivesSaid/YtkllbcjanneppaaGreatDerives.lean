/- CostDerives: a derivation tells just the row, in as many steps as its productions and tokens, at most Const times how many tokens, and 1: the law returns true for all arguments. No conditions. -/
import Derived.Test.YtkllbcjanneppaaGreatJS
import Derived.Test.YtkllbcjanneppaaGreatArgs
import Derived.Test.YtkllbcjanneppaaGreatJN
set_option maxRecDepth 100000
set_option linter.unusedSimpArgs false
set_option linter.unusedVariables false
namespace Go.Proofs.YtkllbcjanneppaaGreat.costDerives
open Go Go.Hm Go.ChangeShapes Go.WideShapes Go.ChangeAt Go.RowKit

theorem on_law (l:List AV)(hl:l5 Tryz.prog 8 [25,9] l):∃lk lim H',C lk lim 5 l []=some (.val (.bool true),H'):=by
 obtain ⟨a0,a1,rfl,h0,h1⟩:=Gu hl;obtain ⟨g0,rfl⟩:=m3 h0;obtain ⟨s1,rfl⟩:=AJ h1;exact ⟨0,0,[],vd g0 s1⟩

theorem lifted (os:Os)(started:os.Started)(H:Type)(enc:TypeId×Value->H):
  ReturnsInHanded {} Tryz.checked os 5 .any (Rows.costDerivesSpec.pre6 enc Tryz.prog Tryz.f5 Rows.costDerivesRow.domain false) (Rows.costDerivesSpec.post enc Tryz.prog Tryz.f5 false true false false):=by
 refine returnsInHanded_of_change (C:=Tryz.checked) own started (by kernel_rfl) Tryz.func5
  (ChangeSpec.witness6 (enc:=enc) (C:=Tryz.checked) false ⟨#[],#[.agg #[.int .i64 0,.int .i64 0,.int .i64 0,.slice none 0 0],.string ⟨#[]⟩],[]⟩ 8 (by kernel_rfl) (by kernel_rfl) (by kernel_rfl) (by kernel_rfl)) ?_
 intro W base args ds gs before hval hW _ _;exact fh (d:=8) (tb:=4) AN (by decide) pf (by kernel_rfl) rfl Tryz.underlying4 rfl (by kernel_rfl)
  (fun ds hl=>match ds,hl with | [_,_],_=>rfl) (fun l hl=>on_law l hl) hval hW

theorem holds:Rows.CostDerivesSaid:=
 OpenClaim.holds_of_wide 5 Tryz.f5 rfl rfl rfl rfl rfl rfl rfl ⟨rfl,rfl,rfl,rfl,rfl⟩ rfl rfl rfl rfl rfl (by kernel_rfl) Tryz.func5 (by kernel_rfl)
  (of_decide_eq_true (by kernel_rfl)) (by unfold Func.isWrapper;first | (rw [if_pos (by decide+kernel)];kernel_rfl) | (rw [if_neg (by decide+kernel)];exact ⟨rfl,rfl⟩))
  (fun os started H enc _=>lifted os started H enc)
end Go.Proofs.YtkllbcjanneppaaGreat.costDerives
#print axioms Go.Proofs.YtkllbcjanneppaaGreat.costDerives.holds
