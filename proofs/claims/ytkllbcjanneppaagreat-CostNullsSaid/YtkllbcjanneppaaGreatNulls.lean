/- CostNulls: what derives nothing takes one step, and those of a right side; what begins a right side is less deep: the law returns true for all arguments. No conditions. -/
import Derived.Test.YtkllbcjanneppaaGreatJK
import Derived.Test.YtkllbcjanneppaaGreatArgs
import Derived.Test.YtkllbcjanneppaaGreatJN
set_option maxRecDepth 100000
set_option linter.unusedSimpArgs false
set_option linter.unusedVariables false
namespace Go.Proofs.YtkllbcjanneppaaGreat.costNulls
open Go Go.Hm Go.ChangeShapes Go.WideShapes Go.ChangeAt Go.RowKit

theorem on_law (l:List AV)(hl:l5 Tryz.prog 8 [25] l):∃lk lim H',C lk lim 7 l []=some (.val (.bool true),H'):=by
 obtain ⟨a0,rfl,h0⟩:=Pe hl;obtain ⟨g0,rfl⟩:=m3 h0;exact ⟨0,0,[],zh g0⟩

theorem lifted (os:Os)(started:os.Started)(H:Type)(enc:TypeId×Value->H):
  ReturnsInHanded {} Tryz.checked os 7 .any (Rows.costNullsSpec.pre6 enc Tryz.prog Tryz.f7 Rows.costNullsRow.domain false) (Rows.costNullsSpec.post enc Tryz.prog Tryz.f7 false true false false):=by
 refine returnsInHanded_of_change (C:=Tryz.checked) own started (by kernel_rfl) Tryz.func7
  (ChangeSpec.witness6 (enc:=enc) (C:=Tryz.checked) false ⟨#[],#[.agg #[.int .i64 0,.int .i64 0,.int .i64 0,.slice none 0 0]],[]⟩ 8 (by kernel_rfl) (by kernel_rfl) (by kernel_rfl) (by kernel_rfl)) ?_
 intro W base args ds gs before hval hW _ _;exact fh (d:=8) (tb:=4) AN (by decide) pf (by kernel_rfl) rfl Tryz.underlying4 rfl (by kernel_rfl)
  (fun ds hl=>match ds,hl with | [_],_=>rfl) (fun l hl=>on_law l hl) hval hW

theorem holds:Rows.CostNullsSaid:=
 OpenClaim.holds_of_wide 7 Tryz.f7 rfl rfl rfl rfl rfl rfl rfl ⟨rfl,rfl,rfl,rfl,rfl⟩ rfl rfl rfl rfl rfl (by kernel_rfl) Tryz.func7 (by kernel_rfl)
  (of_decide_eq_true (by kernel_rfl)) (by unfold Func.isWrapper;first | (rw [if_pos (by decide+kernel)];kernel_rfl) | (rw [if_neg (by decide+kernel)];exact ⟨rfl,rfl⟩))
  (fun os started H enc _=>lifted os started H enc)
end Go.Proofs.YtkllbcjanneppaaGreat.costNulls
#print axioms Go.Proofs.YtkllbcjanneppaaGreat.costNulls.holds
