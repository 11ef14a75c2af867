/- CostCalls: what derivations take is what the document says: the law returns true for all arguments. No conditions. -/
import Derived.Test.YtkllbcjanneppaaGreatJU
import Derived.Test.YtkllbcjanneppaaGreatArgs
import Derived.Test.YtkllbcjanneppaaGreatJN
set_option maxRecDepth 100000
set_option linter.all false
namespace Go.Proofs.YtkllbcjanneppaaGreat.costCalls
open Go Go.Hm Go.ChangeShapes Go.WideShapes Go.ChangeAt Go.RowKit

theorem on_law (l:List AV)(hl:l5 Tryz.prog 8 [25,32,4,9] l):∃lk lim H',C lk lim 4 l []=some (.val (.bool true),H'):=by
 obtain⟨a0,a1,a2,a3,rfl,h0,h1,h2,h3⟩:=RA hl;obtain⟨g0,rfl⟩:=m3 h0;obtain⟨S1,rfl,hS1,hn1⟩:=QM h1;obtain⟨b2,rfl⟩:=Rd h2;obtain⟨s3,rfl⟩:=AJ h3;exact⟨0,0,[],QE g0 S1 hS1 hn1 b2 s3⟩

theorem lifted (os:Os)(started:os.Started)(H:Type)(enc:TypeId×Value->H):
  ReturnsInHanded {} Tryz.checked os 4 .any (Rows.costCallsSpec.pre6 enc Tryz.prog Tryz.f4 Rows.costCallsRow.domain false) (Rows.costCallsSpec.post enc Tryz.prog Tryz.f4 false true false false):=by
 refine returnsInHanded_of_change (C:=Tryz.checked) own started (by kernel_rfl) Tryz.func4
  (ChangeSpec.witness6 (enc:=enc) (C:=Tryz.checked) false ⟨#[],#[.agg #[.int .i64 0,.int .i64 0,.int .i64 0,.slice none 0 0],.agg #[.slice none 0 0],.bool false,.string ⟨#[]⟩],[]⟩ 8 (by kernel_rfl) (by kernel_rfl) (by kernel_rfl) (by kernel_rfl)) ?_
 intro W base args ds gs before hval hW _ _;exact fh (d:=8) (tb:=4) AN (by decide) pf (by kernel_rfl) rfl Tryz.underlying4 rfl (by kernel_rfl)
  (fun ds hl=>match ds,hl with | [_,_,_,_],_=>rfl) (fun l hl=>on_law l hl) hval hW

theorem holds:Rows.CostCallsSaid:=
 OpenClaim.holds_of_wide 4 Tryz.f4 rfl rfl rfl rfl rfl rfl rfl ⟨rfl,rfl,rfl,rfl,rfl⟩ rfl rfl rfl rfl rfl (by kernel_rfl) Tryz.func4 (by kernel_rfl)
  (of_decide_eq_true (by kernel_rfl)) (by unfold Func.isWrapper;first | (rw[if_pos (by decide+kernel)];kernel_rfl) | (rw[if_neg (by decide+kernel)];exact⟨rfl,rfl⟩))
  (fun os started H enc _=>lifted os started H enc)
end Go.Proofs.YtkllbcjanneppaaGreat.costCalls
#print axioms Go.Proofs.YtkllbcjanneppaaGreat.costCalls.holds
