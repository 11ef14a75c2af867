/- NfaBuilds: the states that are built tell the first expression that is matched: the law returns true for all arguments. No conditions. -/
import Derived.Test.YtnhennjliinplaaGV
import Derived.Test.YtnhennjliinplaaGL
import Derived.Test.YtnhennjliinplaaGN
set_option linter.all false
namespace Go.Proofs.Ytnhennjliinplaa.nfaBuilds
open Go Go.Hm Go.ChangeShapes Go.WideShapes Go.ChangeAt Go.RowKit

set_option maxRecDepth 100000 in
theorem on_law (l:List AV)(hl:ArgsS Try.prog 8 [22,9] l):∃lk lim H',C lk lim 3 l []=some (.val (.bool true),H'):=by
 obtain⟨a0,a1,rfl,h0,h1⟩:=args2 hl
 obtain⟨Ls,rfl,hL,_⟩:=arg_regs h0
 obtain⟨s,rfl⟩:=arg_str h1
 exact⟨0,0,[],builds_code hL fun j R hj=>by rw[List.getElem?_map,hj];rfl⟩

set_option maxRecDepth 100000 in
theorem lifted (os:Os)(started:os.Started)(H:Type)(enc:TypeId×Value→H):
  ReturnsInHanded {} Try.checked os 3 .any (Rows.nfaBuildsSpec.pre6 enc Try.prog Try.f3 Rows.nfaBuildsRow.domain false) (Rows.nfaBuildsSpec.post enc Try.prog Try.f3 false true false false):=by
 refine returnsInHanded_of_change_sized (C:=Try.checked) own started (by kernel_rfl) Try.func3
  (ChangeSpec.witness6 (enc:=enc) (C:=Try.checked) false ⟨#[],#[.slice none 0 0,.string ⟨#[]⟩],[]⟩ 8 (by kernel_rfl) (by kernel_rfl) (by kernel_rfl) (by kernel_rfl)) ?_
 intro W base args ds gs before hval hW _ hz _
 exact law_contractS (d:=8) (tb:=4) orcOk (by decide) laidOut (by kernel_rfl) rfl Try.underlying4 rfl (by kernel_rfl)
  (fun ds hl=>match ds,hl with | [_,_],_=>rfl) (fun l hl=>on_law l hl) hval hW hz

theorem holds:Rows.NfaBuildsSaid:=
 OpenClaim.holds_of_wide 3 Try.f3 rfl rfl rfl rfl rfl rfl rfl ⟨rfl,rfl,rfl,rfl,rfl⟩ rfl rfl rfl rfl rfl (by kernel_rfl) Try.func3 (by kernel_rfl)
  (of_decide_eq_true (by kernel_rfl)) (by unfold Func.isWrapper;first | (rw[if_pos (by decide+kernel)];kernel_rfl) | (rw[if_neg (by decide+kernel)];exact⟨rfl,rfl⟩))
  (fun os started H enc _=>lifted os started H enc)
end Go.Proofs.Ytnhennjliinplaa.nfaBuilds
#print axioms Go.Proofs.Ytnhennjliinplaa.nfaBuilds.holds
