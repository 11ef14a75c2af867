/- NfaCalls: states are built, looked at, gone through as the document says: the law returns true for all arguments. No conditions. -/
import Derived.Test.YtnhennjliinplaaCu
import Derived.Test.YtnhennjliinplaaGL
import Derived.Test.YtnhennjliinplaaGN
set_option linter.all false
namespace Go.Proofs.Ytnhennjliinplaa.nfaCalls
open Go Go.Hm Go.ChangeShapes Go.WideShapes Go.ChangeAt Go.RowKit

set_option maxRecDepth 100000 in
theorem on_law (l:List AV)(hl:ArgsS Try.prog 8 [22,35,35,33,5,9] l):∃lk lim H',C lk lim 7 l []=some (.val (.bool true),H'):=by
 obtain⟨a0,a1,a2,a3,a4,a5,rfl,h0,h1,h2,h3,h4,h5⟩:=args6 hl
 obtain⟨Ls,rfl,hL,hLn⟩:=arg_regs h0
 obtain⟨N,vs,rfl,hN,hB⟩:=arg_nfaE h1
 obtain⟨M,ws,rfl,hM,hB2⟩:=arg_nfaE h2
 obtain⟨set,rfl⟩:=arg_ints h3
 obtain⟨b,rfl,hb⟩:=arg_byte h4
 obtain⟨s,rfl⟩:=arg_str h5
 have e:reachBytes=140737488351232:=rfl
 rw[e]at hB hB2
 exact⟨0,0,[],calls_code hL hLn hN (fun l h=>by have:=hB l h;omega) hM (fun l h=>by have:=hB2 l h;omega) hb⟩

set_option maxRecDepth 100000 in
theorem lifted (os:Os)(started:os.Started)(H:Type)(enc:TypeId×Value→H):
  ReturnsInHanded {} Try.checked os 7 .any (Rows.nfaCallsSpec.pre6 enc Try.prog Try.f7 Rows.nfaCallsRow.domain false) (Rows.nfaCallsSpec.post enc Try.prog Try.f7 false true false false):=by
 refine returnsInHanded_of_change_sized (C:=Try.checked) own started (by kernel_rfl) Try.func7
  (ChangeSpec.witness6 (enc:=enc) (C:=Try.checked) false ⟨#[],#[.slice none 0 0,.agg #[.slice none 0 0,.slice none 0 0,.slice none 0 0],.agg #[.slice none 0 0,.slice none 0 0,.slice none 0 0],.slice none 0 0,.int .u8 0,.string ⟨#[]⟩],[]⟩ 8 (by kernel_rfl) (by kernel_rfl) (by kernel_rfl) (by kernel_rfl)) ?_
 intro W base args ds gs before hval hW _ hz _
 exact law_contractS (d:=8) (tb:=4) orcOk (by decide) laidOut (by kernel_rfl) rfl Try.underlying4 rfl (by kernel_rfl)
  (fun ds hl=>match ds,hl with | [_,_,_,_,_,_],_=>rfl) (fun l hl=>on_law l hl) hval hW hz

theorem holds:Rows.NfaCallsSaid:=
 OpenClaim.holds_of_wide 7 Try.f7 rfl rfl rfl rfl rfl rfl rfl ⟨rfl,rfl,rfl,rfl,rfl⟩ rfl rfl rfl rfl rfl (by kernel_rfl) Try.func7 (by kernel_rfl)
  (of_decide_eq_true (by kernel_rfl)) (by unfold Func.isWrapper;first | (rw[if_pos (by decide+kernel)];kernel_rfl) | (rw[if_neg (by decide+kernel)];exact⟨rfl,rfl⟩))
  (fun os started H enc _=>lifted os started H enc)
end Go.Proofs.Ytnhennjliinplaa.nfaCalls
#print axioms Go.Proofs.Ytnhennjliinplaa.nfaCalls.holds
