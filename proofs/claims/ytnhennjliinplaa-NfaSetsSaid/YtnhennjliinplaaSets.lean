/- NfaSets: a step of a set is that of each of its states together, rising; a rule the least of theirs: the law returns true for all arguments. No conditions. -/
import Derived.Test.YtnhennjliinplaaZd
import Derived.Test.YtnhennjliinplaaArgs
import Derived.Test.YtnhennjliinplaaOk
set_option linter.all false
namespace Go.Proofs.Ytnhennjliinplaa.nfaSets
open Go Go.Hm Go.ChangeShapes Go.WideShapes Go.ChangeAt Go.RowKit

set_option maxRecDepth 100000 in
theorem on_law (l : List AV) (hl : ArgsS Try.prog 8 [35,33,33,5] l) : ∃ lk lim H',C lk lim 4 l [] = some (.val (.bool true),H'):=by
 obtain ⟨a0,a1,a2,a3,rfl,h0,h1,h2,h3⟩:=args4 hl
 obtain ⟨N,cv,nv,rv,vs,rfl,hN,hB⟩:=arg_nfa h0
 obtain ⟨la,rfl⟩:=arg_ints h1
 obtain ⟨lb,rfl⟩:=arg_ints h2
 obtain ⟨c,rfl,hc⟩:=arg_byte h3
 have e : reachBytes = 140737488351232:=rfl
 rw [e] at hB
 exact ⟨0,0,[],sets_code hN (fun l h => by have:=hB l h;omega) la lb c hc⟩

set_option maxRecDepth 100000 in
theorem lifted (os : Os) (started : os.Started) (H : Type) (enc : TypeId × Value → H) :
  ReturnsInHanded {} Try.checked os 4 .any (Rows.nfaSetsSpec.pre6 enc Try.prog Try.f4 Rows.nfaSetsRow.domain false) (Rows.nfaSetsSpec.post enc Try.prog Try.f4 false true false false):=by
 refine returnsInHanded_of_change_sized (C:=Try.checked) own started (by kernel_rfl) Try.func4
  (ChangeSpec.witness6 (enc:=enc) (C:=Try.checked) false ⟨#[],#[.agg #[.slice none 0 0,.slice none 0 0,.slice none 0 0],.slice none 0 0,.slice none 0 0,.int .u8 0],[]⟩ 8 (by kernel_rfl) (by kernel_rfl) (by kernel_rfl) (by kernel_rfl)) ?_
 intro W base args ds gs before hval hW _ hz _
 exact law_contractS (d:=8) (tb:=4) orcOk (by decide) laidOut (by kernel_rfl) rfl Try.underlying4 rfl (by kernel_rfl)
  (fun ds hl => match ds,hl with | [_,_,_,_],_ => rfl) (fun l hl => on_law l hl) hval hW hz

theorem holds : Rows.NfaSetsSaid:=
 OpenClaim.holds_of_wide 4 Try.f4 rfl rfl rfl rfl rfl rfl rfl ⟨rfl,rfl,rfl,rfl,rfl⟩ rfl rfl rfl rfl rfl (by kernel_rfl) Try.func4 (by kernel_rfl)
  (of_decide_eq_true (by kernel_rfl)) (by unfold Func.isWrapper;first | (rw [if_pos (by decide +kernel)];kernel_rfl) | (rw [if_neg (by decide +kernel)];exact ⟨rfl,rfl⟩))
  (fun os started H enc _ => lifted os started H enc)
end Go.Proofs.Ytnhennjliinplaa.nfaSets
#print axioms Go.Proofs.Ytnhennjliinplaa.nfaSets.holds
