/- NfaGoes: a text is gone through step by step, from the set of the first state; in the end its rule is told: the law returns true for all arguments. No conditions. -/
import Derived.Test.YtnhennjliinplaaY
import Derived.Test.YtnhennjliinplaaArgs
import Derived.Test.YtnhennjliinplaaOk
set_option linter.all false
namespace Go.Proofs.Ytnhennjliinplaa.nfaGoes
open Go Go.Hm Go.ChangeShapes Go.WideShapes Go.ChangeAt Go.RowKit

set_option maxRecDepth 100000 in
theorem on_law (l : List AV) (hl : ArgsS Try.prog 8 [35,9] l) : ∃ lk lim H',C lk lim 5 l [] = some (.val (.bool true),H'):=by
 obtain ⟨a0,a1,rfl,h0,h1⟩:=args2 hl
 obtain ⟨N,cv,nv,rv,vs,rfl,hN,hB⟩:=arg_nfa h0
 obtain ⟨s,rfl⟩:=arg_str h1
 have e : reachBytes = 140737488351232:=rfl
 rw [e] at hB
 exact ⟨0,0,[],goes_code hN (fun l h => by have:=hB l h;omega) s⟩

set_option maxRecDepth 100000 in
theorem lifted (os : Os) (started : os.Started) (H : Type) (enc : TypeId × Value → H) :
  ReturnsInHanded {} Try.checked os 5 .any (Rows.nfaGoesSpec.pre6 enc Try.prog Try.f5 Rows.nfaGoesRow.domain false) (Rows.nfaGoesSpec.post enc Try.prog Try.f5 false true false false):=by
 refine returnsInHanded_of_change_sized (C:=Try.checked) own started (by kernel_rfl) Try.func5
  (ChangeSpec.witness6 (enc:=enc) (C:=Try.checked) false ⟨#[],#[.agg #[.slice none 0 0,.slice none 0 0,.slice none 0 0],.string ⟨#[]⟩],[]⟩ 8 (by kernel_rfl) (by kernel_rfl) (by kernel_rfl) (by kernel_rfl)) ?_
 intro W base args ds gs before hval hW _ hz _
 exact law_contractS (d:=8) (tb:=4) orcOk (by decide) laidOut (by kernel_rfl) rfl Try.underlying4 rfl (by kernel_rfl)
  (fun ds hl => match ds,hl with | [_,_],_ => rfl) (fun l hl => on_law l hl) hval hW hz

theorem holds : Rows.NfaGoesSaid:=
 OpenClaim.holds_of_wide 5 Try.f5 rfl rfl rfl rfl rfl rfl rfl ⟨rfl,rfl,rfl,rfl,rfl⟩ rfl rfl rfl rfl rfl (by kernel_rfl) Try.func5 (by kernel_rfl)
  (of_decide_eq_true (by kernel_rfl)) (by unfold Func.isWrapper;first | (rw [if_pos (by decide +kernel)];kernel_rfl) | (rw [if_neg (by decide +kernel)];exact ⟨rfl,rfl⟩))
  (fun os started H enc _ => lifted os started H enc)
end Go.Proofs.Ytnhennjliinplaa.nfaGoes
#print axioms Go.Proofs.Ytnhennjliinplaa.nfaGoes.holds
