import Derived.Test.YtkllbcjanneppaaGreatRk
import Derived.Test.YtkllbcjanneppaaGreatGU
set_option linter.unusedSimpArgs false
set_option linter.unusedVariables false
namespace Go.Proofs.YtkllbcjanneppaaGreat
open Go Go.Hm
theorem x1Ok : OrcOk Tryz.prog X1:=withFun_ok (by decide) (conflict_ok orcOk0) (withNew_ok (by decide) rep_ok x0Ok)
theorem x1Fr : OrcFr X1:=withFun_fr (withNew_fr x0Fr)
theorem orcOk1 : OrcOk Tryz.prog (callW X1 A):=callW_ok (by kernel_rfl) x1Ok x1Fr fnsOk
end Go.Proofs.YtkllbcjanneppaaGreat
