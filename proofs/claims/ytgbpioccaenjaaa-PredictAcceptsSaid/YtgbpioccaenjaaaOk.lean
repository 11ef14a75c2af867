import Derived.Test.YtgbpioccaenjaaaNm
import Derived.Test.YtgbpioccaenjaaaGU
set_option linter.unusedSimpArgs false
set_option linter.unusedVariables false
namespace Go.Proofs.Ytgbpioccaenjaaa
open Go Go.Hm
theorem x1Ok : OrcOk Try.prog X1 := withFun_ok (by decide) (conflict_ok orcOk0) x0Ok
theorem x1Fr : OrcFr X1 := withFun_fr x0Fr
theorem orcOk1 : OrcOk Try.prog (callW X1 A) := callW_ok (by kernel_rfl) x1Ok x1Fr fnsOk
theorem orcOk : OrcOk Try.prog C := callW_ok (by kernel_rfl) (withConst_ok orcOk1 lives0 rfl x1Ok) (withConst_fr x1Fr) fnsOk
end Go.Proofs.Ytgbpioccaenjaaa
