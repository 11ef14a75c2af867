/- The machines' contracts. -/
import Derived.Test.YtnhennjliinplaaRw
import Derived.Test.YtnhennjliinplaaOk0
set_option linter.all false
namespace Go.Proofs.Ytnhennjliinplaa
open Go Go.Hm
theorem x0Ok : OrcOk Try.prog X0:=withFun_ok (by decide) keysG_ok noX_ok
theorem x0Fr : OrcFr X0:=withFun_fr noX_fr
theorem orcOk1 : OrcOk Try.prog X:=by unfold X;exact callW_ok (by kernel_rfl) x0Ok x0Fr fnsOk1 rmA1
theorem xFr : OrcFr X:=by unfold X;exact callW_fr x0Fr
theorem orcOk : OrcOk Try.prog C:=callW_ok (by kernel_rfl) orcOk1 xFr fnsOk rmA
end Go.Proofs.Ytnhennjliinplaa
