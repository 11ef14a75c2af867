import Derived.Test.YtgbpioccaenjaaaGreatGU
set_option linter.unusedSimpArgs false
set_option linter.unusedVariables false
namespace Go.Proofs.YtgbpioccaenjaaaGreat
open Go Go.Hm
theorem orcOk : OrcOk Tryz.prog C:=callW_ok (by kernel_rfl) (withFun_ok (by decide) (conflict_ok orcOk0) (withFun_ok (by decide) (own_ok orcOk0) x0Ok)) (withFun_fr (withFun_fr x0Fr)) fnsOk
end Go.Proofs.YtgbpioccaenjaaaGreat
