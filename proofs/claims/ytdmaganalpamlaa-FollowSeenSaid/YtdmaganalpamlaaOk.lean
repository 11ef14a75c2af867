import Derived.Test.YtdmaganalpamlaaNm
set_option linter.unusedSimpArgs false
set_option linter.unusedVariables false
namespace Go.Proofs.Ytdmaganalpamlaa
open Go Go.Hm
theorem orcOk : OrcOk Try.prog C := callW_ok (by kernel_rfl) (withConst_ok orcOk0 lives0 rfl x0Ok) (withConst_fr x0Fr) fnsOk
end Go.Proofs.Ytdmaganalpamlaa
