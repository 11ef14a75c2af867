/- The chapter's example, by the evaluator. -/
import Derived.Test.YtnhennjliinplaaL
set_option linter.all false
namespace Go.Proofs.Ytnhennjliinplaa
open Go Go.Hm
theorem lives0 : callW X A 0 0 8 [] [] = some (Bo true,[]):=run_N 100000 300 rfl (by kernel_rfl)
end Go.Proofs.Ytnhennjliinplaa
