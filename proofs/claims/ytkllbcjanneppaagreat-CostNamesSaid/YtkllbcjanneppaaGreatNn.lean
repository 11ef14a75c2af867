import Derived.Test.YtkllbcjanneppaaGreatNm
set_option linter.unusedSimpArgs false
set_option linter.unusedVariables false
namespace Go.Proofs.YtkllbcjanneppaaGreat
open Go Go.Hm
theorem names0 : callW X1 A 0 0 3 [] [] = some (Bo true,[]):=
 run_W X1_none (fun p h => by cases h) 100000 300 E rfl _ _ _ _ _ _ rfl (by kernel_rfl)
end Go.Proofs.YtkllbcjanneppaaGreat
