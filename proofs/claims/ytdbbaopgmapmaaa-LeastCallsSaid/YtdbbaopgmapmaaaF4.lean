import Derived.Test.YtdbbaopgmapmaaaF3
set_option linter.unusedSimpArgs false
set_option linter.unusedVariables false
namespace Go.Proofs.Ytdbbaopgmapmaaa
open Go Go.Hm
theorem lives_ok : callW X A 0 0 9 [] [] = some (Bo true, []) :=
  run_W X_none ans3_ok 100000 300 E3 rfl _ _ _ _ _ _ rfl (by kernel_rfl)
end Go.Proofs.Ytdbbaopgmapmaaa
