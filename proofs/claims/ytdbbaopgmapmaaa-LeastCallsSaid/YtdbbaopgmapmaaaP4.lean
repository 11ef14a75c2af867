import Derived.Test.YtdbbaopgmapmaaaF2
set_option linter.unusedSimpArgs false
set_option linter.unusedVariables false
namespace Go.Proofs.Ytdbbaopgmapmaaa
open Go Go.Hm
theorem parts4 : callW X A 0 0 28 [.agg (Dv tx4 tr4)] [] = some (.sl 1 [I (-1)], []) :=
  run_W X_none ans2_ok 100000 300 E2 rfl _ _ _ _ _ _ rfl (by kernel_rfl)
end Go.Proofs.Ytdbbaopgmapmaaa
