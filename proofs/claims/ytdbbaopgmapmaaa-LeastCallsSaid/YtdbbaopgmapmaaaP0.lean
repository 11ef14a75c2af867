import Derived.Test.YtdbbaopgmapmaaaF2
set_option linter.unusedSimpArgs false
set_option linter.unusedVariables false
namespace Go.Proofs.Ytdbbaopgmapmaaa
open Go Go.Hm
theorem parts0 : callW X A 0 0 28 [.agg (Dv tx0 tr0)] [] = some (.sl 3 [I 0, I 0, I 0], []) :=
  run_W X_none ans2_ok 100000 300 E2 rfl _ _ _ _ _ _ rfl (by kernel_rfl)
end Go.Proofs.Ytdbbaopgmapmaaa
