import Derived.Test.YtdbbaopgmapmaaaTo
set_option linter.unusedSimpArgs false
set_option linter.unusedVariables false
namespace Go.Proofs.Ytdbbaopgmapmaaa
open Go Go.Hm
theorem wi1 : callW X A 0 0 19 [.agg (Dv tx9 tr9), .agg (Dv tx7 tr7)] [] = some (.tup [Sg [], Bo false], []) :=
  run_W X_none ansT_ok 100000 300 ET rfl _ _ _ _ _ _ rfl (by kernel_rfl)
end Go.Proofs.Ytdbbaopgmapmaaa
