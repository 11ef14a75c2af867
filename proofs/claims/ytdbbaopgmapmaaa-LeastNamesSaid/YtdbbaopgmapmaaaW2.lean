import Derived.Test.YtdbbaopgmapmaaaTo
set_option linter.unusedSimpArgs false
set_option linter.unusedVariables false
namespace Go.Proofs.Ytdbbaopgmapmaaa
open Go Go.Hm
theorem sh1 : callW X A 0 0 14 [.agg (Dv tx6 tr6), I 1] [] = some (.tup [Sg [], Bo false], []) :=
  run_W X_none ansT_ok 100000 300 ET rfl _ _ _ _ _ _ rfl (by kernel_rfl)
theorem wi2 : callW X A 0 0 19 [.agg (Dv tx6 tr6), .agg (Dv tx11 tr11)] [] = some (.tup [Sg [97], Bo true], []) :=
  run_W X_none ansT_ok 100000 300 ET rfl _ _ _ _ _ _ rfl (by kernel_rfl)
end Go.Proofs.Ytdbbaopgmapmaaa
