import Derived.Test.YtdbbaopgmapmaaaTo
set_option linter.unusedSimpArgs false
set_option linter.unusedVariables false
namespace Go.Proofs.Ytdbbaopgmapmaaa
open Go Go.Hm
theorem wi0 : callW X A 0 0 19 [.agg (Dv tx7 tr7), .agg (Dv tx8 tr8)] [] = some (.tup [Sg [97, 99], Bo true], []) :=
  run_W X_none ansT_ok 100000 300 ET rfl _ _ _ _ _ _ rfl (by kernel_rfl)
end Go.Proofs.Ytdbbaopgmapmaaa
