import Derived.Test.YtdbbaopgmapmaaaTo
set_option linter.unusedSimpArgs false
set_option linter.unusedVariables false
namespace Go.Proofs.Ytdbbaopgmapmaaa
open Go Go.Hm
theorem sh0 : callW X A 0 0 14 [.agg (Dv tx5 tr5), I 0] [] = some (.tup [Sg [98], Bo true], []) :=
  run_W X_none ansT_ok 100000 300 ET rfl _ _ _ _ _ _ rfl (by kernel_rfl)
end Go.Proofs.Ytdbbaopgmapmaaa
