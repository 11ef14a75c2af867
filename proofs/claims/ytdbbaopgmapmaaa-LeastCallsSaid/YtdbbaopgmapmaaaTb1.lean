import Derived.Test.YtdbbaopgmapmaaaF1
set_option linter.unusedSimpArgs false
set_option linter.unusedVariables false
namespace Go.Proofs.Ytdbbaopgmapmaaa
open Go Go.Hm
/-- The table of (a|b)*. -/
def tx0 : List Int := tabT [[(97, 1), (98, 2)], [(97, 1), (98, 2)], [(97, 1), (98, 2)]]
def tr0 : List Int := [0, 0, 0]
theorem tb0 : callW X A 0 0 20 [Sg [40, 97, 124, 98, 41, 42]] [] = some (.agg (Dv tx0 tr0), []) :=
  run_W X_none ans_ok 100000 300 E rfl _ _ _ _ _ _ rfl (by kernel_rfl)
end Go.Proofs.Ytdbbaopgmapmaaa
