import Derived.Test.YtdbbaopgmapmaaaF1
set_option linter.unusedSimpArgs false
set_option linter.unusedVariables false
namespace Go.Proofs.Ytdbbaopgmapmaaa
open Go Go.Hm
/-- The table of [ab]*. -/
def tx1 : List Int := tabT [[(97, 1), (98, 1)], [(97, 1), (98, 1)]]
def tr1 : List Int := [0, 0]
theorem tb1 : callW X A 0 0 20 [Sg [91, 97, 98, 93, 42]] [] = some (.agg (Dv tx1 tr1), []) :=
  run_W X_none ans_ok 100000 300 E rfl _ _ _ _ _ _ rfl (by kernel_rfl)
end Go.Proofs.Ytdbbaopgmapmaaa
