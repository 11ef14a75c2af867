import Derived.Test.YtdbbaopgmapmaaaF1
set_option linter.unusedSimpArgs false
set_option linter.unusedVariables false
namespace Go.Proofs.Ytdbbaopgmapmaaa
open Go Go.Hm
/-- The table of a*. -/
def tx2 : List Int := tabT [[(97, 1)], [(97, 1)]]
def tr2 : List Int := [0, 0]
theorem tb2 : callW X A 0 0 20 [Sg [97, 42]] [] = some (.agg (Dv tx2 tr2), []) :=
  run_W X_none ans_ok 100000 300 E rfl _ _ _ _ _ _ rfl (by kernel_rfl)
/-- The table of a+. -/
def tx3 : List Int := tabT [[(97, 1)], [(97, 1)]]
def tr3 : List Int := [(-1), 0]
theorem tb3 : callW X A 0 0 20 [Sg [97, 43]] [] = some (.agg (Dv tx3 tr3), []) :=
  run_W X_none ans_ok 100000 300 E rfl _ _ _ _ _ _ rfl (by kernel_rfl)
end Go.Proofs.Ytdbbaopgmapmaaa
