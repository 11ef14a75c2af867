import Derived.Test.YtdbbaopgmapmaaaF1
set_option linter.unusedSimpArgs false
set_option linter.unusedVariables false
namespace Go.Proofs.Ytdbbaopgmapmaaa
open Go Go.Hm
/-- The table of ab|ac. -/
def tx9 : List Int := tabT [[(97, 1)], [(98, 2), (99, 3)], [], []]
def tr9 : List Int := [(-1), (-1), 0, 0]
theorem tb9 : callW X A 0 0 20 [Sg [97, 98, 124, 97, 99]] [] = some (.agg (Dv tx9 tr9), []) :=
  run_W X_none ans_ok 100000 300 E rfl _ _ _ _ _ _ rfl (by kernel_rfl)
/-- The table of a[]|b. -/
def tx10 : List Int := tabT [[(97, 1), (98, 2)], [], []]
def tr10 : List Int := [(-1), (-1), 0]
theorem tb10 : callW X A 0 0 20 [Sg [97, 91, 93, 124, 98]] [] = some (.agg (Dv tx10 tr10), []) :=
  run_W X_none ans_ok 100000 300 E rfl _ _ _ _ _ _ rfl (by kernel_rfl)
/-- The table of b. -/
def tx11 : List Int := tabT [[(98, 1)], []]
def tr11 : List Int := [(-1), 0]
theorem tb11 : callW X A 0 0 20 [Sg [98]] [] = some (.agg (Dv tx11 tr11), []) :=
  run_W X_none ans_ok 100000 300 E rfl _ _ _ _ _ _ rfl (by kernel_rfl)
end Go.Proofs.Ytdbbaopgmapmaaa
