import Derived.Test.YtdbbaopgmapmaaaF1
set_option linter.unusedSimpArgs false
set_option linter.unusedVariables false
namespace Go.Proofs.Ytdbbaopgmapmaaa
open Go Go.Hm
/-- The table of []. -/
def tx4 : List Int := tabT [[]]
def tr4 : List Int := [(-1)]
theorem tb4 : callW X A 0 0 20 [Sg [91, 93]] [] = some (.agg (Dv tx4 tr4), []) :=
  run_W X_none ans_ok 100000 300 E rfl _ _ _ _ _ _ rfl (by kernel_rfl)
/-- The table of b|aa|ab. -/
def tx5 : List Int := tabT [[(97, 1), (98, 2)], [(97, 3), (98, 4)], [], [], []]
def tr5 : List Int := [(-1), (-1), 0, 0, 0]
theorem tb5 : callW X A 0 0 20 [Sg [98, 124, 97, 97, 124, 97, 98]] [] = some (.agg (Dv tx5 tr5), []) :=
  run_W X_none ans_ok 100000 300 E rfl _ _ _ _ _ _ rfl (by kernel_rfl)
/-- The table of a. -/
def tx6 : List Int := tabT [[(97, 1)], []]
def tr6 : List Int := [(-1), 0]
theorem tb6 : callW X A 0 0 20 [Sg [97]] [] = some (.agg (Dv tx6 tr6), []) :=
  run_W X_none ans_ok 100000 300 E rfl _ _ _ _ _ _ rfl (by kernel_rfl)
end Go.Proofs.Ytdbbaopgmapmaaa
