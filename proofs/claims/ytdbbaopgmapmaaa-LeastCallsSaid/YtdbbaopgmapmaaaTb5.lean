import Derived.Test.YtdbbaopgmapmaaaF1
set_option linter.unusedSimpArgs false
set_option linter.unusedVariables false
namespace Go.Proofs.Ytdbbaopgmapmaaa
open Go Go.Hm
/-- The table of a(b|c). -/
def tx7 : List Int := tabT [[(97, 1)], [(98, 2), (99, 3)], [], []]
def tr7 : List Int := [(-1), (-1), 0, 0]
theorem tb7 : callW X A 0 0 20 [Sg [97, 40, 98, 124, 99, 41]] [] = some (.agg (Dv tx7 tr7), []) :=
  run_W X_none ans_ok 100000 300 E rfl _ _ _ _ _ _ rfl (by kernel_rfl)
/-- The table of ab. -/
def tx8 : List Int := tabT [[(97, 1)], [(98, 2)], []]
def tr8 : List Int := [(-1), (-1), 0]
theorem tb8 : callW X A 0 0 20 [Sg [97, 98]] [] = some (.agg (Dv tx8 tr8), []) :=
  run_W X_none ans_ok 100000 300 E rfl _ _ _ _ _ _ rfl (by kernel_rfl)
end Go.Proofs.Ytdbbaopgmapmaaa
