import Derived.Test.YtdbbaopgmapmaaaS
set_option linter.unusedSimpArgs false
set_option linter.unusedVariables false
namespace Go.Proofs.Ytdbbaopgmapmaaa
open Go Go.Hm
/-- The first text that tells two tables apart: what is looked for. -/
theorem c35_code {lk lim : Nat} {H : Heap} (nx1 rl1 nx2 rl2 : List Int) (x y : Int) (b : Nat) (h1 : x < rl1.length) (h2 : y < rl2.length) (hlk : lk ≤ H.length) (g0 : H[b]? = some (.cells (Dv nx1 rl1))) (g1 : H[b + 1]? = some (.cells (Dv nx2 rl2))) :
    callW X A lk lim 35 [I x, I y, .hp b 2 0, .hp (b + 1) 2 0] H = some (Bo (decide (rulV rl1 x ≠ rulV rl2 y)), H) := by
  have k1 := fun K L => rule_code (lk := K) (lim := L) (H := H) nx1 rl1 x h1
  have k2 := fun K L => rule_code (lk := K) (lim := L) (H := H) nx2 rl2 y h2
  refine wb_callB [] rfl A35 rfl rfl ?_
  unfold t35B
  generalize callW X A = C at k1 k2 ⊢
  simp [g0, g1, k1, k2]
  try (rw [Bool.eq_iff_iff]; simp)
end Go.Proofs.Ytdbbaopgmapmaaa
