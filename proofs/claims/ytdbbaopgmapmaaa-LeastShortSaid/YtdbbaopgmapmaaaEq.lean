import Derived.Test.YtdbbaopgmapmaaaV
set_option linter.unusedSimpArgs false
set_option linter.unusedVariables false
namespace Go.Proofs.Ytdbbaopgmapmaaa
open Go Go.Hm
set_option maxRecDepth 20000 in
theorem equal_code {lk lim : Nat} {H : Heap} (nx1 rl1 nx2 rl2 : List Int) (hc1 : chk nx1 rl1 = true) (hc2 : chk nx2 rl2 = true) (hlk : lk ≤ H.length) :
    callW X A lk lim 17 [.agg (Dv nx1 rl1), .agg (Dv nx2 rl2)] H = some (Bo (witM nx1 rl1 nx2 rl2).isNone, H) := by
  obtain ⟨ok1, m1, _⟩ := chk_ok hc1
  obtain ⟨ok2, m2, _⟩ := chk_ok hc2
  have hlen1 := ok1.len
  have hlen2 := ok2.len
  have kc1 := fun (K L : Nat) => dcheck_code (lk := K) (lim := L) (H := H) nx1 rl1 (by omega) (by omega)
  have kc2 := fun (K L : Nat) => dcheck_code (lk := K) (lim := L) (H := H) nx2 rl2 (by omega) (by omega)
  rw [chkE_pos hc1] at kc1
  rw [chkE_pos hc2] at kc2
  have kw := fun L => wit_code (lk := lk) (lim := L) (H := H) nx1 rl1 nx2 rl2 hc1 hc2 hlk
  refine wb_callB [2, 3] rfl A17 rfl rfl ?_
  unfold t17B
  generalize callW X A = C at kc1 kc2 kw ⊢
  generalize witM nx1 rl1 nx2 rl2 = o at kw ⊢
  cases o with
  | none => simp [txtV, kc1, kc2, kw]
  | some l => simp [txtV, kc1, kc2, kw]
end Go.Proofs.Ytdbbaopgmapmaaa
