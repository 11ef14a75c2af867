import Derived.Test.YtdbbaopgmapmaaaU
set_option linter.unusedSimpArgs false
set_option linter.unusedVariables false
namespace Go.Proofs.Ytdbbaopgmapmaaa
open Go Go.Hm
/-- The first text that tells two tables apart. -/
def witM (nx1 rl1 nx2 rl2 : List Int) : Option (List UInt8) := bfs nx1 nx2 (fun x y => decide (rulV rl1 x ≠ rulV rl2 y)) ((rl1.length + 1) * (rl2.length + 1) + 1) [⟨0, 0, 0, 0⟩] 0
set_option maxRecDepth 20000 in
theorem wit_code {lk lim : Nat} {H : Heap} (nx1 rl1 nx2 rl2 : List Int) (hc1 : chk nx1 rl1 = true) (hc2 : chk nx2 rl2 = true) (hlk : lk ≤ H.length) :
    callW X A lk lim 19 [.agg (Dv nx1 rl1), .agg (Dv nx2 rl2)] H = some (txtV (witM nx1 rl1 nx2 rl2), H) := by
  obtain ⟨ok1, m1, _⟩ := chk_ok hc1
  obtain ⟨ok2, m2, _⟩ := chk_ok hc2
  have hlen1 := ok1.len
  have hlen2 := ok2.len
  let H1 : Heap := H ++ [.cells (Dv nx1 rl1), .cells (Dv nx2 rl2)]
  have kc1 := fun (K L : Nat) => dcheck_code (lk := K) (lim := L) (H := H1) nx1 rl1 (by omega) (by omega)
  have kc2 := fun (K L : Nat) => dcheck_code (lk := K) (lim := L) (H := H1) nx2 rl2 (by omega) (by omega)
  rw [chkE_pos hc1] at kc1
  rw [chkE_pos hc2] at kc2
  have kf := fun L => first_code (lk := lk) (lim := L) (H := H1) ok1 ok2 m1 m2 (f := 35) (cap := [.hp H.length 2 0, .hp (H.length + 1) 2 0]) (fun x y => decide (rulV rl1 x ≠ rulV rl2 y)) rfl
    (fun H' K L x y h1 h2 h3 h4 => c35_code nx1 rl1 nx2 rl2 x y H.length h3 h4 h2
      (by have := congrArg (fun l => l[H.length]?) h1; simp only [H1] at this; rw [List.getElem?_take_of_lt (by simp)] at this; rw [this]; simp)
      (by have := congrArg (fun l => l[H.length + 1]?) h1; simp only [H1] at this; rw [List.getElem?_take_of_lt (by simp)] at this; rw [this]; simp)) (by simp [H1]; omega)
  refine wb_callB [] rfl A19 rfl rfl ?_
  unfold t19B
  generalize callW X A = C at kc1 kc2 kf ⊢
  simp only [H1] at kc1 kc2 kf
  have hsm : bfs nx1 nx2 (fun x y => decide (rulV rl1 x ≠ rulV rl2 y)) ((rl1.length + 1) * (rl2.length + 1) + 1) [⟨0, 0, 0, 0⟩] 0 = witM nx1 rl1 nx2 rl2 := rfl
  rw [hsm] at kf
  generalize witM nx1 rl1 nx2 rl2 = o at kf ⊢
  cases o with
  | none => simp [txtV, kc1, kc2, kf]
  | some l => simp [txtV, kc1, kc2, kf]
end Go.Proofs.Ytdbbaopgmapmaaa
