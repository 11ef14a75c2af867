import Derived.Test.YtdbbaopgmapmaaaR
set_option linter.unusedSimpArgs false
set_option linter.unusedVariables false
namespace Go.Proofs.Ytdbbaopgmapmaaa
open Go Go.Hm
/-- The first text with a rule. -/
def shortM (nx rl : List Int) (r : Int) : Option (List UInt8) := bfs nx nx (fun x _ => decide (rulV rl x = r)) ((rl.length + 1) * (rl.length + 1) + 1) [⟨0, 0, 0, 0⟩] 0
def txtV : Option (List UInt8) → AV
  | some l => .tup [Sg l, Bo true]
  | none => .tup [Sg [], Bo false]
set_option maxRecDepth 20000 in
theorem short_code {lk lim : Nat} {H : Heap} (nx rl : List Int) (r : Int) (hc : chk nx rl = true) (hlk : lk ≤ H.length) :
    callW X A lk lim 14 [.agg (Dv nx rl), I r] H = some (txtV (if r < 0 then none else shortM nx rl r), H) := by
  obtain ⟨ok, m1, _⟩ := chk_ok hc
  have hlen := ok.len
  let H1 : Heap := H ++ [.cells (Dv nx rl), .cells [I r]]
  have kc := fun (K L : Nat) => dcheck_code (lk := K) (lim := L) (H := H1) nx rl (by omega) (by omega)
  rw [chkE_pos hc] at kc
  have kf := fun L => first_code (lk := lk) (lim := L) (H := H1) ok ok m1 m1 (f := 32) (cap := [.hp H.length 2 0, .hp (H.length + 1) 1 0]) (fun x _ => decide (rulV rl x = r)) rfl
    (fun H' K L x y h1 h2 h3 h4 => c32_code nx rl r x y H.length h3 h2
      (by have := congrArg (fun l => l[H.length]?) h1; simp only [H1] at this; rw [List.getElem?_take_of_lt (by simp)] at this; rw [this]; simp)
      (by have := congrArg (fun l => l[H.length + 1]?) h1; simp only [H1] at this; rw [List.getElem?_take_of_lt (by simp)] at this; rw [this]; simp)) (by simp [H1]; omega)
  refine wb_callB [] rfl A14 rfl rfl ?_
  unfold t14B
  generalize callW X A = C at kc kf ⊢
  simp only [H1] at kc kf
  by_cases hr : r < 0
  · rw [if_pos hr]
    simp [hr, txtV]
  · rw [if_neg hr]
    have hsm : bfs nx nx (fun x _ => decide (rulV rl x = r)) ((rl.length + 1) * (rl.length + 1) + 1) [⟨0, 0, 0, 0⟩] 0 = shortM nx rl r := rfl
    rw [hsm] at kf
    generalize shortM nx rl r = o at kf ⊢
    cases o with
    | none => simp [hr, txtV, kc, kf]
    | some l => simp [hr, txtV, kc, kf]
end Go.Proofs.Ytdbbaopgmapmaaa
