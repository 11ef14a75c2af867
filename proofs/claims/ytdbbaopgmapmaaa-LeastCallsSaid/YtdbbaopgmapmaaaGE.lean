import Derived.Test.YtdbbaopgmapmaaaR
set_option linter.unusedSimpArgs false
set_option linter.unusedVariables false
namespace Go.Proofs.Ytdbbaopgmapmaaa
open Go Go.Hm
/-- The first text with a rule. -/
def shortM (nx rl : List Int) (r : Int) : Option (List UInt8) := bfs nx nx (fun x _ => decide (rulV rl x = r)) ((rl.length + 1) * (rl.length + 1) + 1) [⟨0, 0, 0, 0⟩] 0
def txtV : Option (List UInt8) → AV
  | some l => .tup [Sg l, Bo true]
  | none => .tup [Sg [], Bo false]
set_option maxRecDepth 20000 in
theorem short_code {lk lim : Nat} {H : Heap} (nx rl : List Int) (r : Int) (hc : chk nx rl = true) (hlk : lk ≤ H.length) :
    callW X A lk lim 14 [.agg (Dv nx rl), I r] H = some (txtV (if r < 0 then none else shortM nx rl r), H) := by
  obtain ⟨ok, m1, _⟩ := chk_ok hc
  have hlen := ok.len
  let H1 : Heap := H ++ [.cells (Dv nx rl), .cells [I r]]
  have kc := fun (K L : Nat) => dcheck_code (lk := K) (lim := L) (H := H1) nx rl (by omega) (by omega)
  rw [chkE_pos hc] at kc
  have kf := fun L => first_code (lk := lk) (lim := L) (H := H1) ok ok m1 m1 (f := 32) (cap := [.hp H.length 2 0, .hp (H.length + 1) 1 0]) (fun x _ => decide (rulV rl x = r)) rfl
    (fun H' K L x y h1 h2 h3 h4 => c32_code nx rl r x y H.length h3 h2
      (by have := congrArg (fun l => l[H.length]?) h1; simp only [H1] at this; rw [List.getElem?_take_of_lt (by simp)] at this; rw [this]; simp)
      (by have := congrArg (fun l => l[H.length + 1]?) h1; simp only [H1] at this; rw [List.getElem?_take_of_lt (by simp)] at this; rw [this]; simp)) (by simp [H1]; omega)
  refine wb_callB [] rfl A14 rfl rfl ?_
  unfold t14B
  generalize callW X A = C at kc kf ⊢
  simp only [H1] at kc kf
  by_cases hr : r < 0
  · rw [if_pos hr]
    simp [hr, txtV]
  · rw [if_neg hr]
    have hsm : bfs nx nx (fun x _ => decide (rulV rl x = r)) ((rl.length + 1) * (rl.length + 1) + 1) [⟨0, 0, 0, 0⟩] 0 = shortM nx rl r := rfl
    rw [hsm] at kf
    generalize shortM nx rl r = o at kf ⊢
    cases o with
    | none => simp [hr, txtV, kc, kf]
    | some l => simp [hr, txtV, kc, kf]
end Go.Proofs.Ytdbbaopgmapmaaa

namespace Go.Proofs.Ytdbbaopgmapmaaa
open Go Go.Hm
/-- The first text that tells two tables apart: what is looked for. -/
theorem c35_code {lk lim : Nat} {H : Heap} (nx1 rl1 nx2 rl2 : List Int) (x y : Int) (b : Nat) (h1 : x < rl1.length) (h2 : y < rl2.length) (hlk : lk ≤ H.length) (g0 : H[b]? = some (.cells (Dv nx1 rl1))) (g1 : H[b + 1]? = some (.cells (Dv nx2 rl2))) :
    callW X A lk lim 35 [I x, I y, .hp b 2 0, .hp (b + 1) 2 0] H = some (Bo (decide (rulV rl1 x ≠ rulV rl2 y)), H) := by
  have k1 := fun K L => rule_code (lk := K) (lim := L) (H := H) nx1 rl1 x h1
  have k2 := fun K L => rule_code (lk := K) (lim := L) (H := H) nx2 rl2 y h2
  refine wb_callB [] rfl A35 rfl rfl ?_
  unfold t35B
  generalize callW X A = C at k1 k2 ⊢
  simp [g0, g1, k1, k2]
  try (rw [Bool.eq_iff_iff]; simp)
end Go.Proofs.Ytdbbaopgmapmaaa

namespace Go.Proofs.Ytdbbaopgmapmaaa
open Go Go.Hm
/-- The first text that tells two tables apart. -/
def witM (nx1 rl1 nx2 rl2 : List Int) : Option (List UInt8) := bfs nx1 nx2 (fun x y => decide (rulV rl1 x ≠ rulV rl2 y)) ((rl1.length + 1) * (rl2.length + 1) + 1) [⟨0, 0, 0, 0⟩] 0
set_option maxRecDepth 20000 in
theorem wit_code {lk lim : Nat} {H : Heap} (nx1 rl1 nx2 rl2 : List Int) (hc1 : chk nx1 rl1 = true) (hc2 : chk nx2 rl2 = true) (hlk : lk ≤ H.length) :
    callW X A lk lim 19 [.agg (Dv nx1 rl1), .agg (Dv nx2 rl2)] H = some (txtV (witM nx1 rl1 nx2 rl2), H) := by
  obtain ⟨ok1, m1, _⟩ := chk_ok hc1
  obtain ⟨ok2, m2, _⟩ := chk_ok hc2
  have hlen1 := ok1.len
  have hlen2 := ok2.len
  let H1 : Heap := H ++ [.cells (Dv nx1 rl1), .cells (Dv nx2 rl2)]
  have kc1 := fun (K L : Nat) => dcheck_code (lk := K) (lim := L) (H := H1) nx1 rl1 (by omega) (by omega)
  have kc2 := fun (K L : Nat) => dcheck_code (lk := K) (lim := L) (H := H1) nx2 rl2 (by omega) (by omega)
  rw [chkE_pos hc1] at kc1
  rw [chkE_pos hc2] at kc2
  have kf := fun L => first_code (lk := lk) (lim := L) (H := H1) ok1 ok2 m1 m2 (f := 35) (cap := [.hp H.length 2 0, .hp (H.length + 1) 2 0]) (fun x y => decide (rulV rl1 x ≠ rulV rl2 y)) rfl
    (fun H' K L x y h1 h2 h3 h4 => c35_code nx1 rl1 nx2 rl2 x y H.length h3 h4 h2
      (by have := congrArg (fun l => l[H.length]?) h1; simp only [H1] at this; rw [List.getElem?_take_of_lt (by simp)] at this; rw [this]; simp)
      (by have := congrArg (fun l => l[H.length + 1]?) h1; simp only [H1] at this; rw [List.getElem?_take_of_lt (by simp)] at this; rw [this]; simp)) (by simp [H1]; omega)
  refine wb_callB [] rfl A19 rfl rfl ?_
  unfold t19B
  generalize callW X A = C at kc1 kc2 kf ⊢
  simp only [H1] at kc1 kc2 kf
  have hsm : bfs nx1 nx2 (fun x y => decide (rulV rl1 x ≠ rulV rl2 y)) ((rl1.length + 1) * (rl2.length + 1) + 1) [⟨0, 0, 0, 0⟩] 0 = witM nx1 rl1 nx2 rl2 := rfl
  rw [hsm] at kf
  generalize witM nx1 rl1 nx2 rl2 = o at kf ⊢
  cases o with
  | none => simp [txtV, kc1, kc2, kf]
  | some l => simp [txtV, kc1, kc2, kf]
end Go.Proofs.Ytdbbaopgmapmaaa

namespace Go.Proofs.Ytdbbaopgmapmaaa
open Go Go.Hm
set_option maxRecDepth 20000 in
theorem equal_code {lk lim : Nat} {H : Heap} (nx1 rl1 nx2 rl2 : List Int) (hc1 : chk nx1 rl1 = true) (hc2 : chk nx2 rl2 = true) (hlk : lk ≤ H.length) :
    callW X A lk lim 17 [.agg (Dv nx1 rl1), .agg (Dv nx2 rl2)] H = some (Bo (witM nx1 rl1 nx2 rl2).isNone, H) := by
  obtain ⟨ok1, m1, _⟩ := chk_ok hc1
  obtain ⟨ok2, m2, _⟩ := chk_ok hc2
  have hlen1 := ok1.len
  have hlen2 := ok2.len
  have kc1 := fun (K L : Nat) => dcheck_code (lk := K) (lim := L) (H := H) nx1 rl1 (by omega) (by omega)
  have kc2 := fun (K L : Nat) => dcheck_code (lk := K) (lim := L) (H := H) nx2 rl2 (by omega) (by omega)
  rw [chkE_pos hc1] at kc1
  rw [chkE_pos hc2] at kc2
  have kw := fun L => wit_code (lk := lk) (lim := L) (H := H) nx1 rl1 nx2 rl2 hc1 hc2 hlk
  refine wb_callB [2, 3] rfl A17 rfl rfl ?_
  unfold t17B
  generalize callW X A = C at kc1 kc2 kw ⊢
  generalize witM nx1 rl1 nx2 rl2 = o at kw ⊢
  cases o with
  | none => simp [txtV, kc1, kc2, kw]
  | some l => simp [txtV, kc1, kc2, kw]
end Go.Proofs.Ytdbbaopgmapmaaa
