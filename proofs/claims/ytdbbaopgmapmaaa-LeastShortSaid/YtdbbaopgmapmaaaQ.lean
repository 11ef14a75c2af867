import Derived.Test.YtdbbaopgmapmaaaP
set_option linter.unusedSimpArgs false
set_option linter.unusedVariables false
namespace Go.Proofs.Ytdbbaopgmapmaaa
open Go Go.Hm
/-! ### first's memory: what was seen, the steps, the row of them (the second block of the first step) -/
def qC (M n : Nat) : List AV := (List.range n).map fun k => AV.hp (M + 1 + 2 * k) 4 0
theorem qC_len (M n : Nat) : (qC M n).length = n := by simp [qC]
theorem qC_succ (M n : Nat) : qC M (n + 1) = qC M n ++ [.hp (M + 1 + 2 * n) 4 0] := by simp [qC, List.range_succ]
theorem qC_get {M n k : Nat} (h : k < n) : (qC M n)[k]? = some (.hp (M + 1 + 2 * k) 4 0) := by simp [qC, h]
structure FHp (H0 H : Heap) (Q : List Stp) : Prop where
  low : H.take H0.length = H0
  len : H.length = H0.length + 1 + 2 * Q.length
  map_ : H[H0.length]? = some (.map (pEnt Q))
  row : H[H0.length + 2]? = some (.cells (qC H0.length Q.length))
  chain : Chain H H0.length Q
/-- One step more: what is seen, the step's block, its pointer's, the row. -/
def nextH (H0 H : Heap) (Q : List Stp) (t : Stp) : Heap :=
  List.set ((List.set H H0.length (HB.map (pEnt (Q ++ [t]))) ++ [HB.cells (stpC H0.length Q.length t)]) ++ [HB.cells [.hp (H0.length + 1 + 2 * Q.length) 4 0]]) (H0.length + 2) (HB.cells (qC H0.length (Q.length + 1)))
theorem FHp.next {H0 H : Heap} {Q : List Stp} (h : FHp H0 H Q) (hQ : Q ≠ []) (t : Stp) (hp : t.par < Q.length) : FHp H0 (nextH H0 H Q t) (Q ++ [t]) := by
  obtain ⟨h1, h2, h3, h4, h5⟩ := h
  have hq : 0 < Q.length := List.length_pos_iff.2 hQ
  have hl : (nextH H0 H Q t).length = H0.length + 1 + 2 * (Q ++ [t]).length := by unfold nextH; simp [h2]; omega
  have gt : ∀ j, j < H.length → j ≠ H0.length → j ≠ H0.length + 2 → (nextH H0 H Q t)[j]? = H[j]? := fun j hj ha hb => by
    unfold nextH
    rw [List.getElem?_set_ne (by omega), List.getElem?_append_left (by simp; omega), List.getElem?_append_left (by simp; omega), List.getElem?_set_ne (by omega)]
  refine ⟨?_, hl, ?_, ?_, ?_, ?_⟩
  · refine List.ext_getElem? fun j => ?_
    by_cases hj : j < H0.length
    · rw [List.getElem?_take_of_lt hj, gt j (by omega) (by omega) (by omega)]
      have := congrArg (fun l => l[j]?) h1
      simp only [List.getElem?_take_of_lt hj] at this
      exact this
    · rw [List.getElem?_eq_none (by simp; omega), List.getElem?_eq_none (by omega)]
  · unfold nextH
    rw [List.getElem?_set_ne (by omega), List.getElem?_append_left (by simp; omega), List.getElem?_append_left (by simp; omega), List.getElem?_set_self (by omega)]
  · unfold nextH
    rw [List.getElem?_set_self (by simp; omega)]; simp
  · intro k hk
    have hk : k < Q.length + 1 := by simpa using hk
    by_cases hkQ : k < Q.length
    · rw [gt _ (by omega) (by omega) (by omega), h5.at_ k hkQ, List.getElem_append_left hkQ]
    · obtain rfl : k = Q.length := by omega
      unfold nextH
      rw [List.getElem?_set_ne (by omega), List.getElem?_append_left (by simp; omega), List.getElem?_append_right (by simp; omega)]
      simp [h2]
  · intro k hk hk0
    have hk : k < Q.length + 1 := by simpa using hk
    by_cases hkQ : k < Q.length
    · rw [List.getElem_append_left hkQ]; exact h5.par k hkQ hk0
    · obtain rfl : k = Q.length := by omega
      simp; exact hp
end Go.Proofs.Ytdbbaopgmapmaaa
