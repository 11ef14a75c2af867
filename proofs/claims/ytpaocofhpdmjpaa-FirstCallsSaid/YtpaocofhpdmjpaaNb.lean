import Derived.Test.YtpaocofhpdmjpaaNa
import Derived.Test.YtpaocofhpdmjpaaNm
set_option linter.unusedSimpArgs false
set_option linter.unusedVariables false
namespace Go.Proofs.Ytpaocofhpdmjpaa
open Go Go.Hm

/-! ### The reference's rows of some tokens -/
theorem r29_0_1 : callW X A 0 0 29 [I 0, I 1] [] = some (rV (rowsOf 0 1), []) := run_W XN_none (fun p h => by cases h) 100000 300 EN rfl _ _ _ _ _ _ rfl (by kernel_rfl)
theorem r29_1_1 : callW X A 0 0 29 [I 1, I 1] [] = some (rV (rowsOf 1 1), []) := run_W XN_none (fun p h => by cases h) 100000 300 EN rfl _ _ _ _ _ _ rfl (by kernel_rfl)
theorem r29_2_1 : callW X A 0 0 29 [I 2, I 1] [] = some (rV (rowsOf 2 1), []) := run_W XN_none (fun p h => by cases h) 100000 300 EN rfl _ _ _ _ _ _ rfl (by kernel_rfl)
theorem r29_3_1 : callW X A 0 0 29 [I 3, I 1] [] = some (rV (rowsOf 3 1), []) := run_W XN_none (fun p h => by cases h) 100000 300 EN rfl _ _ _ _ _ _ rfl (by kernel_rfl)
theorem r29_4_1 : callW X A 0 0 29 [I 4, I 1] [] = some (rV (rowsOf 4 1), []) := run_W XN_none (fun p h => by cases h) 100000 300 EN rfl _ _ _ _ _ _ rfl (by kernel_rfl)
theorem r29_5_1 : callW X A 0 0 29 [I 5, I 1] [] = some (rV (rowsOf 5 1), []) := run_W XN_none (fun p h => by cases h) 100000 300 EN rfl _ _ _ _ _ _ rfl (by kernel_rfl)
theorem r29_6_1 : callW X A 0 0 29 [I 6, I 1] [] = some (rV (rowsOf 6 1), []) := run_W XN_none (fun p h => by cases h) 100000 300 EN rfl _ _ _ _ _ _ rfl (by kernel_rfl)
theorem r29_7_1 : callW X A 0 0 29 [I 7, I 1] [] = some (rV (rowsOf 7 1), []) := run_W XN_none (fun p h => by cases h) 100000 300 EN rfl _ _ _ _ _ _ rfl (by kernel_rfl)
theorem r29_8_1 : callW X A 0 0 29 [I 8, I 1] [] = some (rV (rowsOf 8 1), []) := run_W XN_none (fun p h => by cases h) 100000 300 EN rfl _ _ _ _ _ _ rfl (by kernel_rfl)
theorem r29_0_2 : callW X A 0 0 29 [I 0, I 2] [] = some (rV (rowsOf 0 2), []) := run_W XN_none (fun p h => by cases h) 100000 300 EN rfl _ _ _ _ _ _ rfl (by kernel_rfl)
theorem r29_1_2 : callW X A 0 0 29 [I 1, I 2] [] = some (rV (rowsOf 1 2), []) := run_W XN_none (fun p h => by cases h) 100000 300 EN rfl _ _ _ _ _ _ rfl (by kernel_rfl)
theorem r29_2_2 : callW X A 0 0 29 [I 2, I 2] [] = some (rV (rowsOf 2 2), []) := run_W XN_none (fun p h => by cases h) 100000 300 EN rfl _ _ _ _ _ _ rfl (by kernel_rfl)
theorem r29_3_2 : callW X A 0 0 29 [I 3, I 2] [] = some (rV (rowsOf 3 2), []) := run_W XN_none (fun p h => by cases h) 100000 300 EN rfl _ _ _ _ _ _ rfl (by kernel_rfl)
theorem r29_4_2 : callW X A 0 0 29 [I 4, I 2] [] = some (rV (rowsOf 4 2), []) := run_W XN_none (fun p h => by cases h) 100000 300 EN rfl _ _ _ _ _ _ rfl (by kernel_rfl)
theorem r29_5_2 : callW X A 0 0 29 [I 5, I 2] [] = some (rV (rowsOf 5 2), []) := run_W XN_none (fun p h => by cases h) 100000 300 EN rfl _ _ _ _ _ _ rfl (by kernel_rfl)
theorem r29_6_2 : callW X A 0 0 29 [I 6, I 2] [] = some (rV (rowsOf 6 2), []) := run_W XN_none (fun p h => by cases h) 100000 300 EN rfl _ _ _ _ _ _ rfl (by kernel_rfl)
theorem r29_7_2 : callW X A 0 0 29 [I 7, I 2] [] = some (rV (rowsOf 7 2), []) := run_W XN_none (fun p h => by cases h) 100000 300 EN rfl _ _ _ _ _ _ rfl (by kernel_rfl)
theorem r29_8_2 : callW X A 0 0 29 [I 8, I 2] [] = some (rV (rowsOf 8 2), []) := run_W XN_none (fun p h => by cases h) 100000 300 EN rfl _ _ _ _ _ _ rfl (by kernel_rfl)
theorem r29_0_3 : callW X A 0 0 29 [I 0, I 3] [] = some (rV (rowsOf 0 3), []) := run_W XN_none (fun p h => by cases h) 100000 300 EN rfl _ _ _ _ _ _ rfl (by kernel_rfl)
theorem r29_1_3 : callW X A 0 0 29 [I 1, I 3] [] = some (rV (rowsOf 1 3), []) := run_W XN_none (fun p h => by cases h) 100000 300 EN rfl _ _ _ _ _ _ rfl (by kernel_rfl)
theorem r29_2_3 : callW X A 0 0 29 [I 2, I 3] [] = some (rV (rowsOf 2 3), []) := run_W XN_none (fun p h => by cases h) 100000 300 EN rfl _ _ _ _ _ _ rfl (by kernel_rfl)
theorem r29_3_3 : callW X A 0 0 29 [I 3, I 3] [] = some (rV (rowsOf 3 3), []) := run_W XN_none (fun p h => by cases h) 100000 300 EN rfl _ _ _ _ _ _ rfl (by kernel_rfl)
theorem r29_4_3 : callW X A 0 0 29 [I 4, I 3] [] = some (rV (rowsOf 4 3), []) := run_W XN_none (fun p h => by cases h) 100000 300 EN rfl _ _ _ _ _ _ rfl (by kernel_rfl)
theorem rows29_code1 {t k : Nat} (ht : t ≤ 8) (h1 : 1 ≤ k) (hk : k ≤ 3) (h3 : k = 3 → t ≤ 4) : callW X A 0 0 29 [I t, I k] [] = some (rV (rowsOf t k), []) := by
  match k, h1, hk, h3 with
  | 1, _, _, _ => match t, ht with
    | 0, _ => exact r29_0_1
    | 1, _ => exact r29_1_1
    | 2, _ => exact r29_2_1
    | 3, _ => exact r29_3_1
    | 4, _ => exact r29_4_1
    | 5, _ => exact r29_5_1
    | 6, _ => exact r29_6_1
    | 7, _ => exact r29_7_1
    | 8, _ => exact r29_8_1
  | 2, _, _, _ => match t, ht with
    | 0, _ => exact r29_0_2
    | 1, _ => exact r29_1_2
    | 2, _ => exact r29_2_2
    | 3, _ => exact r29_3_2
    | 4, _ => exact r29_4_2
    | 5, _ => exact r29_5_2
    | 6, _ => exact r29_6_2
    | 7, _ => exact r29_7_2
    | 8, _ => exact r29_8_2
  | 3, _, _, h3 => match t, ht with
    | 0, _ => exact r29_0_3
    | 1, _ => exact r29_1_3
    | 2, _ => exact r29_2_3
    | 3, _ => exact r29_3_3
    | 4, _ => exact r29_4_3
    | t + 5, h => exact absurd (h3 rfl) (by omega)
theorem rows29_code {t k : Int} (h3 : k = 3 → 0 ≤ t → t ≤ 8 → t ≤ 4) : callW X A 0 0 29 [I t, I k] [] = some (rV (rowsOf t k), []) := by
  by_cases hb : t < 0 ∨ 8 < t ∨ k < 1 ∨ 3 < k
  · have e : rowsOf t k = [] := if_pos hb
    rw [e, show rV [] = .e0 from rfl]
    refine wb_callB [] rfl A29 rfl rfl ?_
    unfold t29B
    generalize callW X A = C
    by_cases c1 : t < 0
    · simp [c1]
    by_cases c2 : 8 < t
    · simp [c1, c2]
    by_cases c3 : k < 1
    · simp [c1, c2, c3]
    have c4 : 3 < k := by omega
    simp [c1, c2, c3, c4]
  · obtain ⟨t, rfl⟩ := Int.eq_ofNat_of_zero_le (by omega : 0 ≤ t)
    obtain ⟨k, rfl⟩ := Int.eq_ofNat_of_zero_le (by omega : 0 ≤ k)
    exact rows29_code1 (by omega) (by omega) (by omega) (fun h => by have := h3 (by omega) (by omega) (by omega); omega)
def rowsLen (t k : Nat) : Bool := Nat.ble (rowsF t k []).length 700
theorem rowsOf_len {t k : Int} (h3 : k = 3 → 0 ≤ t → t ≤ 8 → t ≤ 4) : (rowsOf t k).length ≤ 700 := by
  unfold rowsOf
  split
  · simp
  · obtain ⟨t, rfl⟩ := Int.eq_ofNat_of_zero_le (by omega : 0 ≤ t)
    obtain ⟨k, rfl⟩ := Int.eq_ofNat_of_zero_le (by omega : 0 ≤ k)
    have h : ∀ t < 9, ∀ k < 4, (k = 3 → t ≤ 4) → rowsLen t k = true := by decide +kernel
    have := h t (by omega) k (by omega) (fun e => by have := h3 (by omega) (by omega) (by omega); omega)
    exact Nat.le_of_ble_eq_true this
end Go.Proofs.Ytpaocofhpdmjpaa
