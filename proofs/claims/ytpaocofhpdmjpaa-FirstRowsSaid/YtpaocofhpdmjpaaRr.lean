import Derived.Test.YtpaocofhpdmjpaaRq
set_option linter.unusedSimpArgs false
set_option linter.unusedVariables false
namespace Go.Proofs.Ytpaocofhpdmjpaa
open Go Go.Hm

theorem it_at (A B C D : HB) (t k : Int) : rowsIt 51 [.hp 4 1 0, .hp 5 1 0] [A, B, C, D, .cells [I t], .cells [I k]] = some (itV (rowsOf t k)) := by
  unfold rowsIt
  rw [if_pos rfl]
  rfl
def hsE (e n : Int) (l : List (List UInt8)) (t k : Int) : Heap := [.cells [I e], .cells [Bo false], .cells [rowsV l], .cells [I n], .cells [I t], .cells [I k]]
set_option maxRecDepth 20000 in
set_option maxHeartbeats 2000000 in
theorem rowsl_code (t k e : Int) : callW X A 0 0 7 [I t, I k, I e] [] = some (Bo true, []) := by
  have k10 := fun (L : Nat) (H : Heap) => lives_at (lk := 0) (lim := L) (H := H)
  have k24 := fun (L : Nat) (H : Heap) h => rows_code (lk := 0) (lim := L) (H := H) (Nat.zero_le _) t k h
  have k25 := fun (L : Nat) (H : Heap) (n : Int) (m : Nat) h => pick_code (lk := 0) (lim := L) (H := H) n m h
  have k26 := fun (L : Nat) (H : Heap) => seq_code (lk := 0) (lim := L) (H := H) t k
  refine wb_callB [] rfl A7 rfl rfl ?_
  unfold t7B
  by_cases hb : t < 0 ∨ 4 < t ∨ k < 1 ∨ 3 < k
  · generalize callW X A = C at k10 ⊢
    by_cases c1 : t < 0
    · simp [k10, c1, setH, replaceAt]
    by_cases c2 : 4 < t
    · simp [k10, c1, c2, setH, replaceAt]
    by_cases c3 : k < 1
    · simp [k10, c1, c2, c3, setH, replaceAt]
    have c4 : 3 < k := by omega
    simp [k10, c1, c2, c3, c4, setH, replaceAt]
  have c1 : ¬ t < 0 := by omega
  have c2 : ¬ 4 < t := by omega
  have c3 : ¬ k < 1 := by omega
  have c4 : ¬ 3 < k := by omega
  obtain ⟨t, rfl⟩ := Int.eq_ofNat_of_zero_le (by omega : 0 ≤ t)
  obtain ⟨k, rfl⟩ := Int.eq_ofNat_of_zero_le (by omega : 0 ≤ k)
  have gd := rows_good (t := t) (k := k) (by omega) (by omega) (by omega)
  have hsz := sumP_le (t := t) (k := k) (by omega) (by omega)
  have hit := fun (A B C D : HB) => it_at A B C D (t : Int) (k : Int)
  have hll : (rowsOf t k).length = sumP t k + powN t k := gd.n
  generalize rowsOf t k = l at *
  have hl : l.length ≤ 85 := by rw [gd.n]; omega
  have hl0 : l ≠ [] := fun e => by
    subst e
    have := gd.n
    have h2 : 0 < sumP t k + t ^ k := by
      cases ht0 : t with
      | zero =>
        obtain ⟨k', rfl⟩ : ∃ k', k = k' + 1 := ⟨k - 1, by omega⟩
        have h3 : ∀ k', 0 < sumP 0 (k' + 1) := fun k' => by
          induction k' with
          | zero => decide
          | succ n ih => unfold sumP; omega
        have := h3 k'
        omega
      | succ t => exact Nat.lt_of_lt_of_le (Nat.pow_pos (by omega)) (Nat.le_add_left ..)
    simp at this
    omega
  have hrv : rV l = rowsV l := if_neg hl0
  have k24 := fun L H => k24 L H (by omega)
  rw [hrv] at k24
  generalize callW X A = C at *
  simp [-wb_regN, -wb_true, -wb_false, -wi_st]
  rw [wb_regN]
  simp [-wb_regN, -wb_true, -wb_false, -wi_st]
  rw [wb_regN]
  simp [-wb_regN, -wb_true, -wb_false, -wi_st, k10]
  rw [wb_false rfl, wb_skip, fol_nrm, wb_seq, wb_seq, wb_regN]
  simp [-wb_regN, -wb_true, -wb_false, -wi_st, c1, c2, c3, c4]
  rw [wb_false rfl, wb_skip, fol_nrm, wb_seq, wb_regN]
  simp [-wb_regN, -wb_true, -wb_false, -wi_st, k24]
  rw [wi_st]
  simp [-wb_regN, -wb_true, -wb_false, -wi_st, setH, replaceAt]
  rw [wb_regN]
  simp [-wb_regN, -wb_true, -wb_false, -wi_st]
  rw [wb_regN]
  simp [-wb_regN, -wb_true, -wb_false, -wi_st]
  refine c7L1 (t := t) (k := k) (by omega) (by omega) (by simp [powN, sumP]) fun env' he => ?_
  rw [blk_exit, if_pos rfl, fol_nrm, wb_seq, wb_seq, wb_regN, he]
  have wsum : IntKind.i64.wrap ((sumP t k : Int) + (powN t k : Int)) = (l.length : Int) := by
    have h2 : powN t k ≤ 64 := hsz.2
    rw [wrap64 (by omega) (by omega), hll]; omega
  generalize sumP t k = sp at *
  generalize powN t k = pp at *
  simp [-wb_regN, -wb_true, -wb_false, -wi_st, wsum]
  rw [wb_false rfl, wb_skip, fol_nrm, wb_seq, wb_seq, wb_regN]
  simp [-wb_regN, -wb_true, -wb_false, -wi_st]
  refine c7L3 (e := e) (l := l) (t := t) (k := k) (by omega) (by omega) gd hl (by simp) fun env' he => ?_
  rw [blk_exit, if_pos rfl, fol_nrm, wb_seq, wb_regN, he]
  have hm0 := Int.emod_nonneg e (show (l.length : Int) ≠ 0 by have := List.length_pos_iff.2 hl0; omega)
  have hm1 := Int.emod_lt_of_pos e (show (0 : Int) < (l.length : Int) by have := List.length_pos_iff.2 hl0; omega)
  have k25 := fun L H => k25 L H e l.length (by omega)
  rw [if_neg (by have := List.length_pos_iff.2 hl0; omega)] at k25
  obtain ⟨j, hj⟩ : ∃ j : Nat, e % (l.length : Int) = j := ⟨(e % (l.length : Int)).toNat, by omega⟩
  rw [hj] at k25 hm1
  simp [-wb_regN, -wb_true, -wb_false, -wi_st, hsR, k25]
  rw [wi_st]
  simp [-wb_regN, -wb_true, -wb_false, -wi_st, setH, replaceAt]
  rw [wb_regN]
  simp [-wb_regN, -wb_true, -wb_false, -wi_st]
  rw [wi_st]
  simp [-wb_regN, -wb_true, -wb_false, -wi_st, setH, replaceAt]
  rw [wb_regN]
  simp [-wb_regN, -wb_true, -wb_false, -wi_st, k26]
  rw [wb_regN]
  simp [-wb_regN, -wb_true, -wb_false, -wi_st, eqFn, isFn]
  rw [wb_false rfl]
  simp [-wb_regN, -wb_true, -wb_false, -wi_st]
  rw [wb_regN]
  simp [-wb_regN, -wb_true, -wb_false, -wi_st]
  refine wb_rangeE (itV l) (fun i h => i ≤ j ∧ h = hsE j i l t k) [(5, .hp 0 1 0), (6, .hp 1 1 0), (7, .hp 2 1 0), (15, .hp 3 1 0), (140, .fn 51 [.hp 4 1 0, .hp 5 1 0])] rfl rfl rfl (hit _ _ _ _) (by simp [itV]) ⟨Nat.zero_le _, rfl⟩ ?_ ?_
  · rintro i x h hx ⟨hij, rfl⟩
    obtain ⟨y, hy, rfl⟩ : ∃ y, l[i]? = some y ∧ x = [.string ⟨⟨y⟩⟩] := by
      unfold itV at hx
      rw [List.getElem?_map] at hx
      cases hy : l[i]? with
      | none => rw [hy] at hx; cases hx
      | some y => rw [hy] at hx; simp at hx; exact ⟨y, rfl, hx.symm⟩
    have hil := (List.getElem?_eq_some_iff.1 hy).1
    have hyE : l[i] = y := by rw [List.getElem?_eq_getElem hil] at hy; simpa using hy
    refine ⟨_, rfl, ?_⟩
    rw [wb_regN]
    simp [-wb_regN, -wb_true, -wb_false, -wi_st]
    refine nrm_nrm rfl ?_
    simp [-wb_regN, -wb_true, -wb_false, -wi_st]
    rw [wb_regN]
    by_cases heq : i = j
    · subst heq
      simp [-wb_regN, -wb_true, -wb_false, -wi_st, hsE]
      rw [wb_true rfl]
      simp [-wb_regN, -wb_true, -wb_false, -wi_st]
      rw [rge_exit]
      simp [-wb_regN, -wb_true, -wb_false, -wi_st]
      rw [wb_regN]
      simp [-wb_regN, -wb_true, -wb_false, -wi_st]
      rw [wi_st]
      simp [-wb_regN, -wb_true, -wb_false, -wi_st, setH, replaceAt]
    · have hne : ((i : Int) == (j : Int)) = false := by rw [beq_eq_false_iff_ne]; omega
      have gy := rowsB_getE hil
      rw [hyE] at gy
      have hsn := sg_neq y y
      rw [beq_self_eq_true] at hsn
      have w1 : IntKind.i64.wrap ((i : Int) + 1) = (i : Int) + 1 := wrap64 (by omega) (by omega)
      simp [-wb_regN, -wb_true, -wb_false, -wi_st, hsE, hne]
      rw [wb_false rfl]
      simp [-wb_regN, -wb_true, -wb_false, -wi_st]
      rw [wb_regN]
      simp [-wb_regN, -wb_true, -wb_false, -wi_st, hil, gy, hsn]
      rw [wb_false rfl]
      simp [-wb_regN, -wb_true, -wb_false, -wi_st]
      rw [wb_regN]
      simp [-wb_regN, -wb_true, -wb_false, -wi_st, w1]
      rw [wi_st]
      simp [-wb_regN, -wb_true, -wb_false, -wi_st, setH, replaceAt]
      rw [rge_nrm]
      exact ⟨by omega, by simp [hsE]⟩
  · rintro h ⟨hlj, _⟩
    simp [itV] at hlj
    omega
end Go.Proofs.Ytpaocofhpdmjpaa
