import Derived.Test.YtgbpioccaenjaaaWf
set_option linter.unusedSimpArgs false
set_option linter.unusedVariables false
namespace Go.Proofs.Ytgbpioccaenjaaa
open Go Go.Hm

def kindB (x : Int) : UInt8 := if x = -2 then 255 else if x < 0 ∨ 254 ≤ x then 254 else byteI x
theorem rowR_len : ∀ T : List Int, (rowR T).length ≤ T.length
  | [] => Nat.le_refl _
  | x :: T => by
    have := rowR_len T
    unfold rowR
    split <;> simp <;> omega
theorem rowR_at : ∀ (T : List Int) (i : Nat) (h : i < (rowR T).length), ∃ x, T[i]? = some x ∧ (rowR T)[i]? = some (kindB x) ∧ (x = -2 → i + 1 = (rowR T).length)
  | [], i, h => by simp [rowR] at h
  | x :: T, i, h => by
    unfold rowR at h ⊢
    unfold kindB
    by_cases hx : x = -2
    · rw [if_pos hx] at h ⊢
      simp at h
      subst h
      exact ⟨x, rfl, by simp [hx], fun _ => rfl⟩
    · rw [if_neg hx] at h ⊢
      cases i with
      | zero => exact ⟨x, rfl, by simp [hx], fun e => absurd e hx⟩
      | succ i =>
        obtain ⟨y, h1, h2, h3⟩ := rowR_at T i (by simpa using h)
        unfold kindB at h2
        exact ⟨y, by simpa using h1, by simpa using h2, fun e => by simp [h3 e]⟩
theorem rowR_end : ∀ T : List Int, (rowR T).length = T.length ∨ (0 < (rowR T).length ∧ (rowR T)[(rowR T).length - 1]? = some 255)
  | [] => .inl rfl
  | x :: T => by
    unfold rowR
    by_cases hx : x = -2
    · rw [if_pos hx]; exact .inr ⟨by simp, rfl⟩
    · rw [if_neg hx]
      rcases rowR_end T with h | ⟨h1, h2⟩
      · exact .inl (by simp [h])
      · refine .inr ⟨by simp, ?_⟩
        rw [show (_ :: rowR T).length - 1 = (rowR T).length - 1 + 1 by simp; omega, List.getElem?_cons_succ]
        exact h2
set_option maxRecDepth 20000 in
theorem rows_code (k : Int) (ks : List Int) : callW X A 0 0 5 [I k, .sl ks.length (ints ks)] [] = some (Bo true, []) := by
  have kl := fun (L : Nat) => lives_at (lk := 0) (lim := L) (H := [])
  refine wb_callB [] rfl A5 rfl rfl ?_
  unfold t5B
  by_cases h20 : 20 < ks.length
  · have h20' : (20 : Int) < ks.length := by omega
    generalize callW X A = C at kl ⊢
    simp [kl, h20']
  have kr := fun (L : Nat) => row_code (lk := 0) (lim := L) (H := []) (Nat.le_refl _) k ks (by omega)
  have hm : ((ks.take (min k.toNat ks.length)).length) = min k.toNat ks.length := by simp
  have h1 := rowR_len (ks.take (min k.toNat ks.length))
  have h2 := rowR_at (ks.take (min k.toNat ks.length))
  have h3 := rowR_end (ks.take (min k.toNat ks.length))
  unfold rowM at kr
  rw [hm] at h1 h3
  generalize rowR (ks.take (min k.toNat ks.length)) = R at kr h1 h2 h3
  generalize callW X A = C at kl kr ⊢
  have h20' : ¬ (20 : Int) < ks.length := by omega
  have q1 : ¬ (if 0 < k then k else 0) < (R.length : Int) := by split <;> omega
  have q2 : ¬ ks.length < R.length := by omega
  have hsz : (⟨⟨R⟩⟩ : ByteArray).size = R.length := rfl
  simp [kl, h20', kr, mmFold, q1, q2, hsz]
  refine wb_loop (σ := Nat) (fun i => [(0, I k), (1, .sl ks.length (ints ks)), (5, Sg R), (6, I i)]) (fun _ => []) (fun i => i ≤ R.length) (fun i => R.length - i) ?_ 0 (Nat.zero_le _) (by simp) rfl
  intro i hi
  unfold t5L1
  have w1 : IntKind.i64.wrap ((i : Int) + 1) = (i : Int) + 1 := wrap64 (by omega) (by omega)
  by_cases hil : i < R.length
  case neg =>
    obtain rfl : i = R.length := by omega
    have m1 : (if (ks.length : Int) < (if 0 < k then k else 0) then (ks.length : Int) else (if 0 < k then k else 0)) = ((min k.toNat ks.length : Nat) : Int) := by split <;> split <;> omega
    rcases h3 with h3 | ⟨h4, h5⟩
    · rw [← h3] at m1
      simp [Sg_size, mmFold, m1]
    · have w2 : IntKind.i64.wrap ((R.length : Int) - 1) = (R.length : Int) - 1 := wrap64 (by omega) (by omega)
      have h6 : (R.length : Int) - 1 < R.length := by omega
      have h7 : (0 : Int) ≤ (R.length : Int) - 1 := by omega
      have h8 : ((R.length : Int) - 1).toNat = R.length - 1 := by omega
      have hrS : ∀ h, (⟨⟨R⟩⟩ : ByteArray)[R.length - 1]'h = 255 := fun h => (List.getElem?_eq_some_iff.1 h5).2
      have h9 : (0 : Int) < R.length := by omega
      have h10 : (1 : Int) ≤ R.length := by omega
      have h11 : (⟨⟨R⟩⟩ : ByteArray)[R.length - 1]? = some 255 := by rw [Sg_get]; exact h5
      by_cases he : R.length = min k.toNat ks.length
      · rw [← he] at m1
        simp [Sg_size, mmFold, m1]
      · have he2 : ¬ (R.length : Int) = ((min k.toNat ks.length : Nat) : Int) := by omega
        have he3 : ((R.length : Int) == ((min k.toNat ks.length : Nat) : Int)) = false := by rw [beq_eq_false_iff_ne]; exact he2
        generalize ((min k.toNat ks.length : Nat) : Int) = M at m1 he2 he3
        simp [Sg_size, mmFold, m1, he2, he3, h9, w2, h6, h7, h8, hrS, h4, h10, h11]
  obtain ⟨x, hx1, hx2, hx3⟩ := h2 i hil
  have hxT : (ks.take (min k.toNat ks.length)).length = min k.toNat ks.length := hm
  have him : i < min k.toNat ks.length := by omega
  rw [List.getElem?_take_of_lt him] at hx1
  have hik : i < ks.length := by omega
  have hxi : (ints ks)[i]? = some (I x) := by simp only [ints, List.getElem?_map, hx1]; rfl
  have hri : R[i]? = some (kindB x) := hx2
  have done : ∃ i' : Nat, i' ≤ R.length ∧ R.length - i' < R.length - i ∧ (i : Int) + 1 = i' := ⟨i + 1, by omega, by omega, by simp⟩
  have hrE : ∀ h, R[i]'h = kindB x := fun h => (List.getElem?_eq_some_iff.1 hx2).2
  have hkE : ∀ h, (ints ks)[i]'h = I x := fun h => (List.getElem?_eq_some_iff.1 hxi).2
  have hrS : ∀ h, (⟨⟨R⟩⟩ : ByteArray)[i]'h = kindB x := fun h => hrE h
  generalize hc : kindB x = c at hri hrE hrS
  unfold kindB at hc
  have w2 : IntKind.i64.wrap ((R.length : Int) - 1) = (R.length : Int) - 1 := wrap64 (by omega) (by omega)
  have wc : IntKind.i64.wrap (c.toNat : Int) = c.toNat := by have := c.toNat_lt; exact wrap64 (by omega) (by omega)
  by_cases hx4 : x = -2
  · rw [if_pos hx4] at hc
    subst hc
    subst hx4
    have hlast := hx3 rfl
    have hnl : ¬ (i : Int) < (R.length : Int) - 1 := by omega
    simp [-wb_regN, -wb_true, -wb_false]
    rw [wb_regN]
    simp [-wb_regN, -wb_true, -wb_false, hil, Sg_size]
    rw [wb_true rfl, wb_skip, fol_nrm, wb_seq, wb_block, wb_seq, wb_regN]
    simp [-wb_regN, -wb_true, -wb_false, hik, hkE]
    rw [wb_regN]
    simp [restrict, find, -wr_cons, -fol_nrm]
    iterate 54 (rw [wr_cons]; simp [-wr_cons, -wr_nil, hil, hrS, Sg_size, w2, hnl])
    rw [wr_nil]
    simp [w1, rnd_nrm]
    exact done
  rw [if_neg hx4] at hc
  have e1 : (x == -2) = false := by simpa using hx4
  have e2 : (x != -2) = true := by simpa using hx4
  by_cases hx5 : x < 0
  · rw [if_pos (.inl hx5)] at hc
    subst hc
    have e3 : ¬ 0 ≤ x := by omega
    simp [-wb_regN, -wb_true, -wb_false]
    rw [wb_regN]
    simp [-wb_regN, -wb_true, -wb_false, hil, Sg_size]
    rw [wb_true rfl, wb_skip, fol_nrm, wb_seq, wb_block, wb_seq, wb_regN]
    simp [-wb_regN, -wb_true, -wb_false, hik, hkE]
    rw [wb_regN]
    simp [restrict, find, -wr_cons, -fol_nrm]
    iterate 54 (rw [wr_cons]; simp [-wr_cons, -wr_nil, hil, hrS, Sg_size, w2, hx4, e1, e2, hx5, e3])
    rw [wr_nil]
    simp [w1, rnd_nrm]
    exact done
  by_cases hx6 : 254 ≤ x
  · rw [if_pos (.inr hx6)] at hc
    subst hc
    have e3 : 0 ≤ x := by omega
    have e4 : ¬ x < 254 := by omega
    have e5 : 253 < x := by omega
    simp [-wb_regN, -wb_true, -wb_false]
    rw [wb_regN]
    simp [-wb_regN, -wb_true, -wb_false, hil, Sg_size]
    rw [wb_true rfl, wb_skip, fol_nrm, wb_seq, wb_block, wb_seq, wb_regN]
    simp [-wb_regN, -wb_true, -wb_false, hik, hkE]
    rw [wb_regN]
    simp [restrict, find, -wr_cons, -fol_nrm]
    iterate 54 (rw [wr_cons]; simp [-wr_cons, -wr_nil, hil, hrS, Sg_size, w2, hx4, e1, e2, hx5, e3, e4, e5])
    rw [wr_nil]
    simp [w1, rnd_nrm]
    exact done
  rw [if_neg (by omega)] at hc
  have e3 : 0 ≤ x := by omega
  have e4 : x < 254 := by omega
  have e5 : ¬ 253 < x := by omega
  have e6 : (c.toNat : Int) = x := by
    rw [← hc]
    unfold byteI
    simp
    omega
  have e7 : (x == 255) = false := by rw [beq_eq_false_iff_ne]; omega
  have e8 : ¬ x = 255 := by omega
  rw [e6] at wc
  simp [-wb_regN, -wb_true, -wb_false]
  rw [wb_regN]
  simp [-wb_regN, -wb_true, -wb_false, hil, Sg_size]
  rw [wb_true rfl, wb_skip, fol_nrm, wb_seq, wb_block, wb_seq, wb_regN]
  simp [-wb_regN, -wb_true, -wb_false, hik, hkE]
  rw [wb_regN]
  simp [restrict, find, -wr_cons, -fol_nrm]
  iterate 54 (rw [wr_cons]; simp [-wr_cons, -wr_nil, hil, hrS, Sg_size, w2, hx4, e1, e2, hx5, e3, e4, e5, e6, e7, e8, wc])
  rw [wr_nil]
  simp [w1, rnd_nrm]
  exact done
end Go.Proofs.Ytgbpioccaenjaaa
