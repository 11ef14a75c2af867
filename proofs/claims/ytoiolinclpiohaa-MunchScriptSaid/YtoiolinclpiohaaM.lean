import Derived.Test.YtoiolinclpiohaaL
set_option linter.unusedSimpArgs false
set_option linter.unusedVariables false
namespace Go.Proofs.Ytoiolinclpiohaa
open Go Go.Hm

theorem Sg_ext (l : List UInt8) (a b : Nat) : (⟨⟨l⟩⟩ : ByteArray).extract a b = ⟨⟨(l.take b).drop a⟩⟩ := by
  apply ByteArray.ext
  simp [ByteArray.data_extract, List.drop_take]

/-! ### The plain law: shifting -/
theorem goM_shift (nx rl : List Int) (d : Int) : ∀ (l : List UInt8) (i st r t : Int), goM nx rl l (i + d) st r (t + d) = ((goM nx rl l i st r t).1, (goM nx rl l i st r t).2.1 + d, (goM nx rl l i st r t).2.2 + d)
  | [], i, st, r, t => by simp only [goM]; rw [show i + d + 1 = i + 1 + d by omega]
  | b :: l, i, st, r, t => by
    simp only [goM]
    split
    · rw [show i + d + 1 = i + 1 + d by omega]
    · rw [show i + d + 1 = i + 1 + d by omega]
      split
      · exact goM_shift nx rl d l (i + 1) _ _ (i + 1)
      · exact goM_shift nx rl d l (i + 1) _ _ t
def Lx.shift (d : Int) (x : Lx) : Lx := ⟨x.r, x.f + d, x.t + d, x.e + d⟩
theorem nextM_shift (nx rl : List Int) (l : List UInt8) (a b : Nat) : nextM nx rl l (a + b) = ((nextM nx rl (l.drop b) a).1, (nextM nx rl (l.drop b) a).2.1 + b, (nextM nx rl (l.drop b) a).2.2 + b) := by
  unfold nextM
  have h := goM_shift nx rl (b : Int) ((l.drop b).drop a) a 0 (-1) (a + 1)
  rw [← h, List.drop_drop]
  rw [show ((a + b : Nat) : Int) = (a : Int) + b by omega, show (a : Int) + b + 1 = a + 1 + b by omega, show b + a = a + b by omega]
theorem allF_shift (nx rl : List Int) (l : List UInt8) (b : Nat) : ∀ (n a : Nat), allF nx rl l n (a + b) = (allF nx rl (l.drop b) n a).map (Lx.shift b)
  | 0, _ => rfl
  | n + 1, a => by
    simp only [allF]
    by_cases h : a < (l.drop b).length
    · have h2 : a + b < l.length := by simp at h; omega
      have ht := nextM_t nx rl h
      rw [if_pos h, if_pos h2, List.map_cons, nextM_shift]
      congr 1
      have e : ((nextM nx rl (l.drop b) a).2.1 + (b : Int)).toNat = (nextM nx rl (l.drop b) a).2.1.toNat + b := by omega
      simp only [e]
      exact allF_shift nx rl l b n _
    · have h2 : ¬ a + b < l.length := by simp at h; omega
      rw [if_neg h, if_neg h2]; rfl
/-- A lexeme begins where it says, and the rest follows. -/
theorem allF_drop (nx rl : List Int) (l : List UInt8) : ∀ (n a i : Nat), l.length ≤ a + n → ∀ h : i < (allF nx rl l n a).length, ∃ b m : Nat, (allF nx rl l n a)[i].f = b ∧ b < l.length ∧ a ≤ b ∧ l.length ≤ b + m ∧ (allF nx rl l n a).drop i = allF nx rl l m b
  | 0, a, i, _, h => by simp [allF] at h
  | n + 1, a, i, hn, h => by
    by_cases hlt : a < l.length
    case neg => simp [allF, hlt] at h
    have ht := nextM_t nx rl hlt
    have e : allF nx rl l (n + 1) a = lexOf a (nextM nx rl l a) :: allF nx rl l n (nextM nx rl l a).2.1.toNat := by simp only [allF, if_pos hlt]
    simp only [e] at h ⊢
    cases i with
    | zero => exact ⟨a, n + 1, rfl, hlt, Nat.le_refl _, hn, by rw [e]; rfl⟩
    | succ i =>
      obtain ⟨b, m, h1, h2, h3, h4, h5⟩ := allF_drop nx rl l n (nextM nx rl l a).2.1.toNat i (by omega) (by simpa using h)
      exact ⟨b, m, by simpa using h1, h2, by omega, h4, by simpa using h5⟩
theorem allM_drop (nx rl : List Int) (l : List UInt8) (i : Nat) (h : i < (allM nx rl l).length) : ∃ b : Nat, (allM nx rl l)[i].f = b ∧ b < l.length ∧ (allM nx rl l).drop i = (allM nx rl (l.drop b)).map (Lx.shift b) := by
  obtain ⟨b, m, h1, h2, _, h4, h5⟩ := allF_drop nx rl l l.length 0 i (by omega) h
  refine ⟨b, h1, h2, ?_⟩
  have h5 : (allM nx rl l).drop i = allF nx rl l m b := h5
  rw [h5]
  have h6 := allF_shift nx rl l b (l.drop b).length 0
  rw [Nat.zero_add] at h6
  unfold allM
  rw [← h6]
  simp only [List.length_drop]
  rcases Nat.le_total m (l.length - b) with h | h
  · rw [allF_more nx rl l m (l.length - b) b (by omega) h]
  · rw [allF_more nx rl l (l.length - b) m b (by omega) h]
theorem allF_len (nx rl : List Int) (l : List UInt8) : ∀ (n a : Nat), (allF nx rl l n a).length ≤ n
  | 0, _ => by simp [allF]
  | n + 1, a => by
    simp only [allF]
    split
    · simp only [List.length_cons]; have := allF_len nx rl l n (nextM nx rl l a).2.1.toNat; omega
    · simp
theorem allM_ne (nx rl : List Int) {l : List UInt8} (h : 0 < l.length) : allM nx rl l ≠ [] := by
  unfold allM
  rw [show l.length = (l.length - 1) + 1 by omega]
  simp only [allF]
  rw [if_pos (by omega)]
  simp
theorem goM_e (nx rl : List Int) : ∀ (l : List UInt8) (i st r t : Int), i + 1 ≤ (goM nx rl l i st r t).2.2 ∧ (goM nx rl l i st r t).2.2 ≤ i + l.length + 1
  | [], i, st, r, t => by simp only [goM, List.length_nil]; omega
  | b :: l, i, st, r, t => by
    simp only [goM]
    split
    · simp only [List.length_cons]; omega
    · split
      · have h2 := goM_e nx rl l (i + 1) (nxA nx st b) (rlA rl (nxA nx st b)) (i + 1)
        simp only [List.length_cons]; omega
      · have h2 := goM_e nx rl l (i + 1) (nxA nx st b) r t
        simp only [List.length_cons]; omega
theorem nextM_e (nx rl : List Int) {l : List UInt8} {a : Nat} (h : a ≤ l.length) : (a : Int) + 1 ≤ (nextM nx rl l a).2.2 ∧ (nextM nx rl l a).2.2 ≤ l.length + 1 := by
  have h2 := goM_e nx rl (l.drop a) a 0 (-1) (a + 1)
  simp only [List.length_drop] at h2
  unfold nextM
  omega
/-- What is in a lexeme. -/
theorem allF_mem (nx rl : List Int) (l : List UInt8) : ∀ (n a : Nat), ∀ x ∈ allF nx rl l n a, 0 ≤ x.f ∧ x.f < l.length ∧ x.f < x.t ∧ x.t ≤ l.length ∧ x.f < x.e ∧ x.e ≤ l.length + 1
  | 0, _, x, h => by simp [allF] at h
  | n + 1, a, x, h => by
    simp only [allF] at h
    split at h
    · rename_i hlt
      have ht := nextM_t nx rl hlt
      have he := nextM_e nx rl (Nat.le_of_lt hlt)
      rcases List.mem_cons.1 h with rfl | h
      · simp only [lexOf]; omega
      · exact allF_mem nx rl l n _ x h
    · simp at h
end Go.Proofs.Ytoiolinclpiohaa
