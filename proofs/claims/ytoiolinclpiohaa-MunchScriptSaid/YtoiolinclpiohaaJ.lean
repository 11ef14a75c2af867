import Derived.Test.YtoiolinclpiohaaI
set_option linter.unusedSimpArgs false
set_option linter.unusedVariables false
namespace Go.Proofs.Ytoiolinclpiohaa
open Go Go.Hm

/-! ### The program's check -/
theorem foldL_lt : ∀ (l : List Int) (x : Int) (a : Int), (minL x l < a ↔ x < a ∨ ∃ y ∈ l, y < a)
  | [], x, a => by simp [minL]
  | y :: l, x, a => by
    simp only [minL, foldL_lt l, List.mem_cons, exists_eq_or_imp]
    generalize (∃ z, z ∈ l ∧ z < a) = P
    by_cases hP : P <;> simp only [hP, or_true, or_false] <;> split <;> omega
theorem foldG_ge : ∀ (l : List Int) (x : Int) (a : Int), (a ≤ maxL x l ↔ a ≤ x ∨ ∃ y ∈ l, a ≤ y)
  | [], x, a => by simp [maxL]
  | y :: l, x, a => by
    simp only [maxL, foldG_ge l, List.mem_cons, exists_eq_or_imp]
    generalize (∃ z, z ∈ l ∧ a ≤ z) = P
    by_cases hP : P <;> simp only [hP, or_true, or_false] <;> split <;> omega
theorem inB_iff (a b : Int) (x : Int) (l : List Int) : inB a b (x :: l) = true ↔ ¬ (minL x l < a) ∧ ¬ (b ≤ maxL x l) := by
  rw [foldL_lt, foldG_ge]
  simp only [inB, List.all_eq_true, List.mem_cons, Bool.and_eq_true, decide_eq_true_eq, not_or, not_exists, not_and]
  constructor
  · intro h
    have h0 := h x (.inl rfl)
    exact ⟨⟨by omega, fun y hy => by have := h y (.inr hy); omega⟩, ⟨by omega, fun y hy => by have := h y (.inr hy); omega⟩⟩
  · rintro ⟨⟨h1, h2⟩, h3, h4⟩ y hy
    rcases hy with rfl | hy
    · omega
    · have := h2 y hy; have := h4 y hy; omega

set_option maxRecDepth 20000 in
theorem dcheck_code {lk lim : Nat} {H : Heap} (nx rl : List Int) (h1 : nx.length ≤ 1000000) (h2 : rl.length ≤ 1000000) : callW X A lk lim 33 [.agg (Dv nx rl)] H = some (I (chkE nx rl), H) := by
  refine wb_callB [1] rfl A33 rfl rfl ?_
  unfold t33B
  have w : IntKind.i64.wrap (256 * (rl.length : Int)) = 256 * (rl.length : Int) := wrap64 (by omega) (by omega)
  by_cases a1 : rl.length < 1
  · have a1' : (rl.length : Int) < 1 := by omega
    have e : chkE nx rl = 2 := by
      unfold chkE chk
      rw [if_neg]; simp; omega
    rw [e]
    simp [a1']
  have a1' : ¬ (rl.length : Int) < 1 := by omega
  by_cases a2 : rl.length > 512
  · have a2' : (rl.length : Int) > 512 := by omega
    have e : chkE nx rl = 2 := by
      unfold chkE chk
      rw [if_neg]; simp; omega
    rw [e]
    simp [a1', a2']
  have a2' : ¬ (512 : Int) < rl.length := by omega
  by_cases a3 : nx.length = 256 * rl.length
  case neg =>
    have a3' : ¬ ((nx.length : Int) = 256 * (rl.length : Int)) := by omega
    have e : chkE nx rl = 2 := by
      unfold chkE chk
      rw [if_neg]; simp [a3]
    rw [e]
    simp [a1', a2', a3', w]
  have a3' : ((nx.length : Int) = 256 * (rl.length : Int)) := by omega
  have e0 : chkE nx rl = if inB (-1) 16 rl = true then (if inB (-1) rl.length nx = true then 0 else 2) else 2 := by
    unfold chkE chk
    have b1 : decide (1 ≤ rl.length) = true := by simp; omega
    have b2 : decide (rl.length ≤ 512) = true := by simp; omega
    have b3 : decide (nx.length = 256 * rl.length) = true := by simp; omega
    simp only [b1, b2, b3, Bool.true_and, Bool.and_eq_true]
    by_cases c1 : inB (-1) 16 rl = true <;> by_cases c2 : inB (-1) rl.length nx = true <;> simp [c1, c2]
  rw [e0]
  obtain ⟨x, rl', hrl⟩ : ∃ x l, rl = x :: l := by
    cases rl with
    | nil => simp at a1
    | cons x l => exact ⟨x, l, rfl⟩
  obtain ⟨y, nx', hnx⟩ : ∃ x l, nx = x :: l := by
    cases nx with
    | nil => simp at a3; omega
    | cons x l => exact ⟨x, l, rfl⟩
  have k1 := min_code (lk := lk) (lim := H.length) (H := H) x rl' (by rw [hrl] at h2; simp at h2; omega)
  have k2 := max_code (lk := lk) (lim := H.length) (H := H) x rl' (by rw [hrl] at h2; simp at h2; omega)
  have k3 := min_code (lk := lk) (lim := H.length) (H := H) y nx' (by rw [hnx] at h1; simp at h1; omega)
  have k4 := max_code (lk := lk) (lim := H.length) (H := H) y nx' (by rw [hnx] at h1; simp at h1; omega)
  have s1 : ints (x :: rl') = I x :: ints rl' := rfl
  have s2 : ints (y :: nx') = I y :: ints nx' := rfl
  have l1 : rl.length = rl'.length + 1 := by rw [hrl]; rfl
  have l2 : nx.length = nx'.length + 1 := by rw [hnx]; rfl
  rw [← l1, ← s1, ← hrl] at k1 k2
  rw [← l2, ← s2, ← hnx] at k3 k4
  have i1 := inB_iff (-1) 16 x rl'
  have i2 := inB_iff (-1) rl.length y nx'
  rw [← hrl] at i1
  rw [← hnx] at i2
  by_cases c1 : minL x rl' < -1
  · have hf : inB (-1) 16 rl = false := by
      cases h : inB (-1) 16 rl with
      | false => rfl
      | true => exact absurd c1 (i1.1 h).1
    simp [a1', a2', a3', w, k1, c1, hf]
  by_cases c2 : (16 : Int) ≤ maxL x rl'
  · have hf : inB (-1) 16 rl = false := by
      cases h : inB (-1) 16 rl with
      | false => rfl
      | true => exact absurd c2 (i1.1 h).2
    simp [a1', a2', a3', w, k1, c1, k2, c2, hf]
  have ht : inB (-1) 16 rl = true := i1.2 ⟨c1, c2⟩
  by_cases c3 : minL y nx' < -1
  · have hf : inB (-1) rl.length nx = false := by
      cases h : inB (-1) rl.length nx with
      | false => rfl
      | true => exact absurd c3 (i2.1 h).1
    simp [a1', a2', a3', w, k1, c1, k2, c2, ht, k3, c3, hf]
  by_cases c4 : (rl.length : Int) ≤ maxL y nx'
  · have hf : inB (-1) rl.length nx = false := by
      cases h : inB (-1) rl.length nx with
      | false => rfl
      | true => exact absurd c4 (i2.1 h).2
    simp [a1', a2', a3', w, k1, c1, k2, c2, ht, k3, c3, k4, c4, hf]
  have ht2 : inB (-1) rl.length nx = true := i2.2 ⟨c3, c4⟩
  simp [a1', a2', a3', w, k1, c1, k2, c2, ht, k3, c3, k4, c4, ht2]

/-! ### Next -/
def zL : List AV := [I 0, I 0, I 0, I 0]
def nextV (nx rl : List Int) (l : List UInt8) (a : Int) : AV :=
  if 0 ≤ a ∧ a < l.length ∧ chk nx rl = true then .tup [.agg (lexC a.toNat (nextM nx rl l a.toNat)), Bo true] else .tup [.agg zL, Bo false]
theorem chkE_pos {nx rl : List Int} (h : chk nx rl = true) : chkE nx rl = 0 := by unfold chkE; rw [if_pos h]
theorem chkE_neg {nx rl : List Int} (h : ¬ chk nx rl = true) : chkE nx rl = 2 := by unfold chkE; rw [if_neg h]
set_option maxRecDepth 20000 in
theorem mnext_code {lk lim : Nat} {H : Heap} (nx rl : List Int) (l : List UInt8) (a : Int) (h1 : nx.length ≤ 1000000) (h2 : rl.length ≤ 1000000) (h3 : l.length ≤ 1000000) : callW X A lk lim 17 [.agg (Dv nx rl), Sg l, I a] H = some (nextV nx rl l a, H) := by
  refine wb_callB [3, 6] rfl A17 rfl rfl ?_
  unfold t17B
  have kc := dcheck_code (lk := lk) (lim := H.length) (H := H) nx rl h1 h2
  by_cases c1 : a < 0
  · have e : nextV nx rl l a = .tup [.agg zL, Bo false] := by unfold nextV; rw [if_neg (by omega)]
    rw [e]
    simp [c1, replaceAt, zL]
  by_cases c2 : (l.length : Int) ≤ a
  · have e : nextV nx rl l a = .tup [.agg zL, Bo false] := by unfold nextV; rw [if_neg (by omega)]
    rw [e]
    simp [c1, c2, replaceAt, zL, Sg_size]
  by_cases c3 : chk nx rl = true
  case neg =>
    have e : nextV nx rl l a = .tup [.agg zL, Bo false] := by unfold nextV; rw [if_neg (by simp [c3])]
    rw [e]
    rw [chkE_neg c3] at kc
    simp [c1, c2, replaceAt, zL, Sg_size, kc]
  have e : nextV nx rl l a = .tup [.agg (lexC a.toNat (nextM nx rl l a.toNat)), Bo true] := by unfold nextV; rw [if_pos ⟨by omega, by omega, c3⟩]
  rw [e]
  rw [chkE_pos c3] at kc
  obtain ⟨a, rfl⟩ := Int.eq_ofNat_of_zero_le (by omega : 0 ≤ a)
  have kn := next_code (lk := lk) (lim := H.length) (H := H) (a := a) (chk_ok c3).1 (by omega) (by omega : l.length ≤ 1000000000000000)
  simp [c1, c2, replaceAt, zL, Sg_size, kc, kn, lexC]
end Go.Proofs.Ytoiolinclpiohaa
