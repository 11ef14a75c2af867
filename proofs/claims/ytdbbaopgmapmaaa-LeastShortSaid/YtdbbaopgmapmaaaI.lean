import Derived.Test.YtdbbaopgmapmaaaH
set_option linter.unusedSimpArgs false
set_option linter.unusedVariables false
namespace Go.Proofs.Ytdbbaopgmapmaaa
open Go Go.Hm

/-! ### Keys of a map, numbered as they come -/
def kEnt : List (List Int) → Nat → List (AV × AV)
  | [], _ => []
  | k :: r, j => (.agg (ints k), I j) :: kEnt r (j + 1)
def findK (key : List Int) : List (List Int) → Nat → Option Nat
  | [], _ => none
  | k :: r, j => if key = k then some j else findK key r (j + 1)
theorem kEnt_len : ∀ (l : List (List Int)) (j : Nat), (kEnt l j).length = l.length
  | [], _ => rfl
  | k :: r, j => by simp only [kEnt, List.length_cons, kEnt_len r]
theorem eqCells_ints : ∀ (a b : List Int), a.length = b.length → eqCells (List.replicate a.length 1) (ints a) (ints b) = some (decide (a = b))
  | [], [], _ => rfl
  | x :: a, y :: b, h => by
    have ih := eqCells_ints a b (by simpa using h)
    simp only [ints, List.length_cons, List.replicate_succ, List.map_cons, eqCells, eqScalar, if_pos] at ih ⊢
    rw [ih]
    by_cases h1 : x = y <;> by_cases h2 : a = b <;> simp [h1, h2]
  | [], _ :: _, h => by simp at h
  | _ :: _, [], h => by simp at h
theorem eqKey_ints {n : Nat} {a b : List Int} (ha : a.length = n) (hb : b.length = n) : eqKey true (List.replicate n 1) (.agg (ints a)) (.agg (ints b)) = some (decide (a = b)) := by
  have := eqCells_ints a b (by omega)
  rw [ha] at this
  simp only [eqKey, if_true]
  exact this
theorem keyOk_ints {n : Nat} {a : List Int} (ha : a.length = n) : keyOk true (List.replicate n 1) (.agg (ints a)) = true := by
  unfold keyOk
  rw [eqKey_ints ha ha]; simp
theorem mget_ents {n : Nat} {key : List Int} (hk : key.length = n) : ∀ (l : List (List Int)) (j : Nat), (∀ k ∈ l, k.length = n) → mget true (List.replicate n 1) (.agg (ints key)) (kEnt l j) = some ((findK key l j).map fun i => I (i : Nat))
  | [], _, _ => rfl
  | k :: r, j, h => by
    have ih := mget_ents hk r (j + 1) (fun x hx => h x (List.mem_cons_of_mem _ hx))
    simp only [kEnt, mget, findK, eqKey_ints hk (h k (List.mem_cons_self ..))]
    by_cases he : key = k
    · rw [if_pos he, decide_eq_true he]; rfl
    · rw [if_neg he, decide_eq_false he]; exact ih
theorem mset_ents {n : Nat} {key : List Int} (hk : key.length = n) : ∀ (l : List (List Int)) (j : Nat), (∀ k ∈ l, k.length = n) → findK key l j = none → mset true (List.replicate n 1) (.agg (ints key)) (I ((j + l.length : Nat) : Int)) (kEnt l j) = some (kEnt (l ++ [key]) j)
  | [], _, _, _ => rfl
  | k :: r, j, h, hn => by
    simp only [findK] at hn
    by_cases he : key = k
    · rw [if_pos he] at hn; cases hn
    · rw [if_neg he] at hn
      have ih := mset_ents hk r (j + 1) (fun x hx => h x (List.mem_cons_of_mem _ hx)) hn
      simp only [kEnt, mset, List.cons_append, eqKey_ints hk (h k (List.mem_cons_self ..)), decide_eq_false he]
      have e : j + (k :: r).length = j + 1 + r.length := by simp only [List.length_cons]; omega
      rw [e, ih]
theorem findK_lt {key : List Int} : ∀ (l : List (List Int)) (j i : Nat), findK key l j = some i → j ≤ i ∧ i < j + l.length ∧ l[i - j]? = some key
  | [], _, _, h => by cases h
  | k :: r, j, i, h => by
    simp only [findK] at h
    split at h
    · rename_i he
      cases h
      refine ⟨Nat.le_refl _, by simp, ?_⟩
      rw [Nat.sub_self, he]; rfl
    · obtain ⟨h1, h2, h3⟩ := findK_lt r (j + 1) i h
      refine ⟨by omega, by simp only [List.length_cons]; omega, ?_⟩
      have e : i - j = (i - (j + 1)) + 1 := by omega
      rw [e, List.getElem?_cons_succ, h3]
theorem findK_none {key : List Int} : ∀ (l : List (List Int)) (j : Nat), findK key l j = none → key ∉ l
  | [], _, _ => by simp
  | k :: r, j, h => by
    simp only [findK] at h
    split at h
    · cases h
    · rename_i he
      have := findK_none r (j + 1) h
      simp [he, this]

/-! ### A round of parting -/
def keyS (nx p : List Int) (i : Nat) : List Int := p.getD i 0 :: (rowV nx i).map fun t => if 0 ≤ t then p.getD t.toNat 0 else -1
def stepR (nx p : List Int) (s : List (List Int) × List Int) (i : Nat) : List (List Int) × List Int :=
  if p.getD i 0 < 0 then (s.1, s.2 ++ [-1]) else match findK (keyS nx p i) s.1 0 with
    | some k => (s.1, s.2 ++ [(k : Int)])
    | none => (s.1 ++ [keyS nx p i], s.2 ++ [(s.1.length : Int)])
def roundK (nx p : List Int) (i : Nat) : List (List Int) × List Int := (List.range i).foldl (stepR nx p) ([], [])
theorem roundK_succ (nx p : List Int) (i : Nat) : roundK nx p (i + 1) = stepR nx p (roundK nx p i) i := by
  unfold roundK
  rw [List.range_succ, List.foldl_append]; rfl
theorem roundK_len (nx p : List Int) : ∀ i, (roundK nx p i).2.length = i ∧ (roundK nx p i).1.length ≤ i
  | 0 => ⟨rfl, Nat.le_refl _⟩
  | i + 1 => by
    obtain ⟨h1, h2⟩ := roundK_len nx p i
    rw [roundK_succ]
    unfold stepR
    split
    · simp only [List.length_append, List.length_cons, List.length_nil]; omega
    · split <;> simp only [List.length_append, List.length_cons, List.length_nil] <;> omega
theorem keyS_len {nx p : List Int} {i n : Nat} (h : nx.length = 256 * n) (hi : i < n) : (keyS nx p i).length = 257 := by
  unfold keyS
  simp only [List.length_cons, List.length_map, rowV_len h hi]
theorem roundK_keys {nx p : List Int} {n : Nat} (h : nx.length = 256 * n) : ∀ i, i ≤ n → ∀ k ∈ (roundK nx p i).1, k.length = 257
  | 0, _, k, hk => by simp [roundK] at hk
  | i + 1, hi, k, hk => by
    have ih := roundK_keys (p := p) h i (by omega)
    rw [roundK_succ] at hk
    unfold stepR at hk
    split at hk
    · exact ih k hk
    · split at hk
      · exact ih k hk
      · rcases List.mem_append.1 hk with hk | hk
        · exact ih k hk
        · obtain rfl := List.mem_singleton.1 hk
          exact keyS_len h (by omega)
/-- What a round tells: each entry is -1, or the number of its key. -/
theorem roundK_get {nx p : List Int} : ∀ i, ∀ j, j < i → ((p.getD j 0 < 0 ∧ (roundK nx p i).2[j]? = some (-1)) ∨ (0 ≤ p.getD j 0 ∧ ∃ k : Nat, (roundK nx p i).2[j]? = some (k : Int) ∧ (roundK nx p i).1[k]? = some (keyS nx p j)))
  | 0, j, h => by omega
  | i + 1, j, h => by
    obtain ⟨l1, l2⟩ := roundK_len nx p i
    rw [roundK_succ]
    by_cases hj : j < i
    · have ih := roundK_get (nx := nx) (p := p) i j hj
      have a1 : ∀ x, ((roundK nx p i).2 ++ [x])[j]? = (roundK nx p i).2[j]? := fun x => List.getElem?_append_left (by omega)
      unfold stepR
      split
      · rw [a1]; exact ih
      · split
        · rw [a1]; exact ih
        · rw [a1]
          rcases ih with ih | ⟨h1, k, h2, h3⟩
          · exact .inl ih
          · refine .inr ⟨h1, k, h2, ?_⟩
            have : k < (roundK nx p i).1.length := by
              rcases Nat.lt_or_ge k (roundK nx p i).1.length with h | h
              · exact h
              · rw [List.getElem?_eq_none h] at h3; cases h3
            simp only
            rw [List.getElem?_append_left this]; exact h3
    · obtain rfl : j = i := by omega
      have a1 : ∀ x, ((roundK nx p j).2 ++ [x])[j]? = some x := fun x => by
        rw [List.getElem?_append_right (by omega), l1]; simp
      unfold stepR
      split
      · rename_i hp
        exact .inl ⟨hp, a1 _⟩
      · rename_i hp
        split
        · rename_i k hk
          obtain ⟨_, _, h3⟩ := findK_lt _ _ _ hk
          exact .inr ⟨by omega, k, a1 _, by simpa using h3⟩
        · refine .inr ⟨by omega, (roundK nx p j).1.length, a1 _, ?_⟩
          rw [List.getElem?_append_right (Nat.le_refl _)]; simp
/-- Each key is one that some state has. -/
theorem roundK_from {nx p : List Int} : ∀ i, ∀ (k : Nat) key, (roundK nx p i).1[k]? = some key → ∃ j, j < i ∧ (roundK nx p i).2[j]? = some (k : Int) ∧ key = keyS nx p j ∧ 0 ≤ p.getD j 0
  | 0, k, key, h => by simp [roundK] at h
  | i + 1, k, key, h => by
    obtain ⟨l1, l2⟩ := roundK_len nx p i
    have ih := roundK_from (nx := nx) (p := p) i k key
    have a1 : ∀ (x : Int) (j : Nat), j < i → ((roundK nx p i).2 ++ [x])[j]? = (roundK nx p i).2[j]? := fun x j hj => List.getElem?_append_left (by omega)
    rw [roundK_succ] at h ⊢
    unfold stepR at h ⊢
    split at h
    · rename_i hp
      rw [if_pos hp]
      obtain ⟨j, h1, h2, h3⟩ := ih h
      exact ⟨j, by omega, by rw [a1 _ _ h1]; exact h2, h3⟩
    · rename_i hp
      rw [if_neg hp]
      cases hk : findK (keyS nx p i) (roundK nx p i).1 0 with
      | some k2 =>
        rw [hk] at h
        obtain ⟨j, h1, h2, h3⟩ := ih h
        exact ⟨j, by omega, by simp only; rw [a1 _ _ h1]; exact h2, h3⟩
      | none =>
        rw [hk] at h
        simp only at h ⊢
        by_cases hlt : k < (roundK nx p i).1.length
        · rw [List.getElem?_append_left hlt] at h
          obtain ⟨j, h1, h2, h3⟩ := ih h
          exact ⟨j, by omega, by rw [a1 _ _ h1]; exact h2, h3⟩
        · rw [List.getElem?_append_right (by omega)] at h
          have hz : k - (roundK nx p i).1.length = 0 := by
            rcases Nat.eq_zero_or_pos (k - (roundK nx p i).1.length) with h1 | h1
            · exact h1
            · rw [List.getElem?_eq_none (by simp; omega)] at h; cases h
          rw [hz] at h
          refine ⟨i, by omega, ?_, by simpa using h.symm, by omega⟩
          rw [List.getElem?_append_right (by omega), l1]
          have : k = (roundK nx p i).1.length := by omega
          simp [this]
end Go.Proofs.Ytdbbaopgmapmaaa
