import Derived.Test.YtikedgpcgacgoaaW
set_option linter.unusedSimpArgs false
set_option linter.unusedVariables false
namespace Go.Proofs.Ytikedgpcgacgoaa
open Go Go.Hm

/-! ### Counting -/
def inc (s : List Int) (x : Nat) : List Int := s.set x (IntKind.i64.wrap (s.getD x 0 + 1))
def seenM (ps : List Pr) (i m : Nat) : List Int := (List.range ps.length).map fun x => if (ps.getD x ⟨0, []⟩).l < i ∨ ((ps.getD x ⟨0, []⟩).l = i ∧ x < m) then 1 else 0
theorem seenM_len (ps : List Pr) (i m : Nat) : (seenM ps i m).length = ps.length := by simp [seenM]
theorem seenM_get (ps : List Pr) (i m x : Nat) (h : x < ps.length) : (seenM ps i m)[x]? = some (if (ps.getD x ⟨0, []⟩).l < i ∨ ((ps.getD x ⟨0, []⟩).l = i ∧ x < m) then 1 else 0) := by
  simp [seenM, h]
theorem inc_seen (ps : List Pr) (i m : Nat) (h : m < ps.length) (hl : (ps.getD m ⟨0, []⟩).l = i) : inc (seenM ps i m) m = seenM ps i (m + 1) := by
  apply List.ext_getElem?
  intro x
  unfold inc
  rw [List.getElem?_set, seenM_len]
  rcases Nat.lt_or_ge x ps.length with hx | hx
  · rw [seenM_get _ _ _ _ hx]
    by_cases hmx : m = x
    · subst hmx
      rw [if_pos rfl, if_pos h, List.getD_eq_getElem?_getD, seenM_get ps i m _ h, if_neg (by omega), seenM_get ps i (m + 1) _ h, if_pos (.inr ⟨hl, by omega⟩)]
      rfl
    · rw [if_neg hmx, seenM_get _ _ _ _ hx]
      congr 1
      by_cases h1 : (ps.getD x ⟨0, []⟩).l < i ∨ ((ps.getD x ⟨0, []⟩).l = i ∧ x < m)
      · rw [if_pos h1, if_pos (by omega)]
      · rw [if_neg h1, if_neg (by omega)]
  · rw [if_neg (by omega), List.getElem?_eq_none (by rw [seenM_len]; omega), List.getElem?_eq_none (by rw [seenM_len]; omega)]
theorem seen_skip (ps : List Pr) (i m : Nat) (hl : ¬ (ps.getD m ⟨0, []⟩).l = i) : seenM ps i (m + 1) = seenM ps i m := by
  unfold seenM
  apply List.map_congr_left
  intro x hx
  by_cases hmx : x = m
  · subst hmx
    by_cases h1 : (ps.getD x ⟨0, []⟩).l < i
    · rw [if_pos (.inl h1), if_pos (.inl h1)]
    · rw [if_neg (by omega), if_neg (by omega)]
  · by_cases h1 : (ps.getD x ⟨0, []⟩).l < i ∨ ((ps.getD x ⟨0, []⟩).l = i ∧ x < m)
    · rw [if_pos h1, if_pos (by omega)]
    · rw [if_neg h1, if_neg (by omega)]
theorem fold_inc (ps : List Pr) (i : Nat) : ∀ m, m ≤ ps.length → (ofN ps i m).foldl inc (seenM ps i 0) = seenM ps i m
  | 0, _ => rfl
  | m + 1, h => by
    have gD : ps.getD m ⟨0, []⟩ = ps[m] := by rw [List.getD_eq_getElem?_getD, List.getElem?_eq_getElem (by omega)]; rfl
    rw [ofN_succ _ _ _ (by omega)]
    by_cases hl : ps[m].l = i
    · rw [if_pos hl, List.foldl_append, fold_inc ps i m (by omega)]
      exact inc_seen ps i m (by omega) (by rw [gD]; exact hl)
    · rw [if_neg hl, fold_inc ps i m (by omega), seen_skip ps i m (by rw [gD]; exact hl)]
theorem seen_next (ps : List Pr) (i : Nat) : seenM ps i ps.length = seenM ps (i + 1) 0 := by
  unfold seenM
  apply List.map_congr_left
  intro x hx
  have hx := List.mem_range.1 hx
  by_cases h1 : (ps.getD x ⟨0, []⟩).l < i ∨ ((ps.getD x ⟨0, []⟩).l = i ∧ x < ps.length)
  · rw [if_pos h1, if_pos (by omega)]
  · rw [if_neg h1, if_neg (by omega)]
theorem inc_len (s : List Int) (x : Nat) : (inc s x).length = s.length := by simp [inc]
theorem foldl_inc_len : ∀ (o : List Nat) (s : List Int), (o.foldl inc s).length = s.length
  | [], _ => rfl
  | x :: o, s => by rw [List.foldl_cons, foldl_inc_len o, inc_len]
theorem ofN_sorted {ps : List Pr} {left : Int} {m j k : Nat} (hjk : j < k) (hk : k < (ofN ps left m).length) : (ofN ps left m)[j]'(by omega) < (ofN ps left m)[k] := by
  have h : (ofN ps left m).Pairwise (· < ·) := by
    unfold ofN
    exact List.Pairwise.filter _ List.pairwise_lt_range
  exact List.pairwise_iff_getElem.1 h j k (by omega) hk hjk

/-! ### A copy that is changed -/
structure WC (n : Nat) (cs : List AV) (H : Heap) : Prop where
  len : cs.length = 2 * n
  blk : H[1]? = some (.cells cs)
  row : ∀ i, i < n → (∃ l, cs[i * 2]? = some (I l)) ∧ ∃ v, cs[i * 2 + 1]? = some v ∧ (v = .e0 ∨ ∃ b r, v = .hs b (List.length (α := Int) r) 0 r.length 1 ∧ b ≠ 1 ∧ H[b]? = some (.cells (ints r)))
theorem WC.left {n : Nat} {cs : List AV} {H : Heap} (h : WC n cs H) {i : Nat} (hi : i < n) (l : Int) : WC n (cs.set (i * 2) (I l)) (H.set 1 (.cells (cs.set (i * 2) (I l)))) := by
  have hb := get_ltG h.blk
  refine ⟨by rw [List.length_set]; exact h.len, by rw [List.getElem?_set_self hb], fun j hj => ?_⟩
  obtain ⟨⟨l', h1⟩, v, h2, h3⟩ := h.row j hj
  refine ⟨?_, v, by rw [List.getElem?_set_ne (by omega)]; exact h2, ?_⟩
  · rw [List.getElem?_set]
    split
    · rw [if_pos (by rw [h.len]; omega)]; exact ⟨l, rfl⟩
    · exact ⟨l', h1⟩
  · rcases h3 with h3 | ⟨b, r, h3, h4, h5⟩
    · exact .inl h3
    · exact .inr ⟨b, r, h3, h4, by rw [List.getElem?_set_ne (by omega)]; exact h5⟩
theorem WC.right {n : Nat} {cs : List AV} {H : Heap} (h : WC n cs H) {b : Nat} {r r' : List Int} (hb : b ≠ 1) (hr : H[b]? = some (.cells (ints r))) (hl : r'.length = r.length) : WC n cs (H.set b (.cells (ints r'))) := by
  have hbl := get_ltG hr
  refine ⟨h.len, by rw [List.getElem?_set_ne hb]; exact h.blk, fun j hj => ?_⟩
  obtain ⟨h1, v, h2, h3⟩ := h.row j hj
  refine ⟨h1, v, h2, ?_⟩
  rcases h3 with h3 | ⟨b', q, h3, h4, h5⟩
  · exact .inl h3
  · by_cases hbb : b = b'
    · subst hbb
      have e : ints r = ints q := by
        rw [hr] at h5
        simpa using h5
      have e2 : r.length = q.length := by
        have := congrArg List.length e
        simpa using this
      exact .inr ⟨b, r', by rw [h3, hl, e2], h4, by rw [List.getElem?_set_self hbl]⟩
    · exact .inr ⟨b', q, h3, h4, by rw [List.getElem?_set_ne hbb]; exact h5⟩
theorem list_of {α : Type} {n : Nat} {Q : Nat → α → Prop} (h : ∀ i, i < n → ∃ x, Q i x) : ∃ l : List α, l.length = n ∧ ∀ i (hi : i < l.length), Q i l[i] := by
  induction n with
  | zero => exact ⟨[], rfl, fun i hi => absurd hi (by simp)⟩
  | succ n ih =>
    obtain ⟨l, h1, h2⟩ := ih fun i hi => h i (by omega)
    obtain ⟨x, hx⟩ := h n (by omega)
    refine ⟨l ++ [x], by simp [h1], fun i hi => ?_⟩
    by_cases hil : i < l.length
    · rw [List.getElem_append_left hil]; exact h2 i hil
    · have : i = n := by simp at hi; omega
      subst this
      rw [List.getElem_append_right (by omega)]
      simpa using hx
theorem take2 {cs : List AV} {i : Nat} {a b : AV} (h1 : cs[i * 2]? = some a) (h2 : cs[i * 2 + 1]? = some b) : (cs.drop (i * 2)).take 2 = [a, b] := by
  obtain ⟨k1, rfl⟩ := List.getElem?_eq_some_iff.1 h1
  obtain ⟨k2, rfl⟩ := List.getElem?_eq_some_iff.1 h2
  rw [List.drop_eq_getElem_cons k1, List.drop_eq_getElem_cons k2]
  rfl
theorem WC.ps {n : Nat} {cs : List AV} {H : Heap} (h : WC n cs H) : ∃ ps : List Pr, ps.length = n ∧ PS H ps (.hs 1 (2 * n) 0 n 2) ∧ ∀ i (hi : i < ps.length), cs[i * 2]? = some (I ps[i].l) ∧ ∃ v, cs[i * 2 + 1]? = some v ∧ IS H ps[i].r v := by
  obtain ⟨ps, h1, h2⟩ := list_of (α := Pr) (n := n) (Q := fun i p => cs[i * 2]? = some (I p.l) ∧ ∃ v, cs[i * 2 + 1]? = some v ∧ IS H p.r v) fun i hi => by
    obtain ⟨⟨l, k1⟩, v, k2, k3⟩ := h.row i hi
    rcases k3 with rfl | ⟨b, r, rfl, k4, k5⟩
    · exact ⟨⟨l, []⟩, k1, _, k2, .e0 rfl⟩
    · exact ⟨⟨l, r⟩, k1, _, k2, .hs b k5⟩
  refine ⟨ps, h1, ?_, fun i hi => h2 i hi⟩
  rw [← h1]
  refine .hs 1 cs h.blk ⟨by rw [h.len, h1], fun i hi => ?_⟩
  obtain ⟨k1, v, k2, k3⟩ := h2 i hi
  exact ⟨v, take2 k1 k2, k3⟩
end Go.Proofs.Ytikedgpcgacgoaa
