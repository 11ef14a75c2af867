import Derived.Test.YtdbbaopgmapmaaaD
set_option linter.unusedSimpArgs false
set_option linter.unusedVariables false
namespace Go.Proofs.Ytdbbaopgmapmaaa
open Go Go.Hm

def nxA (nx : List Int) (st : Int) (b : UInt8) : Int := nx.getD (256 * st.toNat + b.toNat) 0
def rlA (rl : List Int) (st : Int) : Int := rl.getD st.toNat 0
/-- A table that may be. -/
structure TOk (nx rl : List Int) : Prop where
  one : 1 ≤ rl.length
  most : rl.length ≤ 1000000
  len : nx.length = 256 * rl.length
  nxb : ∀ x ∈ nx, -1 ≤ x ∧ x < rl.length
  rlb : ∀ x ∈ rl, -1 ≤ x ∧ x < 1000000
abbrev Dv (nx rl : List Int) : List AV := [.sl nx.length (ints nx), .sl rl.length (ints rl)]
theorem light_code {lk lim : Nat} {H : Heap} (nx rl : List Int) (most : Nat) (hm : most ≤ 1000) : callW X A lk lim 10 [.agg (Dv nx rl), I most] H = some (Bo (decide (rl.length ≤ most) && decide (nx.length ≤ 256 * most)), H) := by
  refine wb_callB [2] rfl A10 rfl rfl ?_
  unfold t10B
  have w : IntKind.i64.wrap (256 * (most : Int)) = 256 * (most : Int) := wrap64 (by omega) (by omega)
  by_cases h : rl.length ≤ most
  · by_cases h2 : nx.length ≤ 256 * most
    · have h2' : (nx.length : Int) ≤ 256 * (most : Int) := by omega
      simp [h, h2, h2', w]
    · have h2' : ¬ (nx.length : Int) ≤ 256 * (most : Int) := by omega
      simp [h, h2, h2', w]
  · simp [h]

/-- May it be a table? -/
def inB (a b : Int) (l : List Int) : Bool := l.all fun x => decide (a ≤ x) && decide (x < b)
def chk (nx rl : List Int) : Bool := decide (1 ≤ rl.length) && decide (rl.length ≤ 512) && decide (nx.length = 256 * rl.length) && inB (-1) 16 rl && inB (-1) rl.length nx
def chkE (nx rl : List Int) : Int := if chk nx rl = true then 0 else 2
theorem inB_cons (a b x : Int) (l : List Int) : inB a b (x :: l) = (decide (a ≤ x) && decide (x < b) && inB a b l) := rfl
theorem chk_ok {nx rl : List Int} (h : chk nx rl = true) : TOk nx rl ∧ rl.length ≤ 512 ∧ ∀ x ∈ rl, x < 16 := by
  simp only [chk, inB, Bool.and_eq_true, decide_eq_true_eq, List.all_eq_true] at h
  obtain ⟨⟨⟨⟨h1, h2⟩, h3⟩, h4⟩, h5⟩ := h
  exact ⟨⟨h1, by omega, h3, h5, fun x hx => ⟨(h4 x hx).1, by have := (h4 x hx).2; omega⟩⟩, h2, fun x hx => (h4 x hx).2⟩

theorem check_code {lk lim : Nat} {H : Heap} (nx rl : List Int) (h1 : nx.length ≤ 1000000) (h2 : rl.length ≤ 1000000) : callW X A lk lim 11 [.agg (Dv nx rl)] H = some (I (chkE nx rl), H) := by
  refine wb_callB [1] rfl A11 rfl rfl ?_
  unfold t11B
  have w : IntKind.i64.wrap (256 * (rl.length : Int)) = 256 * (rl.length : Int) := wrap64 (by omega) (by omega)
  by_cases a1 : rl.length < 1
  · have a1' : (rl.length : Int) < 1 := by omega
    have e : chkE nx rl = 2 := by
      unfold chkE chk
      rw [if_neg]; simp; omega
    rw [e]
    simp [a1']
  have a1' : ¬ (rl.length : Int) < 1 := by omega
  by_cases a2 : rl.length > 512
  · have a2' : (rl.length : Int) > 512 := by omega
    have e : chkE nx rl = 2 := by
      unfold chkE chk
      rw [if_neg]; simp; omega
    rw [e]
    simp [a1', a2']
  have a2' : ¬ (512 : Int) < rl.length := by omega
  by_cases a3 : nx.length = 256 * rl.length
  case neg =>
    have a3' : ¬ ((nx.length : Int) = 256 * (rl.length : Int)) := by omega
    have e : chkE nx rl = 2 := by
      unfold chkE chk
      rw [if_neg]; simp [a3]
    rw [e]
    simp [a1', a2', a3', w]
  have a3' : ((nx.length : Int) = 256 * (rl.length : Int)) := by omega
  have e0 : chkE nx rl = if inB (-1) 16 rl = true then (if inB (-1) rl.length nx = true then 0 else 2) else 2 := by
    unfold chkE chk
    have b1 : decide (1 ≤ rl.length) = true := by simp; omega
    have b2 : decide (rl.length ≤ 512) = true := by simp; omega
    have b3 : decide (nx.length = 256 * rl.length) = true := by simp; omega
    simp only [b1, b2, b3, Bool.true_and, Bool.and_eq_true]
    by_cases c1 : inB (-1) 16 rl = true <;> by_cases c2 : inB (-1) rl.length nx = true <;> simp [c1, c2]
  rw [e0]
  simp [a1', a2', a3', w]
  let bx : AV := .box (Dv nx rl)
  refine wb_loop (σ := Nat) (fun k => [(1, bx), (3, I rl.length), (4, I k)])
    (fun _ => H) (fun k => k ≤ rl.length ∧ inB (-1) 16 rl = inB (-1) 16 (rl.drop k)) (fun k => rl.length - k) ?_ 0 (by simp) (by simp [bx]) rfl
  rintro k ⟨hk, hinv⟩
  unfold t11L1
  have hw : IntKind.i64.wrap ((k : Int) + 1) = (k : Int) + 1 := wrap64 (by omega) (by omega)
  simp [bx]
  refine wb_if (k < rl.length) (by simp) (fun hlt => ?_) (fun hge => ?_)
  · obtain ⟨x, hx⟩ : ∃ x, rl[k] = x := ⟨_, rfl⟩
    rw [List.drop_eq_getElem_cons hlt, hx, inB_cons] at hinv
    by_cases c1 : x < -1
    · have hf : inB (-1) 16 rl = false := by rw [hinv]; simp; omega
      simp [hlt, hx, c1, hf]
    · have c1' : decide (-1 ≤ x) = true := by simp; omega
      by_cases c2 : 16 ≤ x
      · have hf : inB (-1) 16 rl = false := by rw [hinv]; simp; omega
        simp [hlt, hx, c1, c2, hf]
      · have c2' : decide (x < 16) = true := by simp; omega
        simp [hlt, hx, c1, c2, hw, rnd_nrm]
        refine ⟨k + 1, ⟨by omega, ?_⟩, by omega, by simp⟩
        rw [hinv, c1', c2']; rfl
  · obtain rfl : k = rl.length := by omega
    rw [List.drop_length] at hinv
    have hr : inB (-1) 16 rl = true := by rw [hinv]; rfl
    simp [hr]
    refine wb_loop (σ := Nat) (fun k => [(1, bx), (3, I rl.length), (5, I k)])
      (fun _ => H) (fun k => k ≤ nx.length ∧ inB (-1) rl.length nx = inB (-1) rl.length (nx.drop k)) (fun k => nx.length - k) ?_ 0 (by simp) (by simp [bx]) rfl
    rintro k ⟨hk, hinv⟩
    unfold t11L2
    have hw : IntKind.i64.wrap ((k : Int) + 1) = (k : Int) + 1 := wrap64 (by omega) (by omega)
    simp [bx]
    refine wb_if (k < nx.length) (by simp) (fun hlt => ?_) (fun hge => ?_)
    · obtain ⟨x, hx⟩ : ∃ x, nx[k] = x := ⟨_, rfl⟩
      rw [List.drop_eq_getElem_cons hlt, hx, inB_cons] at hinv
      by_cases c1 : x < -1
      · have hf : inB (-1) rl.length nx = false := by rw [hinv]; simp; omega
        simp [hlt, hx, c1, hf]
      · have c1' : decide (-1 ≤ x) = true := by simp; omega
        by_cases c2 : (rl.length : Int) ≤ x
        · have hf : inB (-1) rl.length nx = false := by rw [hinv]; simp; omega
          simp [hlt, hx, c1, c2, hf]
        · have c2' : decide (x < rl.length) = true := by simp; omega
          simp [hlt, hx, c1, c2, hw, rnd_nrm]
          refine ⟨k + 1, ⟨by omega, ?_⟩, by omega, by simp⟩
          rw [hinv, c1', c2']; rfl
    · obtain rfl : k = nx.length := by omega
      rw [List.drop_length] at hinv
      have hr2 : inB (-1) rl.length nx = true := by rw [hinv]; rfl
      simp [hr2]

/-! ### The program's check -/
theorem foldL_lt : ∀ (l : List Int) (x : Int) (a : Int), (minL x l < a ↔ x < a ∨ ∃ y ∈ l, y < a)
  | [], x, a => by simp [minL]
  | y :: l, x, a => by
    simp only [minL, foldL_lt l, List.mem_cons, exists_eq_or_imp]
    generalize (∃ z, z ∈ l ∧ z < a) = P
    by_cases hP : P <;> simp only [hP, or_true, or_false] <;> split <;> omega
theorem foldG_ge : ∀ (l : List Int) (x : Int) (a : Int), (a ≤ maxL x l ↔ a ≤ x ∨ ∃ y ∈ l, a ≤ y)
  | [], x, a => by simp [maxL]
  | y :: l, x, a => by
    simp only [maxL, foldG_ge l, List.mem_cons, exists_eq_or_imp]
    generalize (∃ z, z ∈ l ∧ a ≤ z) = P
    by_cases hP : P <;> simp only [hP, or_true, or_false] <;> split <;> omega
theorem inB_iff (a b : Int) (x : Int) (l : List Int) : inB a b (x :: l) = true ↔ ¬ (minL x l < a) ∧ ¬ (b ≤ maxL x l) := by
  rw [foldL_lt, foldG_ge]
  simp only [inB, List.all_eq_true, List.mem_cons, Bool.and_eq_true, decide_eq_true_eq, not_or, not_exists, not_and]
  constructor
  · intro h
    have h0 := h x (.inl rfl)
    exact ⟨⟨by omega, fun y hy => by have := h y (.inr hy); omega⟩, ⟨by omega, fun y hy => by have := h y (.inr hy); omega⟩⟩
  · rintro ⟨⟨h1, h2⟩, h3, h4⟩ y hy
    rcases hy with rfl | hy
    · omega
    · have := h2 y hy; have := h4 y hy; omega

set_option maxRecDepth 20000 in
theorem dcheck_code {lk lim : Nat} {H : Heap} (nx rl : List Int) (h1 : nx.length ≤ 1000000) (h2 : rl.length ≤ 1000000) : callW X A lk lim 27 [.agg (Dv nx rl)] H = some (I (chkE nx rl), H) := by
  refine wb_callB [1] rfl A27 rfl rfl ?_
  unfold t27B
  have w : IntKind.i64.wrap (256 * (rl.length : Int)) = 256 * (rl.length : Int) := wrap64 (by omega) (by omega)
  by_cases a1 : rl.length < 1
  · have a1' : (rl.length : Int) < 1 := by omega
    have e : chkE nx rl = 2 := by
      unfold chkE chk
      rw [if_neg]; simp; omega
    rw [e]
    simp [a1']
  have a1' : ¬ (rl.length : Int) < 1 := by omega
  by_cases a2 : rl.length > 512
  · have a2' : (rl.length : Int) > 512 := by omega
    have e : chkE nx rl = 2 := by
      unfold chkE chk
      rw [if_neg]; simp; omega
    rw [e]
    simp [a1', a2']
  have a2' : ¬ (512 : Int) < rl.length := by omega
  by_cases a3 : nx.length = 256 * rl.length
  case neg =>
    have a3' : ¬ ((nx.length : Int) = 256 * (rl.length : Int)) := by omega
    have e : chkE nx rl = 2 := by
      unfold chkE chk
      rw [if_neg]; simp [a3]
    rw [e]
    simp [a1', a2', a3', w]
  have a3' : ((nx.length : Int) = 256 * (rl.length : Int)) := by omega
  have e0 : chkE nx rl = if inB (-1) 16 rl = true then (if inB (-1) rl.length nx = true then 0 else 2) else 2 := by
    unfold chkE chk
    have b1 : decide (1 ≤ rl.length) = true := by simp; omega
    have b2 : decide (rl.length ≤ 512) = true := by simp; omega
    have b3 : decide (nx.length = 256 * rl.length) = true := by simp; omega
    simp only [b1, b2, b3, Bool.true_and, Bool.and_eq_true]
    by_cases c1 : inB (-1) 16 rl = true <;> by_cases c2 : inB (-1) rl.length nx = true <;> simp [c1, c2]
  rw [e0]
  obtain ⟨x, rl', hrl⟩ : ∃ x l, rl = x :: l := by
    cases rl with
    | nil => simp at a1
    | cons x l => exact ⟨x, l, rfl⟩
  obtain ⟨y, nx', hnx⟩ : ∃ x l, nx = x :: l := by
    cases nx with
    | nil => simp at a3; omega
    | cons x l => exact ⟨x, l, rfl⟩
  have k1 := min_code (lk := lk) (lim := H.length) (H := H) x rl' (by rw [hrl] at h2; simp at h2; omega)
  have k2 := max_code (lk := lk) (lim := H.length) (H := H) x rl' (by rw [hrl] at h2; simp at h2; omega)
  have k3 := min_code (lk := lk) (lim := H.length) (H := H) y nx' (by rw [hnx] at h1; simp at h1; omega)
  have k4 := max_code (lk := lk) (lim := H.length) (H := H) y nx' (by rw [hnx] at h1; simp at h1; omega)
  have s1 : ints (x :: rl') = I x :: ints rl' := rfl
  have s2 : ints (y :: nx') = I y :: ints nx' := rfl
  have l1 : rl.length = rl'.length + 1 := by rw [hrl]; rfl
  have l2 : nx.length = nx'.length + 1 := by rw [hnx]; rfl
  rw [← l1, ← s1, ← hrl] at k1 k2
  rw [← l2, ← s2, ← hnx] at k3 k4
  have i1 := inB_iff (-1) 16 x rl'
  have i2 := inB_iff (-1) rl.length y nx'
  rw [← hrl] at i1
  rw [← hnx] at i2
  by_cases c1 : minL x rl' < -1
  · have hf : inB (-1) 16 rl = false := by
      cases h : inB (-1) 16 rl with
      | false => rfl
      | true => exact absurd c1 (i1.1 h).1
    simp [a1', a2', a3', w, k1, c1, hf]
  by_cases c2 : (16 : Int) ≤ maxL x rl'
  · have hf : inB (-1) 16 rl = false := by
      cases h : inB (-1) 16 rl with
      | false => rfl
      | true => exact absurd c2 (i1.1 h).2
    simp [a1', a2', a3', w, k1, c1, k2, c2, hf]
  have ht : inB (-1) 16 rl = true := i1.2 ⟨c1, c2⟩
  by_cases c3 : minL y nx' < -1
  · have hf : inB (-1) rl.length nx = false := by
      cases h : inB (-1) rl.length nx with
      | false => rfl
      | true => exact absurd c3 (i2.1 h).1
    simp [a1', a2', a3', w, k1, c1, k2, c2, ht, k3, c3, hf]
  by_cases c4 : (rl.length : Int) ≤ maxL y nx'
  · have hf : inB (-1) rl.length nx = false := by
      cases h : inB (-1) rl.length nx with
      | false => rfl
      | true => exact absurd c4 (i2.1 h).2
    simp [a1', a2', a3', w, k1, c1, k2, c2, ht, k3, c3, k4, c4, hf]
  have ht2 : inB (-1) rl.length nx = true := i2.2 ⟨c3, c4⟩
  simp [a1', a2', a3', w, k1, c1, k2, c2, ht, k3, c3, k4, c4, ht2]

theorem chkE_pos {nx rl : List Int} (h : chk nx rl = true) : chkE nx rl = 0 := by unfold chkE; rw [if_pos h]
theorem chkE_neg {nx rl : List Int} (h : ¬ chk nx rl = true) : chkE nx rl = 2 := by unfold chkE; rw [if_neg h]
end Go.Proofs.Ytdbbaopgmapmaaa
