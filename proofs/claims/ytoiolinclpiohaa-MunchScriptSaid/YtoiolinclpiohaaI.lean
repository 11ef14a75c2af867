import Derived.Test.YtoiolinclpiohaaH
set_option linter.unusedSimpArgs false
set_option linter.unusedVariables false
namespace Go.Proofs.Ytoiolinclpiohaa
open Go Go.Hm

theorem light_code {lk lim : Nat} {H : Heap} (nx rl : List Int) (most : Nat) (hm : most ≤ 1000) : callW X A lk lim 12 [.agg (Dv nx rl), I most] H = some (Bo (decide (rl.length ≤ most) && decide (nx.length ≤ 256 * most)), H) := by
  refine wb_callB [2] rfl A12 rfl rfl ?_
  unfold t12B
  have w : IntKind.i64.wrap (256 * (most : Int)) = 256 * (most : Int) := wrap64 (by omega) (by omega)
  by_cases h : rl.length ≤ most
  · by_cases h2 : nx.length ≤ 256 * most
    · have h2' : (nx.length : Int) ≤ 256 * (most : Int) := by omega
      simp [h, h2, h2', w]
    · have h2' : ¬ (nx.length : Int) ≤ 256 * (most : Int) := by omega
      simp [h, h2, h2', w]
  · simp [h]

/-- May it be a table? -/
def inB (a b : Int) (l : List Int) : Bool := l.all fun x => decide (a ≤ x) && decide (x < b)
def chk (nx rl : List Int) : Bool := decide (1 ≤ rl.length) && decide (rl.length ≤ 512) && decide (nx.length = 256 * rl.length) && inB (-1) 16 rl && inB (-1) rl.length nx
def chkE (nx rl : List Int) : Int := if chk nx rl = true then 0 else 2
theorem inB_cons (a b x : Int) (l : List Int) : inB a b (x :: l) = (decide (a ≤ x) && decide (x < b) && inB a b l) := rfl
theorem chk_ok {nx rl : List Int} (h : chk nx rl = true) : TOk nx rl ∧ rl.length ≤ 512 ∧ ∀ x ∈ rl, x < 16 := by
  simp only [chk, inB, Bool.and_eq_true, decide_eq_true_eq, List.all_eq_true] at h
  obtain ⟨⟨⟨⟨h1, h2⟩, h3⟩, h4⟩, h5⟩ := h
  exact ⟨⟨h1, by omega, h3, h5, fun x hx => ⟨(h4 x hx).1, by have := (h4 x hx).2; omega⟩⟩, h2, fun x hx => (h4 x hx).2⟩

theorem check_code {lk lim : Nat} {H : Heap} (nx rl : List Int) (h1 : nx.length ≤ 1000000) (h2 : rl.length ≤ 1000000) : callW X A lk lim 13 [.agg (Dv nx rl)] H = some (I (chkE nx rl), H) := by
  refine wb_callB [1] rfl A13 rfl rfl ?_
  unfold t13B
  have w : IntKind.i64.wrap (256 * (rl.length : Int)) = 256 * (rl.length : Int) := wrap64 (by omega) (by omega)
  by_cases a1 : rl.length < 1
  · have a1' : (rl.length : Int) < 1 := by omega
    have e : chkE nx rl = 2 := by
      unfold chkE chk
      rw [if_neg]; simp; omega
    rw [e]
    simp [a1']
  have a1' : ¬ (rl.length : Int) < 1 := by omega
  by_cases a2 : rl.length > 512
  · have a2' : (rl.length : Int) > 512 := by omega
    have e : chkE nx rl = 2 := by
      unfold chkE chk
      rw [if_neg]; simp; omega
    rw [e]
    simp [a1', a2']
  have a2' : ¬ (512 : Int) < rl.length := by omega
  by_cases a3 : nx.length = 256 * rl.length
  case neg =>
    have a3' : ¬ ((nx.length : Int) = 256 * (rl.length : Int)) := by omega
    have e : chkE nx rl = 2 := by
      unfold chkE chk
      rw [if_neg]; simp [a3]
    rw [e]
    simp [a1', a2', a3', w]
  have a3' : ((nx.length : Int) = 256 * (rl.length : Int)) := by omega
  have e0 : chkE nx rl = if inB (-1) 16 rl = true then (if inB (-1) rl.length nx = true then 0 else 2) else 2 := by
    unfold chkE chk
    have b1 : decide (1 ≤ rl.length) = true := by simp; omega
    have b2 : decide (rl.length ≤ 512) = true := by simp; omega
    have b3 : decide (nx.length = 256 * rl.length) = true := by simp; omega
    simp only [b1, b2, b3, Bool.true_and, Bool.and_eq_true]
    by_cases c1 : inB (-1) 16 rl = true <;> by_cases c2 : inB (-1) rl.length nx = true <;> simp [c1, c2]
  rw [e0]
  simp [a1', a2', a3', w]
  let bx : AV := .box (Dv nx rl)
  refine wb_loop (σ := Nat) (fun k => [(1, bx), (3, I rl.length), (4, I k)])
    (fun _ => H) (fun k => k ≤ rl.length ∧ inB (-1) 16 rl = inB (-1) 16 (rl.drop k)) (fun k => rl.length - k) ?_ 0 (by simp) (by simp [bx]) rfl
  rintro k ⟨hk, hinv⟩
  unfold t13L1
  have hw : IntKind.i64.wrap ((k : Int) + 1) = (k : Int) + 1 := wrap64 (by omega) (by omega)
  simp [bx]
  refine wb_if (k < rl.length) (by simp) (fun hlt => ?_) (fun hge => ?_)
  · obtain ⟨x, hx⟩ : ∃ x, rl[k] = x := ⟨_, rfl⟩
    rw [List.drop_eq_getElem_cons hlt, hx, inB_cons] at hinv
    by_cases c1 : x < -1
    · have hf : inB (-1) 16 rl = false := by rw [hinv]; simp; omega
      simp [hlt, hx, c1, hf]
    · have c1' : decide (-1 ≤ x) = true := by simp; omega
      by_cases c2 : 16 ≤ x
      · have hf : inB (-1) 16 rl = false := by rw [hinv]; simp; omega
        simp [hlt, hx, c1, c2, hf]
      · have c2' : decide (x < 16) = true := by simp; omega
        simp [hlt, hx, c1, c2, hw, rnd_nrm]
        refine ⟨k + 1, ⟨by omega, ?_⟩, by omega, by simp⟩
        rw [hinv, c1', c2']; rfl
  · obtain rfl : k = rl.length := by omega
    rw [List.drop_length] at hinv
    have hr : inB (-1) 16 rl = true := by rw [hinv]; rfl
    simp [hr]
    refine wb_loop (σ := Nat) (fun k => [(1, bx), (3, I rl.length), (5, I k)])
      (fun _ => H) (fun k => k ≤ nx.length ∧ inB (-1) rl.length nx = inB (-1) rl.length (nx.drop k)) (fun k => nx.length - k) ?_ 0 (by simp) (by simp [bx]) rfl
    rintro k ⟨hk, hinv⟩
    unfold t13L2
    have hw : IntKind.i64.wrap ((k : Int) + 1) = (k : Int) + 1 := wrap64 (by omega) (by omega)
    simp [bx]
    refine wb_if (k < nx.length) (by simp) (fun hlt => ?_) (fun hge => ?_)
    · obtain ⟨x, hx⟩ : ∃ x, nx[k] = x := ⟨_, rfl⟩
      rw [List.drop_eq_getElem_cons hlt, hx, inB_cons] at hinv
      by_cases c1 : x < -1
      · have hf : inB (-1) rl.length nx = false := by rw [hinv]; simp; omega
        simp [hlt, hx, c1, hf]
      · have c1' : decide (-1 ≤ x) = true := by simp; omega
        by_cases c2 : (rl.length : Int) ≤ x
        · have hf : inB (-1) rl.length nx = false := by rw [hinv]; simp; omega
          simp [hlt, hx, c1, c2, hf]
        · have c2' : decide (x < rl.length) = true := by simp; omega
          simp [hlt, hx, c1, c2, hw, rnd_nrm]
          refine ⟨k + 1, ⟨by omega, ?_⟩, by omega, by simp⟩
          rw [hinv, c1', c2']; rfl
    · obtain rfl : k = nx.length := by omega
      rw [List.drop_length] at hinv
      have hr2 : inB (-1) rl.length nx = true := by rw [hinv]; rfl
      simp [hr2]

theorem pick_code {lk lim : Nat} {H : Heap} (n : Int) (m : Nat) (hm : m ≤ 1000000) (hn : -9223372036854775808 ≤ n ∧ n ≤ 9223372036854775807) : callW X A lk lim 15 [I n, I m] H = some (I (if m < 1 then 0 else n % m), H) := by
  refine wb_callB [] rfl A15 rfl rfl ?_
  unfold t15B
  by_cases h : m < 1
  · have h' : (m : Int) < 1 := by omega
    simp [h, h']
  have h' : ¬ (m : Int) < 1 := by omega
  have h0 : ¬ ((m : Int) = 0) := by omega
  have h00 : ¬ m = 0 := by omega
  have hnn := Int.emod_nonneg n (by omega : (m : Int) ≠ 0)
  have hmod := Int.emod_emod_of_dvd n (Int.dvd_refl m)
  by_cases hr : n.tmod m < 0
  · have e : n % m = n.tmod m + m := by
      have := Int.tmod_eq_emod (a := n) (b := m)
      split at this <;> omega
    have hlt := Int.lt_tmod_of_pos n (by omega : (0 : Int) < m)
    have w : IntKind.i64.wrap (n.tmod m + m) = n.tmod m + m := wrap64 (by omega) (by omega)
    simp [h, h', h00, hr, w, e]
  · have e : n % m = n.tmod m := by
      have := Int.tmod_eq_emod (a := n) (b := m)
      have h2 := Int.emod_lt_of_pos n (by omega : (0 : Int) < m)
      split at this <;> omega
    simp [h, h', h00, hr, e]
end Go.Proofs.Ytoiolinclpiohaa
