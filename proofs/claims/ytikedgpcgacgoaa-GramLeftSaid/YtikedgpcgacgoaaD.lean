import Derived.Test.YtikedgpcgacgoaaC
set_option linter.unusedSimpArgs false
set_option linter.unusedVariables false
namespace Go.Proofs.Ytikedgpcgacgoaa
open Go Go.Hm

theorem any_nil {α : Type} (P : α → Bool) : ([] : List α).any P = false := rfl
set_option maxRecDepth 20000 in
theorem rcheck_code {lk lim : Nat} {H : Heap} (g : Gm) (hl : g.ps.length ≤ 1000000) (hr : ∀ p ∈ g.ps, p.r.length ≤ 1000000) : callW X A lk lim 27 [gV g] H = some (I (chkE g), H) := by
  refine wb_callB [1, 5] rfl A27 rfl rfl ?_
  unfold t27B
  obtain ⟨t, n, k, ps⟩ := g
  simp only at hl hr
  by_cases c1 : 8 < t
  · have e : chkE ⟨t, n, k, ps⟩ = 3 := by unfold chkE; rw [if_pos (by simp only; omega)]
    rw [e]
    simp [Gm.cells, c1]
  by_cases c2 : 16 < n
  · have e : chkE ⟨t, n, k, ps⟩ = 3 := by unfold chkE; rw [if_pos (by simp only; omega)]
    rw [e]
    simp [Gm.cells, c1, c2]
  by_cases c3 : 3 < k
  · have e : chkE ⟨t, n, k, ps⟩ = 3 := by unfold chkE; rw [if_pos (by simp only; omega)]
    rw [e]
    simp [Gm.cells, c1, c2, c3]
  by_cases c4 : 64 < ps.length
  · have e : chkE ⟨t, n, k, ps⟩ = 3 := by unfold chkE; rw [if_pos (by simp only; omega)]
    have c4' : (64 : Int) < ps.length := by omega
    rw [e]
    simp [Gm.cells, c1, c2, c3, c4']
  have c4' : ¬ (64 : Int) < ps.length := by omega
  have e1 : chkE ⟨t, n, k, ps⟩ = if (ps.any fun p => decide (8 < p.r.length)) = true then 3 else if t < 1 ∨ n < 1 ∨ k < 1 ∨ ps.length < 1 then 2 else if ps.any (badP ⟨t, n, k, ps⟩) = true then 2 else 0 := by
    rw [chkE, if_neg (by simp only; omega)]
  rw [e1]
  obtain ⟨b1, hb1⟩ : ∃ b1, (ps.any fun p => decide (8 < p.r.length)) = b1 := ⟨_, rfl⟩
  obtain ⟨b2, hb2⟩ : ∃ b2, ps.any (badP ⟨t, n, k, ps⟩) = b2 := ⟨_, rfl⟩
  rw [hb1, hb2]
  simp [Gm.cells, c1, c2, c3, c4']
  let bx : AV := .box [I t, I n, I k, .sl ps.length (psC ps)]
  refine wb_loop (σ := Nat) (fun i => [(1, bx), (3, I i)]) (fun _ => H) (fun i => i ≤ ps.length ∧ b1 = (ps.drop i).any fun p => decide (8 < p.r.length)) (fun i => ps.length - i) ?_ 0 ⟨by omega, by rw [← hb1]; rfl⟩ (by simp [bx]) rfl
  rintro i ⟨hi, hinv⟩
  unfold t27L1
  have w1 : IntKind.i64.wrap ((i : Int) + 1) = (i : Int) + 1 := wrap64 (by omega) (by omega)
  by_cases hil : i < ps.length
  · obtain ⟨p, hp⟩ : ∃ p, ps[i] = p := ⟨_, rfl⟩
    have hr := psC_r hil
    rw [hp] at hr
    rw [List.drop_eq_getElem_cons hil, hp, List.any_cons] at hinv
    by_cases d1 : 8 < p.r.length
    · have d1' : (8 : Int) < p.r.length := by omega
      rw [decide_eq_true d1, Bool.true_or] at hinv
      simp [bx, hil, hr, d1', hinv]
    · have d1' : ¬ (8 : Int) < p.r.length := by omega
      rw [decide_eq_false d1, Bool.false_or] at hinv
      simp [bx, hil, hr, d1', w1, rnd_nrm]
      exact ⟨i + 1, ⟨by omega, hinv⟩, by omega, by simp⟩
  obtain rfl : i = ps.length := by omega
  rw [List.drop_length, any_nil] at hinv
  subst hinv
  by_cases f1 : t < 1
  · simp [bx, f1]
  by_cases f2 : n < 1
  · simp [bx, f1, f2]
  by_cases f3 : k < 1
  · simp [bx, f1, f2, f3]
  by_cases f4 : ps.length < 1
  · have f4' : (ps.length : Int) < 1 := by omega
    simp [bx, f1, f2, f3, f4, f4']
    intro h
    exact absurd (List.length_eq_zero_iff.1 (by omega)) h
  have f4' : ¬ (ps.length : Int) < 1 := by omega
  have wtn : IntKind.i64.wrap (t + n) = t + n := wrap64 (by omega) (by omega)
  have hne : ps ≠ [] := by intro h; rw [h] at f4; simp at f4
  simp [bx, f1, f2, f3, f4', hne]
  refine wb_loop (σ := Nat) (fun i => [(1, bx), (4, I i)]) (fun _ => H) (fun i => i ≤ ps.length ∧ b2 = (ps.drop i).any (badP ⟨t, n, k, ps⟩)) (fun i => ps.length - i) ?_ 0 ⟨by omega, by rw [← hb2]; rfl⟩ (by simp [bx]) rfl
  rintro i ⟨hi, hinv⟩
  unfold t27L3
  have w1 : IntKind.i64.wrap ((i : Int) + 1) = (i : Int) + 1 := wrap64 (by omega) (by omega)
  by_cases hil : i < ps.length
  case neg =>
    obtain rfl : i = ps.length := by omega
    rw [List.drop_length, any_nil] at hinv
    subst hinv
    simp [bx]
  obtain ⟨p, hp⟩ : ∃ p, ps[i] = p := ⟨_, rfl⟩
  have hrp := hr p (hp ▸ List.getElem_mem hil)
  have hs := psC_sub hil
  have hll := psC_len ps
  have h2 : i * 2 + 2 ≤ 2 * ps.length := by omega
  rw [hp] at hs
  simp only [Pr.cells] at hs
  rw [List.drop_eq_getElem_cons hil, hp, List.any_cons] at hinv
  simp [-wi_stL, bx, hil, hll, hs, h2]
  rw [wi_stL]
  unfold badP at hinv
  simp only at hinv
  by_cases d1 : p.l < 0
  · rw [decide_eq_true d1] at hinv
    simp only [Bool.true_or] at hinv
    subst hinv
    simp [replaceAt, d1]
  rw [decide_eq_false d1] at hinv
  by_cases d2 : n ≤ p.l
  · rw [decide_eq_true d2] at hinv
    simp only [Bool.true_or, Bool.false_or] at hinv
    subst hinv
    simp [replaceAt, d1, d2]
  rw [decide_eq_false d2] at hinv
  simp only [Bool.false_or] at hinv
  simp [replaceAt, d1, d2]
  refine wb_loop (σ := Nat) (fun m => [(1, bx), (4, I i), (5, .box [I p.l, .sl p.r.length (ints p.r)]), (6, I m)]) (fun _ => H)
    (fun m => m ≤ p.r.length ∧ p.r.any (badS ⟨t, n, k, ps⟩) = (p.r.drop m).any (badS ⟨t, n, k, ps⟩)) (fun m => p.r.length - m) ?_ 0 ⟨by omega, rfl⟩ (by simp [bx]) rfl
  rintro m ⟨hm, hinv2⟩
  unfold t27L2
  have w2 : IntKind.i64.wrap ((m : Int) + 1) = (m : Int) + 1 := wrap64 (by omega) (by omega)
  by_cases hml : m < p.r.length
  case neg =>
    obtain rfl : m = p.r.length := by omega
    rw [List.drop_length, any_nil] at hinv2
    rw [hinv2, Bool.false_or] at hinv
    simp [bx, w1, rnd_nrm]
    exact ⟨i + 1, ⟨by omega, hinv⟩, by omega, by simp⟩
  obtain ⟨s, hsx⟩ : ∃ s, p.r[m] = s := ⟨_, rfl⟩
  rw [List.drop_eq_getElem_cons hml, hsx, List.any_cons] at hinv2
  unfold badS at hinv2
  simp only at hinv2
  by_cases e1 : s < 0
  · rw [decide_eq_true e1] at hinv2
    simp only [Bool.true_or] at hinv2
    have hb : b2 = true := by rw [hinv, show p.r.any (badS ⟨t, n, k, ps⟩) = true from hinv2]; rfl
    subst hb
    simp [bx, hml, hsx, e1]
  rw [decide_eq_false e1] at hinv2
  by_cases e2 : t + n ≤ s
  · rw [decide_eq_true e2] at hinv2
    simp only [Bool.true_or, Bool.false_or] at hinv2
    have hb : b2 = true := by rw [hinv, show p.r.any (badS ⟨t, n, k, ps⟩) = true from hinv2]; rfl
    subst hb
    simp [bx, hml, hsx, e1, e2, wtn]
  rw [decide_eq_false e2] at hinv2
  simp only [Bool.false_or] at hinv2
  simp [bx, hml, hsx, e1, e2, wtn, w2, rnd_nrm]
  exact ⟨m + 1, ⟨by omega, hinv2⟩, by omega, by simp⟩
end Go.Proofs.Ytikedgpcgacgoaa
