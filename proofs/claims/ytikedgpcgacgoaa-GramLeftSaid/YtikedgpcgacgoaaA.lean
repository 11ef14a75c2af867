import Derived.Test.YtikedgpcgacgoaaT
set_option linter.unusedSimpArgs false
set_option linter.unusedVariables false
namespace Go.Proofs.Ytikedgpcgacgoaa
open Go Go.Hm

/-- A production; a grammar. -/
structure Pr where
  l : Int
  r : List Int
structure Gm where
  t : Int
  n : Int
  k : Int
  ps : List Pr
def Pr.cells (p : Pr) : List AV := [I p.l, .sl p.r.length (ints p.r)]
def psC : List Pr → List AV
  | [] => []
  | p :: l => p.cells ++ psC l
def Gm.cells (g : Gm) : List AV := [I g.t, I g.n, I g.k, .sl g.ps.length (psC g.ps)]
abbrev gV (g : Gm) : AV := .agg g.cells
theorem psC_len : ∀ l : List Pr, (psC l).length = 2 * l.length
  | [] => rfl
  | x :: l => by simp only [psC, Pr.cells, List.length_append, List.length_cons, List.length_nil, psC_len l]; omega
theorem psC_drop : ∀ (l : List Pr) (n : Nat), (psC l).drop (n * 2) = psC (l.drop n)
  | [], n => by simp [psC]
  | x :: l, 0 => by simp
  | x :: l, n + 1 => by
    rw [show (n + 1) * 2 = 2 + n * 2 by omega, ← List.drop_drop]
    simp only [psC, Pr.cells, List.drop_succ_cons, List.cons_append, List.nil_append, List.drop_zero]
    exact psC_drop l n
theorem psC_sub {l : List Pr} {i : Nat} (h : i < l.length) : ((psC l).drop (i * 2)).take 2 = l[i].cells := by
  rw [psC_drop, List.drop_eq_getElem_cons h]
  simp [psC, Pr.cells]
theorem psC_get {l : List Pr} {i : Nat} (h : i < l.length) (j : Nat) (hj : j < 2) : (psC l)[i * 2 + j]? = l[i].cells[j]? := by
  rw [← psC_sub h, List.getElem?_take, if_pos hj, List.getElem?_drop]
theorem psC_l {l : List Pr} {i : Nat} (h : i < l.length) : (psC l)[i * 2]? = some (I l[i].l) := psC_get h 0 (by omega)
theorem psC_r {l : List Pr} {i : Nat} (h : i < l.length) : (psC l)[i * 2 + 1]? = some (.sl l[i].r.length (ints l[i].r)) := psC_get h 1 (by omega)

/-! ### Light -/
def light (g : Gm) : Bool :=
  if 100 < g.ps.length then false
  else if (g.ps.any fun p => decide (5 < p.r.length ∧ p.r.length ≤ 8) || decide (100 < p.r.length)) = true then false
  else if 8 < g.t ∨ 16 < g.n ∨ 3 < g.k ∨ 64 < g.ps.length then true
  else decide (g.t ≤ 4 ∧ g.n ≤ 6 ∧ g.ps.length ≤ 14 ∧ (g.k ≤ 2 ∨ g.t ≤ 3))
set_option maxRecDepth 20000 in
theorem light_code {lk lim : Nat} {H : Heap} (g : Gm) : callW X A lk lim 10 [gV g] H = some (Bo (light g), H) := by
  refine wb_callB [1] rfl A10 rfl rfl ?_
  unfold t10B
  obtain ⟨t, n, k, ps⟩ := g
  by_cases h1 : 100 < ps.length
  · have h1' : (100 : Int) < ps.length := by omega
    simp [Gm.cells, light, h1, h1']
  have h1' : ¬ (100 : Int) < ps.length := by omega
  simp [Gm.cells, h1, h1']
  let bx : AV := .box [I t, I n, I k, .sl ps.length (psC ps)]
  let bad : Pr → Bool := fun p => decide (5 < p.r.length ∧ p.r.length ≤ 8) || decide (100 < p.r.length)
  refine wb_loop (σ := Nat) (fun i => [(1, bx), (3, I i)]) (fun _ => H) (fun i => i ≤ ps.length ∧ ps.any bad = (ps.drop i).any bad) (fun i => ps.length - i) ?_ 0 (by simp) (by simp [bx]) rfl
  rintro i ⟨hi, hinv⟩
  unfold t10L1
  have w1 : IntKind.i64.wrap ((i : Int) + 1) = (i : Int) + 1 := wrap64 (by omega) (by omega)
  by_cases hil : i < ps.length
  · obtain ⟨p, hp⟩ : ∃ p, ps[i] = p := ⟨_, rfl⟩
    have hr := psC_r hil
    rw [hp] at hr
    have hl := psC_len ps
    rw [List.drop_eq_getElem_cons hil, hp, List.any_cons] at hinv
    obtain ⟨m, hm⟩ : ∃ m, p.r.length = m := ⟨_, rfl⟩
    rw [hm] at hr
    by_cases c1 : 5 < m
    · have c1' : (5 : Int) < m := by omega
      by_cases c2 : m ≤ 8
      · have c2' : (m : Int) ≤ 8 := by omega
        have hb : ps.any bad = true := by rw [hinv]; simp [bad, hm, c1, c2]
        have hL : light ⟨t, n, k, ps⟩ = false := by unfold light; rw [if_neg (by simp only; omega), if_pos (by exact hb)]
        simp [bx, hil, hr, c1', c2', hL]
      · have c2' : ¬ (m : Int) ≤ 8 := by omega
        by_cases c3 : 100 < m
        · have c3' : (100 : Int) < m := by omega
          have hb : ps.any bad = true := by rw [hinv]; simp [bad, hm, c3]
          have hL : light ⟨t, n, k, ps⟩ = false := by unfold light; rw [if_neg (by simp only; omega), if_pos (by exact hb)]
          simp [bx, hil, hr, c1', c2', c3', hL]
        · have c3' : ¬ (100 : Int) < m := by omega
          have hb : bad p = false := by simp [bad, hm]; omega
          rw [hb, Bool.false_or] at hinv
          simp [bx, hil, hr, c1', c2', c3', w1, rnd_nrm]
          exact ⟨i + 1, ⟨by omega, hinv⟩, by omega, by simp⟩
    · have c1' : ¬ (5 : Int) < m := by omega
      have c3' : ¬ (100 : Int) < m := by omega
      have hb : bad p = false := by simp [bad, hm]; omega
      rw [hb, Bool.false_or] at hinv
      simp [bx, hil, hr, c1', c3', w1, rnd_nrm]
      exact ⟨i + 1, ⟨by omega, hinv⟩, by omega, by simp⟩
  · obtain rfl : i = ps.length := by omega
    rw [List.drop_length] at hinv
    have hb : ps.any bad = false := hinv
    have hL : light ⟨t, n, k, ps⟩ = if 8 < t ∨ 16 < n ∨ 3 < k ∨ 64 < ps.length then true else decide (t ≤ 4 ∧ n ≤ 6 ∧ ps.length ≤ 14 ∧ (k ≤ 2 ∨ t ≤ 3)) := by
      unfold light
      rw [if_neg (by simp only; omega), if_neg (by rw [show (ps.any fun p => decide (5 < p.r.length ∧ p.r.length ≤ 8) || decide (100 < p.r.length)) = false from hb]; simp)]
    rw [hL]
    by_cases c1 : 8 < t
    · simp [bx, c1]
    by_cases c2 : 16 < n
    · simp [bx, c1, c2]
    by_cases c3 : 3 < k
    · simp [bx, c1, c2, c3]
    by_cases c4 : 64 < ps.length
    · have c4' : (64 : Int) < ps.length := by omega
      simp [bx, c1, c2, c3, c4, c4']
    have c4' : ¬ (64 : Int) < ps.length := by omega
    rw [if_neg (by omega)]
    by_cases d1 : t ≤ 4
    case neg =>
      have : decide (t ≤ 4 ∧ n ≤ 6 ∧ ps.length ≤ 14 ∧ (k ≤ 2 ∨ t ≤ 3)) = false := decide_eq_false (by omega)
      rw [this]
      simp [bx, c1, c2, c3, c4', d1]
    by_cases d2 : n ≤ 6
    case neg =>
      have : decide (t ≤ 4 ∧ n ≤ 6 ∧ ps.length ≤ 14 ∧ (k ≤ 2 ∨ t ≤ 3)) = false := decide_eq_false (by omega)
      rw [this]
      simp [bx, c1, c2, c3, c4', d1, d2]
    by_cases d3 : ps.length ≤ 14
    case neg =>
      have d3' : ¬ (ps.length : Int) ≤ 14 := by omega
      have : decide (t ≤ 4 ∧ n ≤ 6 ∧ ps.length ≤ 14 ∧ (k ≤ 2 ∨ t ≤ 3)) = false := decide_eq_false (by omega)
      rw [this]
      simp [bx, c1, c2, c3, c4', d1, d2, d3']
    have d3' : (ps.length : Int) ≤ 14 := by omega
    by_cases d4 : k ≤ 2
    · have : decide (t ≤ 4 ∧ n ≤ 6 ∧ ps.length ≤ 14 ∧ (k ≤ 2 ∨ t ≤ 3)) = true := decide_eq_true (by omega)
      rw [this]
      simp [bx, c1, c2, c3, c4', d1, d2, d3', d4]
    by_cases d5 : t ≤ 3
    · have : decide (t ≤ 4 ∧ n ≤ 6 ∧ ps.length ≤ 14 ∧ (k ≤ 2 ∨ t ≤ 3)) = true := decide_eq_true (by omega)
      rw [this]
      simp [bx, c1, c2, c3, c4', d1, d2, d3', d4, d5]
    · have : decide (t ≤ 4 ∧ n ≤ 6 ∧ ps.length ≤ 14 ∧ (k ≤ 2 ∨ t ≤ 3)) = false := decide_eq_false (by omega)
      rw [this]
      simp [bx, c1, c2, c3, c4', d1, d2, d3', d4, d5]
end Go.Proofs.Ytikedgpcgacgoaa
