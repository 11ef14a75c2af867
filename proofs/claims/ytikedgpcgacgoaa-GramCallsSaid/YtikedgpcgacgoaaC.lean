import Derived.Test.YtikedgpcgacgoaaB
set_option linter.unusedSimpArgs false
set_option linter.unusedVariables false
namespace Go.Proofs.Ytikedgpcgacgoaa
open Go Go.Hm

/-! ### May it be a grammar? -/
def badS (g : Gm) (s : Int) : Bool := decide (s < 0) || decide (g.t + g.n ≤ s)
def badP (g : Gm) (p : Pr) : Bool := decide (p.l < 0) || decide (g.n ≤ p.l) || p.r.any (badS g)
def chkE (g : Gm) : Int :=
  if 8 < g.t ∨ 16 < g.n ∨ 3 < g.k ∨ 64 < g.ps.length then 3
  else if (g.ps.any fun p => decide (8 < p.r.length)) = true then 3
  else if g.t < 1 ∨ g.n < 1 ∨ g.k < 1 ∨ g.ps.length < 1 then 2
  else if g.ps.any (badP g) = true then 2 else 0
theorem c34_code {lk lim : Nat} {H : Heap} (p : Pr) : callW X A lk lim 34 [.agg p.cells] H = some (Bo (decide (8 < p.r.length)), H) := by
  refine wb_callB [1] rfl A34 rfl rfl ?_
  unfold t34B
  have h : decide ((8 : Int) < p.r.length) = decide (8 < p.r.length) := by
    rw [Bool.eq_iff_iff]; simp; omega
  simp [Pr.cells, h]
theorem c36_code {lk lim : Nat} {H : Heap} {g : Gm} {b : Nat} (hb : H[b]? = some (.cells g.cells)) (hw : IntKind.i64.wrap (g.t + g.n) = g.t + g.n) (s : Int) : callW X A lk lim 36 [I s, .hp b 4 0] H = some (Bo (badS g s), H) := by
  refine wb_callB [] rfl A36 rfl rfl ?_
  unfold t36B
  unfold Gm.cells at hb
  unfold badS
  by_cases h : s < 0
  · simp [h]
  · simp [h, hb, hw]
theorem mm_min (t n k m : Int) : (if m < (if k < (if n < t then n else t) then k else (if n < t then n else t)) then m else (if k < (if n < t then n else t) then k else (if n < t then n else t))) < 1 ↔ t < 1 ∨ n < 1 ∨ k < 1 ∨ m < 1 := by
  split <;> split <;> split <;> omega
set_option maxRecDepth 20000 in
theorem check_code {lk lim : Nat} {H : Heap} (g : Gm) (hl : g.ps.length ≤ 1000000) (hr : ∀ p ∈ g.ps, p.r.length ≤ 1000000) : callW X A lk lim 11 [gV g] H = some (I (chkE g), H) := by
  have k1 := fun L => has33_code (lk := lk) (lim := L) (H := H ++ [.cells g.cells]) (f := 34) (cap := []) g.ps (fun p => decide (8 < p.r.length)) hl rfl (fun p _ => c34_code p)
  have k2 := fun (L : Nat) (hw : IntKind.i64.wrap (g.t + g.n) = g.t + g.n) (p : Pr) (hp : p ∈ g.ps) => has35_code (lk := lk) (lim := L) (H := H ++ [.cells g.cells]) (f := 36) (cap := [.hp H.length 4 0]) p.r (badS g) (hr p hp) rfl (fun s _ => c36_code (by simp) hw s)
  refine wb_callB [4] rfl A11 rfl rfl ?_
  unfold t11B
  obtain ⟨t, n, k, ps⟩ := g
  simp only [Gm.cells] at hl hr k1 k2 ⊢
  have e0 : ∀ c : Bool, chkE ⟨t, n, k, ps⟩ = chkE ⟨t, n, k, ps⟩ := fun _ => rfl
  by_cases c1 : 8 < t
  · have e : chkE ⟨t, n, k, ps⟩ = 3 := by unfold chkE; rw [if_pos (by simp only; omega)]
    rw [e]
    simp [Gm.cells, c1]
  by_cases c2 : 16 < n
  · have e : chkE ⟨t, n, k, ps⟩ = 3 := by unfold chkE; rw [if_pos (by simp only; omega)]
    rw [e]
    simp [Gm.cells, c1, c2]
  by_cases c3 : 3 < k
  · have e : chkE ⟨t, n, k, ps⟩ = 3 := by unfold chkE; rw [if_pos (by simp only; omega)]
    rw [e]
    simp [Gm.cells, c1, c2, c3]
  by_cases c4 : 64 < ps.length
  · have e : chkE ⟨t, n, k, ps⟩ = 3 := by unfold chkE; rw [if_pos (by simp only; omega)]
    have c4' : (64 : Int) < ps.length := by omega
    rw [e]
    simp [Gm.cells, c1, c2, c3, c4']
  have c4' : ¬ (64 : Int) < ps.length := by omega
  have e1 : chkE ⟨t, n, k, ps⟩ = if (ps.any fun p => decide (8 < p.r.length)) = true then 3 else if t < 1 ∨ n < 1 ∨ k < 1 ∨ ps.length < 1 then 2 else if ps.any (badP ⟨t, n, k, ps⟩) = true then 2 else 0 := by
    rw [chkE, if_neg (by simp only; omega)]
  rw [e1]
  cases c5 : (ps.any fun p => decide (8 < p.r.length)) with
  | true =>
    rw [c5] at k1
    generalize callW X A = C at k1 ⊢
    simp [Gm.cells, c1, c2, c3, c4', k1]
  | false =>
    rw [c5] at k1
    rw [if_neg (show ¬ (false = true) by simp)]
    by_cases c6 : t < 1 ∨ n < 1 ∨ k < 1 ∨ ps.length < 1
    · have c6' := (mm_min t n k ps.length).2 (by omega)
      rw [if_pos c6]
      generalize callW X A = C at k1 ⊢
      simp [Gm.cells, c1, c2, c3, c4', k1, mmFold, c6']
      done
    · have c6' : ¬ _ := fun h => c6 (by have := (mm_min t n k ps.length).1 h; omega)
      rw [if_neg c6]
      have k2 := fun L => k2 L (wrap64 (by omega) (by omega))
      obtain ⟨bb, hbb⟩ : ∃ bb, ps.any (badP ⟨t, n, k, ps⟩) = bb := ⟨_, rfl⟩
      rw [hbb]
      simp [Gm.cells, c1, c2, c3, c4', k1, mmFold, c6']
      refine wb_loop (σ := Nat) (fun i => [(1, .hp H.length 4 0), (39, .sl ps.length (psC ps)), (40, I ps.length), (41, I i)]) (fun _ => H ++ [.cells [I t, I n, I k, .sl ps.length (psC ps)]])
        (fun i => i ≤ ps.length ∧ bb = (ps.drop i).any (badP ⟨t, n, k, ps⟩)) (fun i => ps.length - i) ?_ 0 ⟨by omega, by rw [← hbb]; rfl⟩ (by simp) rfl
      rintro i ⟨hi, hinv⟩
      unfold t11L1
      have w : IntKind.i64.wrap ((i : Int) + 1) = (i : Int) + 1 := wrap64 (by omega) (by omega)
      by_cases hil : i < ps.length
      case neg =>
        obtain rfl : i = ps.length := by omega
        rw [List.drop_length] at hinv
        have hinv : bb = false := hinv
        rw [hinv]
        simp
      obtain ⟨p, hp⟩ : ∃ p, ps[i] = p := ⟨_, rfl⟩
      have hpm : p ∈ ps := hp ▸ List.getElem_mem hil
      have hs := psC_sub hil
      have hll := psC_len ps
      have h2 : i * 2 + 2 ≤ 2 * ps.length := by omega
      rw [hp] at hs
      simp only [Pr.cells] at hs
      rw [List.drop_eq_getElem_cons hil, hp, List.any_cons] at hinv
      have k3 := k2 H.length p hpm
      generalize callW X A = C at k3 ⊢
      simp [-wi_stL, hil, hll, hs, h2]
      rw [wi_stL]
      unfold badP at hinv
      simp only at hinv
      by_cases d1 : p.l < 0
      · rw [decide_eq_true d1] at hinv
        simp only [Bool.true_or] at hinv
        simp [replaceAt, d1, hinv]
      rw [decide_eq_false d1] at hinv
      by_cases d2 : n ≤ p.l
      · rw [decide_eq_true d2] at hinv
        simp only [Bool.true_or, Bool.false_or] at hinv
        simp [replaceAt, d1, d2, hinv]
      rw [decide_eq_false d2] at hinv
      cases d3 : p.r.any (badS ⟨t, n, k, ps⟩) with
      | true =>
        rw [d3] at hinv k3
        simp only [Bool.true_or, Bool.false_or] at hinv
        simp [replaceAt, d1, d2, k3, hinv]
      | false =>
        rw [d3] at hinv k3
        simp only [Bool.false_or] at hinv
        simp [replaceAt, d1, d2, k3, w, rnd_nrm]
        exact ⟨i + 1, ⟨by omega, hinv⟩, by omega, by simp⟩
end Go.Proofs.Ytikedgpcgacgoaa
