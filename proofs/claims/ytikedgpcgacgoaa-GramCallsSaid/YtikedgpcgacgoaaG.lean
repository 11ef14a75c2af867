import Derived.Test.YtikedgpcgacgoaaF
set_option linter.unusedSimpArgs false
set_option linter.unusedVariables false
namespace Go.Proofs.Ytikedgpcgacgoaa
open Go Go.Hm

theorem rnd_ind {α : Type} {st : List Bool → α → List Bool} (Q : List Bool → Prop) (ps : List α) (hq : ∀ o, ∀ p ∈ ps, Q o → Q (st o p)) : ∀ (l : List α), (∀ p ∈ l, p ∈ ps) → ∀ o, Q o → Q (rnd st l o)
  | [], _, _, h => h
  | p :: l, hl, o, h => rnd_ind Q ps hq l (fun q hq => hl q (List.mem_cons_of_mem _ hq)) (st o p) (hq o p (hl p (List.mem_cons_self ..)) h)
set_option maxRecDepth 20000 in
/-- Going through a row, till nothing changes. -/
theorem grow_code {lk lim : Nat} {f : FuncId} {cap : List AV} (ps : List Pr) (st : List Bool → Pr → List Bool) (S : List Bool → Heap) (Q : List Bool → Prop) (L : Nat) (hl : ps.length ≤ 1000000) (hc : cap.all argOk = true)
    (hs : ∀ p, Grows fun o => st o p) (hQ : ∀ o, ∀ p ∈ ps, Q o → Q (st o p)) (hL : ∀ o, (S o).length = L)
    (hst : ∀ o, ∀ p ∈ ps, Q o → callW X A lk L f (.agg p.cells :: cap) (S o) = some (Bo (decide (st o p ≠ o)), S (st o p))) (o0 : List Bool) (h0 : Q o0) :
    callW X A lk lim 38 [.sl ps.length (psC ps), .fn f cap] (S o0) = some (.tup [], S (fin (rnd st ps) o0)) := by
  have hf : Grows (rnd st ps) := rnd_grows hs ps
  have htk : ∀ o, (S o).take L = S o := fun o => List.take_of_length_le (by rw [hL]; exact Nat.le_refl _)
  refine wb_callB [6] rfl A38 rfl rfl ?_
  unfold t38B
  rw [hL]
  simp
  refine wb_loop (σ := List Bool × Bool) (fun s => [(0, .sl ps.length (psC ps)), (1, .fn f cap), (4, Bo s.2)]) (fun s => S s.1)
    (fun s => Q s.1 ∧ fin (rnd st ps) s.1 = fin (rnd st ps) o0 ∧ (s.2 = false → rnd st ps s.1 = s.1)) (fun s => cntF s.1 + if s.2 = true then 1 else 0) ?_ (o0, true) ⟨h0, rfl, by simp⟩ (by simp) rfl
  rintro ⟨o, again⟩ ⟨hq, hfin, hag⟩
  simp only at hq hfin hag
  unfold t38L2
  cases again with
  | false =>
    have h1 : fin (rnd st ps) o = o := by rw [fin_step hf, if_pos (hag rfl)]
    rw [h1] at hfin
    rw [← hfin]
    simp [hL, htk]
  | true =>
    simp
    refine wb_loop (σ := Nat × List Bool × Bool) (fun s => [(0, .sl ps.length (psC ps)), (1, .fn f cap), (4, Bo s.2.2), (8, .sl ps.length (psC ps)), (9, I ps.length), (10, I s.1)]) (fun s => S s.2.1)
      (fun s => s.1 ≤ ps.length ∧ Q s.2.1 ∧ s.2.1 = rnd st (ps.take s.1) o ∧ s.2.2 = decide (s.2.1 ≠ o)) (fun s => ps.length - s.1) ?_ (0, o, false) ⟨Nat.zero_le _, hq, rfl, by simp⟩ (by simp) rfl
    rintro ⟨i, o2, ag⟩ ⟨hi, hq2, ho2, hm⟩
    simp only at hi hq2 ho2 hm
    unfold t38L1
    have w1 : IntKind.i64.wrap ((i : Int) + 1) = (i : Int) + 1 := wrap64 (by omega) (by omega)
    by_cases hil : i < ps.length
    case neg =>
      obtain rfl : i = ps.length := by omega
      rw [List.take_of_length_le (Nat.le_refl _)] at ho2
      have hfo : rnd st ps o = o2 := ho2.symm
      have hstep := fin_step hf o
      rw [hfo] at hstep
      simp
      rw [rnd_nrm]
      refine ⟨(o2, ag), ⟨hq2, ?_, fun h => ?_⟩, ?_, by simp, rfl⟩
      · rw [← hfin, hstep]
        by_cases he : o2 = o
        · rw [if_pos he, he, fin_step hf o, if_pos (hfo.trans he)]
        · rw [if_neg he]
      · have h : ag = false := h
        rw [h] at hm
        have he : o2 = o := by simpa using hm.symm
        show rnd st ps o2 = o2
        rw [he] at hfo ⊢; exact hfo
      · show cntF o2 + (if ag = true then 1 else 0) < cntF o + (if true = true then 1 else 0)
        by_cases he : o2 = o
        · rw [hm]; simp [he]
        · have := hf o
          rw [hfo] at this
          rcases this with h | h
          · exact absurd h he
          · rw [hm]; simp [he]; omega
    obtain ⟨p, hp⟩ : ∃ p, ps[i] = p := ⟨_, rfl⟩
    have hpm : p ∈ ps := hp ▸ List.getElem_mem hil
    have hsub := psC_sub hil
    have hll := psC_len ps
    have h2 : i * 2 + 2 ≤ 2 * ps.length := by omega
    rw [hp] at hsub
    have hnext : rnd st (ps.take (i + 1)) o = st o2 p := by rw [rnd_take _ _ _ _ hil, ← ho2, hp]
    have hcall := hst o2 p hpm hq2
    have hle := rnd_le hs (ps.take i) o
    rw [← ho2] at hle
    have hch : decide (st o2 p ≠ o) = (decide (st o2 p ≠ o2) || ag) := by
      rw [hm]
      by_cases h1 : st o2 p = o2
      · rw [h1]; simp
      · have h3 : cntF (st o2 p) < cntF o2 := by
          rcases hs p o2 with h | h
          · exact absurd h h1
          · exact h
        have h4 : st o2 p ≠ o := fun h => by rw [h] at h3; omega
        simp [h1, h4]
    obtain ⟨c, hcc⟩ : ∃ c, decide (st o2 p ≠ o2) = c := ⟨_, rfl⟩
    rw [hcc] at hcall hch
    obtain ⟨pl, pr⟩ := p
    simp only [Pr.cells] at hsub hcall
    generalize callW X A = C at hcall ⊢
    simp [-wi_stL, hil, hll, hsub, h2]
    rw [wi_stL]
    simp [-argOk, aok_val, aok_agg, replaceAt, hcall, hc]
    cases c with
    | true =>
      simp [w1]
      rw [rnd_nrm]
      exact ⟨(i + 1, st o2 ⟨pl, pr⟩, true), ⟨by simp only; omega, hQ _ _ hpm hq2, hnext.symm, by simpa using hch.symm⟩, by simp only; omega, by simp, rfl⟩
    | false =>
      simp [w1]
      rw [rnd_nrm]
      exact ⟨(i + 1, st o2 ⟨pl, pr⟩, ag), ⟨by simp only; omega, hQ _ _ hpm hq2, hnext.symm, by simpa using hch.symm⟩, by simp only; omega, by simp, rfl⟩
end Go.Proofs.Ytikedgpcgacgoaa
