import Derived.Test.YtdbbaopgmapmaaaSa
set_option linter.unusedSimpArgs false
set_option linter.unusedVariables false
namespace Go.Proofs.Ytdbbaopgmapmaaa
open Go Go.Hm
/-! ### Equal tables -/
/-- The least table's two rows. -/
def lN (nx rl : List Int) : List Int := (leastM nx rl (partM nx rl)).2
def lR (nx rl : List Int) : List Int := ruleL rl (leastM nx rl (partM nx rl)).1
theorem least_ok {nx rl : List Int} (hc : chk nx rl = true) : ∃ Q, leastM nx rl (partM nx rl) = (Q, lN nx rl) ∧ lR nx rl = ruleL rl Q ∧ LOk nx rl (ptV (partM nx rl)) Q (lN nx rl) Q.length 0 := by
  obtain ⟨ok, _⟩ := chk_ok hc
  obtain ⟨Q, N, h1, h2⟩ := leX_ok ok (Cl.prog (partM_ok ok)) (rl.length + 1) [0] [] 0 (LOk.start ok) (by simp) (by omega)
  have e : leastM nx rl (partM nx rl) = (Q, N) := h1
  exact ⟨Q, by unfold lN; rw [e], by unfold lR; rw [e], by unfold lN; rw [e]; exact h2⟩
theorem least_chk {nx rl : List Int} (hc : chk nx rl = true) : chk (lN nx rl) (lR nx rl) = true := by
  obtain ⟨Q, _, h2, h3⟩ := least_ok hc
  rw [h2]; exact h3.chk hc
theorem least_run {nx rl : List Int} (hc : chk nx rl = true) : Sim (lN nx rl) (lR nx rl) 0 nx rl 0 := by
  obtain ⟨ok, _⟩ := chk_ok hc
  obtain ⟨Q, _, h2, h3⟩ := least_ok hc
  rw [h2]; exact h3.sim ok h3.first
theorem least_len {nx rl : List Int} (hc : chk nx rl = true) : (lR nx rl).length ≤ rl.length ∧ (lN nx rl).length = 256 * (lR nx rl).length := by
  obtain ⟨Q, _, h2, h3⟩ := least_ok hc
  have hQ := h3.sok.len
  have hl := h3.len
  rw [h2]
  simp [ruleL]
  omega
/-- What does the same has one least table. -/
theorem least_eq {nx1 rl1 nx2 rl2 : List Int} (h1 : chk nx1 rl1 = true) (h2 : chk nx2 rl2 = true) (hs : Sim nx1 rl1 0 nx2 rl2 0) : lN nx1 rl1 = lN nx2 rl2 ∧ lR nx1 rl1 = lR nx2 rl2 := by
  obtain ⟨ok1, _⟩ := chk_ok h1
  obtain ⟨ok2, _⟩ := chk_ok h2
  exact least_same ok1 ok2 (Cl.prog (partM_ok ok1)) (Cl.prog (partM_ok ok2)) hs
theorem sim_run {nx1 rl1 nx2 rl2 : List Int} (ok1 : TOk nx1 rl1) (ok2 : TOk nx2 rl2) : Sim nx1 rl1 0 nx2 rl2 0 ↔ ∀ l, runM nx1 rl1 l = runM nx2 rl2 l := by
  constructor
  · intro h l; rw [run_rn ok1, run_rn ok2]; exact h l
  · intro h l; have := h l; rw [run_rn ok1, run_rn ok2] at this; exact this
theorem same_iff {nx1 rl1 nx2 rl2 : List Int} (h1 : chk nx1 rl1 = true) (h2 : chk nx2 rl2 = true) : (lN nx1 rl1 = lN nx2 rl2 ∧ lR nx1 rl1 = lR nx2 rl2) ↔ Sim nx1 rl1 0 nx2 rl2 0 := by
  constructor
  · rintro ⟨e1, e2⟩
    have s1 := least_run h1
    have s2 := least_run h2
    rw [e1, e2] at s1
    exact s1.symm.trans s2
  · exact least_eq h1 h2
theorem wit_none {nx1 rl1 nx2 rl2 : List Int} (h1 : chk nx1 rl1 = true) (h2 : chk nx2 rl2 = true) : witM nx1 rl1 nx2 rl2 = none ↔ Sim nx1 rl1 0 nx2 rl2 0 := by
  obtain ⟨ok1, _⟩ := chk_ok h1
  obtain ⟨ok2, _⟩ := chk_ok h2
  have law := wit_law ok1 ok2
  rw [sim_run ok1 ok2]
  cases hw : witM nx1 rl1 nx2 rl2 with
  | none =>
    rw [hw] at law
    refine ⟨fun _ l => ?_, fun _ => rfl⟩
    have := law l
    simpa using this
  | some w =>
    rw [hw] at law
    refine ⟨fun h => (by cases h), fun h => ?_⟩
    have := law.1
    simp only [decide_eq_true_eq] at this
    exact absurd (h w) this
end Go.Proofs.Ytdbbaopgmapmaaa
