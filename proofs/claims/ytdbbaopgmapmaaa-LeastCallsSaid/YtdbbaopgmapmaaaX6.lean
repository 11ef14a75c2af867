import Derived.Test.YtdbbaopgmapmaaaRj
import Derived.Test.YtdbbaopgmapmaaaX0
import Derived.Test.YtdbbaopgmapmaaaF4
set_option linter.unusedSimpArgs false
set_option linter.unusedVariables false
namespace Go.Proofs.Ytdbbaopgmapmaaa
open Go Go.Hm
theorem txtV_form (o : Option (List UInt8)) : ∃ w is, txtV o = .tup [Sg w, Bo is] := by
  cases o with
  | none => exact ⟨[], false, rfl⟩
  | some w => exact ⟨w, true, rfl⟩
set_option maxRecDepth 20000 in
theorem lcalls_code (nx1 rl1 nx2 rl2 : List Int) (r : Int) : callW X A 0 0 8 [.agg (Dv nx1 rl1), .agg (Dv nx2 rl2), I r] [] = some (Bo true, []) := by
  refine wb_callB [3, 4, 7, 9] rfl A8 rfl rfl ?_
  unfold t8B
  have k0 := lives_ok
  have k1 := light_code (lk := 0) (lim := 0) (H := []) nx1 rl1 16 (by omega)
  rw [show ((16 : Nat) : Int) = 16 from rfl] at k1
  have k1b := light_code (lk := 0) (lim := 0) (H := []) nx2 rl2 16 (by omega)
  rw [show ((16 : Nat) : Int) = 16 from rfl] at k1b
  by_cases a1 : rl1.length ≤ 16 ∧ nx1.length ≤ 256 * 16
  case neg =>
    have hf : (decide (rl1.length ≤ 16) && decide (nx1.length ≤ 256 * 16)) = false := by
      rw [← Bool.decide_and]; exact decide_eq_false a1
    rw [hf] at k1
    generalize callW X A = C at k0 k1 ⊢
    simp [k0, k1]
  have ht : (decide (rl1.length ≤ 16) && decide (nx1.length ≤ 256 * 16)) = true := by
    rw [← Bool.decide_and]; exact decide_eq_true a1
  rw [ht] at k1
  by_cases a1b : rl2.length ≤ 16 ∧ nx2.length ≤ 256 * 16
  case neg =>
    have hf : (decide (rl2.length ≤ 16) && decide (nx2.length ≤ 256 * 16)) = false := by
      rw [← Bool.decide_and]; exact decide_eq_false a1b
    rw [hf] at k1b
    generalize callW X A = C at k0 k1 k1b ⊢
    simp [k0, k1, k1b]
  have htb : (decide (rl2.length ≤ 16) && decide (nx2.length ≤ 256 * 16)) = true := by
    rw [← Bool.decide_and]; exact decide_eq_true a1b
  rw [htb] at k1b
  have k3 := least_any (lk := 0) (lim := 0) (H := []) nx1 rl1 (by omega) (by omega) (by simp)
  have k3b := rleast_any (lk := 0) (lim := 0) (H := []) nx1 rl1 (by omega) (by omega) (by simp)
  have k4 : ∃ d1 d2 e, leastV nx1 rl1 = .tup [.agg [d1, d2], I e] ∧ callW X A 0 0 16 [.agg [d1, d2], .agg [d1, d2]] [] = some (Bo true, []) := by
    unfold leastV
    by_cases hc : chk nx1 rl1 = true
    · rw [if_pos hc]
      have f1 := least_len hc
      refine ⟨_, _, _, rfl, ?_⟩
      have := same_code (lk := 0) (lim := 0) (H := []) (lN nx1 rl1) (lR nx1 rl1) (lN nx1 rl1) (lR nx1 rl1) (by omega) (by omega) (by omega) (by omega)
      rw [decide_eq_true rfl, decide_eq_true rfl, Bool.and_self] at this
      exact this
    · rw [if_neg hc]
      exact ⟨_, _, _, rfl, same_e0⟩
  obtain ⟨d1, d2, e, hV, k4⟩ := k4
  rw [hV] at k3 k3b
  have k5 := wit_any (lk := 0) (lim := 0) (H := []) nx1 rl1 nx2 rl2 (by omega) (by omega) (by omega) (by omega) (by simp)
  have k5b := rwit_any (lk := 0) (lim := 0) (H := []) nx1 rl1 nx2 rl2 (by omega) (by omega) (by omega) (by omega) (by simp)
  obtain ⟨w, is, hW⟩ := txtV_form (witO nx1 rl1 nx2 rl2)
  rw [hW] at k5 k5b
  have k6 := short_any (lk := 0) (lim := 0) (H := []) nx1 rl1 r (by omega) (by omega) (by simp)
  have k6b := rshort_any (lk := 0) (lim := 0) (H := []) nx1 rl1 r (by omega) (by omega) (by simp)
  obtain ⟨w2, is2, hW2⟩ := txtV_form (shortO nx1 rl1 r)
  rw [hW2] at k6 k6b
  have k7 := live_code (lk := 0) (lim := 0) (H := []) nx1 rl1 (by omega) (by omega) (by simp)
  have k7b := rlive_code (lk := 0) (lim := 0) (H := []) nx1 rl1 (by omega) (by omega) (by simp)
  have k8 : ∃ lv, (if chk nx1 rl1 = true then AV.sl rl1.length (bools (liveM nx1 rl1)) else .e0) = lv ∧ (lv = .e0 ∨ ∃ n l, lv = .sl n l) ∧ callW X A 0 0 21 [lv, lv] [] = some (Bo true, []) := by
    by_cases hc : chk nx1 rl1 = true
    · rw [if_pos hc]
      have hl := liveM_len nx1 rl1
      have := sameb_code (lk := 0) (lim := 0) (H := []) (liveM nx1 rl1) (by omega)
      rw [hl] at this
      exact ⟨_, rfl, .inr ⟨_, _, rfl⟩, this⟩
    · rw [if_neg hc]
      exact ⟨_, rfl, .inl rfl, sameb_e0⟩
  obtain ⟨lv, hlv, hlv2, k8⟩ := k8
  rw [hlv] at k7 k7b
  have k9 := equal_any (lk := 0) (lim := 0) (H := []) nx1 rl1 nx2 rl2 (by omega) (by omega) (by omega) (by omega) (by simp)
  have k9b := requal_any (lk := 0) (lim := 0) (H := []) nx1 rl1 nx2 rl2 (by omega) (by omega) (by omega) (by omega) (by simp)
  clear hV hW hW2 hlv ht htb a1 a1b
  generalize eqO nx1 rl1 nx2 rl2 = q at k9 k9b
  generalize callW X A = C at k0 k1 k1b k3 k3b k4 k5 k5b k6 k6b k7 k7b k8 k9 k9b ⊢
  simp [-wb_regN, -wb_regD]
  rw [wb_regN]
  simp [-wb_regN, -wb_regD]
  rw [wb_regN]
  simp [-wb_regN, -wb_regD, k0]
  rw [wb_regN]
  simp [-wb_regN, -wb_regD, -wb_true, -wb_false, k1, k1b]
  rw [wb_false rfl, wb_skip, fol_nrm, wb_seq, wb_regN]
  simp [-wb_regN, -wb_regD, -wi_stL, k3]
  rw [wi_stL]
  simp [-wb_regN, -wb_regD, -wi_stL, replaceAt]
  rw [wb_regN]
  simp [-wb_regN, -wb_regD, -wi_stL, k3b]
  rw [wi_stL]
  simp [-wb_regN, -wb_regD, -wi_stL, replaceAt]
  rw [wb_regN]
  simp [-wb_regN, -wb_regD, k5]
  rw [wb_regN]
  simp [-wb_regN, -wb_regD, k5b]
  rw [wb_regN]
  simp [-wb_regN, -wb_regD, k6]
  rw [wb_regN]
  simp [-wb_regN, -wb_regD, k6b]
  rw [wb_regD rfl]
  simp [-wb_regN, -wb_regD, -wrd_cons, -wrd_nil]
  rcases hlv2 with rfl | ⟨n, l, rfl⟩
  · iterate 45 (rw [wrd_cons]; simp [-wb_regN, -wb_regD, -wrd_cons, -wrd_nil, k4, sg_eql, k7, k7b, k8, k9, k9b])
    rw [wrd_nil]
    simp
  · iterate 45 (rw [wrd_cons]; simp [-wb_regN, -wb_regD, -wrd_cons, -wrd_nil, k4, sg_eql, k7, k7b, k8, k9, k9b])
    rw [wrd_nil]
    simp
end Go.Proofs.Ytdbbaopgmapmaaa
