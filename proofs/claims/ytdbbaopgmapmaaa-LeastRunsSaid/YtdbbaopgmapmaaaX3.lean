import Derived.Test.YtdbbaopgmapmaaaX2
import Derived.Test.YtdbbaopgmapmaaaLp
set_option linter.unusedSimpArgs false
set_option linter.unusedVariables false
namespace Go.Proofs.Ytdbbaopgmapmaaa
open Go Go.Hm
set_option maxRecDepth 20000 in
theorem lequal_code (nx1 rl1 nx2 rl2 : List Int) (s : List UInt8) : callW X A 0 0 6 [.agg (Dv nx1 rl1), .agg (Dv nx2 rl2), Sg s] [] = some (Bo true, []) := by
  refine wb_callB [3, 4, 7, 9] rfl A6 rfl rfl ?_
  have k0 := lives_ok
  have k1 := light_code (lk := 0) (lim := 0) (H := []) nx1 rl1 16 (by omega)
  rw [show ((16 : Nat) : Int) = 16 from rfl] at k1
  have k1b := light_code (lk := 0) (lim := 0) (H := []) nx2 rl2 16 (by omega)
  rw [show ((16 : Nat) : Int) = 16 from rfl] at k1b
  by_cases a1 : rl1.length ≤ 16 ∧ nx1.length ≤ 256 * 16
  case neg =>
    have hf : (decide (rl1.length ≤ 16) && decide (nx1.length ≤ 256 * 16)) = false := by
      rw [← Bool.decide_and]; exact decide_eq_false a1
    rw [hf] at k1
    generalize callW X A = C at k0 k1 ⊢
    unfold t6B
    simp [k0, k1]
  have ht : (decide (rl1.length ≤ 16) && decide (nx1.length ≤ 256 * 16)) = true := by
    rw [← Bool.decide_and]; exact decide_eq_true a1
  rw [ht] at k1
  by_cases a1b : rl2.length ≤ 16 ∧ nx2.length ≤ 256 * 16
  case neg =>
    have hf : (decide (rl2.length ≤ 16) && decide (nx2.length ≤ 256 * 16)) = false := by
      rw [← Bool.decide_and]; exact decide_eq_false a1b
    rw [hf] at k1b
    generalize callW X A = C at k0 k1 k1b ⊢
    unfold t6B
    simp [k0, k1, k1b]
  have htb : (decide (rl2.length ≤ 16) && decide (nx2.length ≤ 256 * 16)) = true := by
    rw [← Bool.decide_and]; exact decide_eq_true a1b
  rw [htb] at k1b
  obtain ⟨b1, b2⟩ := a1
  obtain ⟨b1b, b2b⟩ := a1b
  by_cases a2 : (12 : Int) < s.length
  · generalize callW X A = C at k0 k1 k1b ⊢
    unfold t6B
    simp [k0, k1, k1b, Sg_size, a2]
  have k2 := check_code (lk := 0) (lim := 0) (H := []) nx1 rl1 (by omega) (by omega)
  have k2b := check_code (lk := 0) (lim := 0) (H := []) nx2 rl2 (by omega) (by omega)
  by_cases a5 : chk nx1 rl1 = true
  case neg =>
    rw [chkE_neg a5] at k2
    generalize callW X A = C at k0 k1 k1b k2 ⊢
    unfold t6B
    simp [k0, k1, k1b, Sg_size, a2, k2]
  rw [chkE_pos a5] at k2
  by_cases a5b : chk nx2 rl2 = true
  case neg =>
    rw [chkE_neg a5b] at k2b
    generalize callW X A = C at k0 k1 k1b k2 k2b ⊢
    unfold t6B
    simp [k0, k1, k1b, Sg_size, a2, k2, k2b]
  rw [chkE_pos a5b] at k2b
  obtain ⟨ok1, m1, _⟩ := chk_ok a5
  obtain ⟨ok2, m2, _⟩ := chk_ok a5b
  have k3 := least_code (lk := 0) (lim := 0) (H := []) nx1 rl1 a5 (by simp)
  have k3b := least_code (lk := 0) (lim := 0) (H := []) nx2 rl2 a5b (by simp)
  have f1 := least_len a5
  have f2 := least_len a5b
  have k4 := same_code (lk := 0) (lim := 0) (H := []) (lN nx1 rl1) (lR nx1 rl1) (lN nx2 rl2) (lR nx2 rl2) (by omega) (by omega) (by omega) (by omega)
  have k5 := wit_code (lk := 0) (lim := 0) (H := []) nx1 rl1 nx2 rl2 a5 a5b (by simp)
  have k6 := equal_code (lk := 0) (lim := 0) (H := []) nx1 rl1 nx2 rl2 a5 a5b (by simp)
  have k7 := run_code (lk := 0) (lim := 0) (H := []) nx1 rl1 s a5 (by omega)
  have k7b := run_code (lk := 0) (lim := 0) (H := []) nx2 rl2 s a5b (by omega)
  have law := wit_law ok1 ok2
  have hsame := same_iff a5 a5b
  have hnone := wit_none a5 a5b
  rw [← hnone] at hsame
  have hsb : (decide (lN nx1 rl1 = lN nx2 rl2) && decide (lR nx1 rl1 = lR nx2 rl2)) = (witM nx1 rl1 nx2 rl2).isNone := by
    rw [← Bool.decide_and, Bool.eq_iff_iff, decide_eq_true_eq, hsame, Option.isNone_iff_eq_none]
  rw [hsb] at k4
  have e1 : (leastM nx1 rl1 (partM nx1 rl1)).2 = lN nx1 rl1 := rfl
  have e2 : ruleL rl1 (leastM nx1 rl1 (partM nx1 rl1)).1 = lR nx1 rl1 := rfl
  have e3 : (leastM nx2 rl2 (partM nx2 rl2)).2 = lN nx2 rl2 := rfl
  have e4 : ruleL rl2 (leastM nx2 rl2 (partM nx2 rl2)).1 = lR nx2 rl2 := rfl
  rw [e1, e2] at k3
  rw [e3, e4] at k3b
  have g : ∀ (is : Bool) (w : List UInt8) (v : AV), v = .tup [Sg w, Bo is] → callW X A 0 0 19 [.agg (Dv nx1 rl1), .agg (Dv nx2 rl2)] [] = some (v, []) → callW X A 0 0 17 [.agg (Dv nx1 rl1), .agg (Dv nx2 rl2)] [] = some (Bo (!is), []) →
      callW X A 0 0 16 [.agg (Dv (lN nx1 rl1) (lR nx1 rl1)), .agg (Dv (lN nx2 rl2) (lR nx2 rl2))] [] = some (Bo (!is), []) → (is = false → w = [] ∧ runM nx1 rl1 s = runM nx2 rl2 s) → 
      (is = true → callW X A 0 0 15 [.agg (Dv nx1 rl1), Sg w] [] = some (I (runM nx1 rl1 w), []) ∧ callW X A 0 0 15 [.agg (Dv nx2 rl2), Sg w] [] = some (I (runM nx2 rl2 w), []) ∧ runM nx1 rl1 w ≠ runM nx2 rl2 w ∧ (runM nx1 rl1 s ≠ runM nx2 rl2 s → SLe w s)) →
      WB ⟨callW X A, 0, if true then ([] : Heap).length else 0, [3, 4, 7, 9]⟩ t6B (FinT [.tmp 6] true [] (Bo true, [])) (enterFrom 0 [.agg (Dv nx1 rl1), .agg (Dv nx2 rl2), Sg s]) [] := by
    rintro is w v rfl k5 k6 k4 hf ht
    clear law hsame hnone hsb e1 e2 e3 e4
    generalize lN nx1 rl1 = n1 at k3 k4
    generalize lR nx1 rl1 = r1 at k3 k4
    generalize lN nx2 rl2 = n2 at k3b k4
    generalize lR nx2 rl2 = r2 at k3b k4
    generalize runM nx1 rl1 s = u3 at k7 hf ht
    generalize runM nx2 rl2 s = u4 at k7b hf ht
    generalize runM nx1 rl1 w = u1 at ht
    generalize runM nx2 rl2 w = u2 at ht
    generalize callW X A = C at k0 k1 k1b k2 k2b k3 k3b k4 k5 k6 k7 k7b ht ⊢
    unfold t6B
    simp [-wb_regN, -wb_regD]
    rw [wb_regN]
    simp [-wb_regN, -wb_regD]
    rw [wb_regN]
    simp [-wb_regN, -wb_regD, k0]
    rw [wb_regN]
    simp [-wb_regN, -wb_regD, -wr_cons, -wr_nil]
    iterate 23 (rw [wr_cons]; simp [-wb_regN, -wb_regD, -wr_cons, -wr_nil, k1, k1b, Sg_size, a2, k2, k2b])
    rw [wr_nil, fol_nrm, wb_false rfl, wb_skip, fol_nrm, wb_seq, wb_regN]
    simp [-wb_regN, -wb_regD, -wi_stL, k3]
    rw [wi_stL]
    simp [-wb_regN, -wb_regD, -wi_stL, replaceAt]
    rw [wb_regN]
    simp [-wb_regN, -wb_regD, -wi_stL, k3b]
    rw [wi_stL]
    simp [-wb_regN, -wb_regD, -wi_stL, replaceAt]
    rw [wb_regN]
    simp [-wb_regN, -wb_regD, k4]
    rw [wb_regN]
    simp [-wb_regN, -wb_regD, k5]
    rw [wb_regD rfl]
    simp [-wb_regN, -wb_regD, k7, k7b]
    rw [wb_regN]
    cases is with
    | false =>
      obtain ⟨rfl, rfl⟩ := hf rfl
      simp [-wb_regN, -wb_regD, -wr_cons, -wr_nil, k6]
      iterate 16 (rw [wr_cons]; simp [-wb_regN, -wb_regD, -wr_cons, -wr_nil, k6])
      rw [wr_nil, fol_nrm, wb_false rfl, wb_skip, fol_nrm, wb_seq, wb_seq, wb_regN]
      simp [-wb_regN, -wb_regD, -wb_true, -wb_false]
      rw [wb_true rfl, wb_seq, wb_regN]
      simp [-wb_regN, -wb_regD, sg_eqlN]
    | true =>
      obtain ⟨k8, k8b, hw, hle⟩ := ht rfl
      have hw1 : (u1 == u2) = false := by rw [beq_eq_false_iff_ne]; exact hw
      have hw2 : (u1 != u2) = true := by rw [bne_iff_ne]; exact hw
      simp [-wb_regN, -wb_regD, -wr_cons, -wr_nil, k6]
      iterate 16 (rw [wr_cons]; simp [-wb_regN, -wb_regD, -wr_cons, -wr_nil, k6])
      rw [wr_nil, fol_nrm, wb_false rfl, wb_skip, fol_nrm, wb_seq, wb_seq, wb_regN]
      simp [-wb_regN, -wb_regD, -wb_true, -wb_false]
      rw [wb_false rfl, wb_skip, fol_nrm, wb_seq, wb_regD rfl]
      by_cases hs : u3 = u4
      · subst hs
        simp [-wb_regN, -wb_regD, -wrd_cons, -wrd_nil]
        iterate 31 (rw [wrd_cons]; simp [-wb_regN, -wb_regD, -wrd_cons, -wrd_nil, k8, k8b, hw1, hw2])
        rw [wrd_nil]
        simp
      · have hle := sle_bool (hle hs)
        have hs1 : (u3 == u4) = false := by rw [beq_eq_false_iff_ne]; exact hs
        have hs2 : (u3 != u4) = true := by rw [bne_iff_ne]; exact hs
        simp [-wb_regN, -wb_regD, -wrd_cons, -wrd_nil]
        by_cases c1 : (w.length : Int) < s.length
        · iterate 31 (rw [wrd_cons]; simp [-wb_regN, -wb_regD, -wrd_cons, -wrd_nil, k8, k8b, hw1, hw2, hs1, hs2, c1, Sg_size])
          rw [wrd_nil]
          simp
        · obtain ⟨c2, c3⟩ := hle.resolve_left c1
          iterate 31 (rw [wrd_cons]; simp [-wb_regN, -wb_regD, -wrd_cons, -wrd_nil, k8, k8b, hw1, hw2, hs1, hs2, c1, c2, c3, Sg_size, sg_leq])
          rw [wrd_nil]
          simp
  cases ho : witM nx1 rl1 nx2 rl2 with
  | none =>
    rw [ho] at k4 k5 k6 law
    have hn := law s
    simp only [ne_eq, decide_eq_false_iff_not, Decidable.not_not] at hn
    exact g false [] _ rfl k5 k6 k4 (fun _ => ⟨rfl, hn⟩) (fun h => by cases h)
  | some w =>
    rw [ho] at k4 k5 k6 law
    have hwl := bfs_len m1 m2 ho
    have k8 := run_code (lk := 0) (lim := 0) (H := []) nx1 rl1 w a5 hwl
    have k8b := run_code (lk := 0) (lim := 0) (H := []) nx2 rl2 w a5b hwl
    have hw := law.1
    simp only [ne_eq, decide_eq_true_eq] at hw
    have hle := law.2 s
    simp only [ne_eq, decide_eq_true_eq] at hle
    exact g true w _ rfl k5 k6 k4 (fun h => by cases h) (fun _ => ⟨k8, k8b, hw, hle⟩)
end Go.Proofs.Ytdbbaopgmapmaaa
