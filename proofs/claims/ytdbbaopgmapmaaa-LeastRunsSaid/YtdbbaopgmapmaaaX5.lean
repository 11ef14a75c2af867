import Derived.Test.YtdbbaopgmapmaaaX3
import Derived.Test.YtdbbaopgmapmaaaFr2
set_option linter.unusedSimpArgs false
set_option linter.unusedVariables false
namespace Go.Proofs.Ytdbbaopgmapmaaa
open Go Go.Hm
/-! ### The least table is its own least, and no two of its states are alike -/
theorem least_idem {nx rl : List Int} (hc : chk nx rl = true) : lN (lN nx rl) (lR nx rl) = lN nx rl ∧ lR (lN nx rl) (lR nx rl) = lR nx rl :=
  least_eq (least_chk hc) hc (least_run hc)
theorem least_distinct {nx rl : List Int} (hc : chk nx rl = true) {m m' : Nat} (hm : m < (lR nx rl).length) (hm' : m' < (lR nx rl).length) (hs : Sim (lN nx rl) (lR nx rl) m (lN nx rl) (lR nx rl) m') : m = m' := by
  obtain ⟨ok, _⟩ := chk_ok hc
  obtain ⟨Q, _, h2, h3⟩ := least_ok hc
  rw [h2] at hm hm' hs
  have hR : (ruleL rl Q).length = Q.length := by simp [ruleL]
  exact h3.distinct ok (Cl.prog (partM_ok ok)) (by omega) (by omega) hs
theorem least_live {nx rl : List Int} (hc : chk nx rl = true) (h1 : 1 < (lR nx rl).length) {m : Nat} (hm : m < (lR nx rl).length) : (liveM (lN nx rl) (lR nx rl)).getD m false = true := by
  obtain ⟨ok, _⟩ := chk_ok hc
  obtain ⟨ok2, _⟩ := chk_ok (least_chk hc)
  rw [live_iff ok2 hm]
  obtain ⟨Q, _, h2, h3⟩ := least_ok hc
  rw [h2] at hm h1 ⊢
  have hR : (ruleL rl Q).length = Q.length := by simp [ruleL]
  exact h3.allLive ok (by omega) (by omega)
theorem apart_isNone {nx rl : List Int} (hc : chk nx rl = true) {i k : Nat} (hi : i < (lR nx rl).length) (hk : k < i) : (witM (frN (lN nx rl) i) (frR (lR nx rl) i) (frN (lN nx rl) k) (frR (lR nx rl) k)).isNone = false := by
  have h2 := least_chk hc
  have hk2 : k < (lR nx rl).length := by omega
  cases hb : (witM (frN (lN nx rl) i) (frR (lR nx rl) i) (frN (lN nx rl) k) (frR (lR nx rl) k)).isNone with
  | false => rfl
  | true =>
    exfalso
    rw [Option.isNone_iff_eq_none, wit_none (from_chk h2 hi) (from_chk h2 hk2)] at hb
    have s := ((from_run h2 hi).symm.trans hb).trans (from_run h2 hk2)
    have := least_distinct hc hi hk2 s
    omega
set_option maxRecDepth 20000 in
theorem lruns_code (nx rl : List Int) (s : List UInt8) : callW X A 0 0 5 [.agg (Dv nx rl), Sg s] [] = some (Bo true, []) := by
  refine wb_callB [2, 5, 7] rfl A5 rfl rfl ?_
  unfold t5B
  have k0 := lives_ok
  have k1 := light_code (lk := 0) (lim := 0) (H := []) nx rl 16 (by omega)
  rw [show ((16 : Nat) : Int) = 16 from rfl] at k1
  by_cases a1 : rl.length ≤ 16 ∧ nx.length ≤ 256 * 16
  case neg =>
    have hf : (decide (rl.length ≤ 16) && decide (nx.length ≤ 256 * 16)) = false := by
      rw [← Bool.decide_and]; exact decide_eq_false a1
    rw [hf] at k1
    generalize callW X A = C at k0 k1 ⊢
    simp [k0, k1]
  have ht : (decide (rl.length ≤ 16) && decide (nx.length ≤ 256 * 16)) = true := by
    rw [← Bool.decide_and]; exact decide_eq_true a1
  rw [ht] at k1
  obtain ⟨b1, b2⟩ := a1
  by_cases a2 : (40 : Int) < s.length
  · generalize callW X A = C at k0 k1 ⊢
    simp [k0, k1, Sg_size, a2]
  have k2 := check_code (lk := 0) (lim := 0) (H := []) nx rl (by omega) (by omega)
  by_cases a5 : chk nx rl = true
  case neg =>
    rw [chkE_neg a5] at k2
    generalize callW X A = C at k0 k1 k2 ⊢
    simp [k0, k1, Sg_size, a2, k2]
  rw [chkE_pos a5] at k2
  obtain ⟨ok, m1, _⟩ := chk_ok a5
  have c2 := least_chk a5
  obtain ⟨ok2, m2, _⟩ := chk_ok c2
  obtain ⟨f1, f2⟩ := least_len a5
  have k3 := least_code (lk := 0) (lim := 0) (H := []) nx rl a5 (by simp)
  have k4 := least_code (lk := 0) (lim := 0) (H := []) (lN nx rl) (lR nx rl) c2 (by simp)
  have e1 : (leastM nx rl (partM nx rl)).2 = lN nx rl := rfl
  have e2 : ruleL rl (leastM nx rl (partM nx rl)).1 = lR nx rl := rfl
  have e3 : (leastM (lN nx rl) (lR nx rl) (partM (lN nx rl) (lR nx rl))).2 = lN (lN nx rl) (lR nx rl) := rfl
  have e4 : ruleL (lR nx rl) (leastM (lN nx rl) (lR nx rl) (partM (lN nx rl) (lR nx rl))).1 = lR (lN nx rl) (lR nx rl) := rfl
  obtain ⟨i1, i2⟩ := least_idem a5
  rw [e1, e2] at k3
  rw [e3, e4, i1, i2] at k4
  have k5 := check_code (lk := 0) (lim := 0) (H := []) (lN nx rl) (lR nx rl) (by omega) (by omega)
  rw [chkE_pos c2] at k5
  have k6 := same_code (lk := 0) (lim := 0) (H := []) (lN nx rl) (lR nx rl) (lN nx rl) (lR nx rl) (by omega) (by omega) (by omega) (by omega)
  rw [decide_eq_true rfl, decide_eq_true rfl, Bool.and_self] at k6
  have k7 := run_code (lk := 0) (lim := 0) (H := []) nx rl s a5 (by omega)
  have k7b := run_code (lk := 0) (lim := 0) (H := []) (lN nx rl) (lR nx rl) s c2 (by omega)
  have hrun : runM (lN nx rl) (lR nx rl) s = runM nx rl s := by rw [run_rn ok2, run_rn ok]; exact least_run a5 s
  rw [hrun] at k7b
  have k8 := live_code (lk := 0) (lim := 0) (H := []) (lN nx rl) (lR nx rl) (by omega) (by omega) (by simp)
  rw [if_pos c2] at k8
  have l2 := liveM_len (lN nx rl) (lR nx rl)
  have k9 := equal_code (lk := 0) (lim := 0) (H := []) (lN nx rl) (lR nx rl) nx rl c2 a5 (by simp)
  have hn9 : (witM (lN nx rl) (lR nx rl) nx rl).isNone = true := by
    rw [Option.isNone_iff_eq_none, wit_none c2 a5]; exact least_run a5
  rw [hn9] at k9
  have kf := fun (i : Nat) (hi : i < (lR nx rl).length) => from_code (lk := 0) (lim := 0) (H := []) (lN nx rl) (lR nx rl) i c2 hi (by simp)
  have ke : ∀ i k : Nat, i < (lR nx rl).length → k < i → callW X A 0 0 17 [.agg (Dv (frN (lN nx rl) i) (frR (lR nx rl) i)), .agg (Dv (frN (lN nx rl) k) (frR (lR nx rl) k))] [] = some (Bo false, []) := fun i k hi hk => by
    have := equal_code (lk := 0) (lim := 0) (H := []) (frN (lN nx rl) i) (frR (lR nx rl) i) (frN (lN nx rl) k) (frR (lR nx rl) k) (from_chk c2 hi) (from_chk c2 (by omega)) (by simp)
    rw [apart_isNone a5 hi hk] at this
    exact this
  have hlv : 1 < (lR nx rl).length → ∀ m, m < (lR nx rl).length → (liveM (lN nx rl) (lR nx rl)).getD m false = true := fun h m hm => least_live a5 h hm
  clear e1 e2 e3 e4 i1 i2 c2 ok2 hrun hn9
  generalize lN nx rl = N at k3 k4 k5 k6 k7b k8 k9 kf ke hlv l2 f2
  generalize lR nx rl = R at k3 k4 k5 k6 k7b k8 k9 kf ke hlv l2 f1 f2 m2
  generalize liveM N R = v2 at k8 l2 hlv
  generalize runM nx rl s = u at k7 k7b
  generalize callW X A = C at k0 k1 k2 k3 k4 k5 k6 k7 k7b k8 k9 kf ke ⊢
  simp [-wb_regN, -wb_regD]
  rw [wb_regN]
  simp [-wb_regN, -wb_regD]
  rw [wb_regN]
  simp [-wb_regN, -wb_regD, k0]
  rw [wb_regN]
  simp [-wb_regN, -wb_regD, -wr_cons, -wr_nil]
  iterate 13 (rw [wr_cons]; simp [-wb_regN, -wb_regD, -wr_cons, -wr_nil, k1, Sg_size, a2, k2])
  rw [wr_nil, fol_nrm, wb_false rfl, wb_skip, fol_nrm, wb_seq, wb_regN]
  simp [-wb_regN, -wb_regD, -wi_stL, k3]
  rw [wi_stL]
  simp [-wb_regN, -wb_regD, -wi_stL, replaceAt]
  rw [wb_regN]
  simp [-wb_regN, -wb_regD, -wi_stL, k4]
  rw [wi_stL]
  simp [-wb_regN, -wb_regD, -wi_stL, replaceAt]
  rw [wb_regD rfl]
  have f1' : ¬ (rl.length : Int) < R.length := by omega
  simp [-wb_regN, -wb_regD, -wrd_cons, -wrd_nil]
  iterate 35 (rw [wrd_cons]; simp [-wb_regN, -wb_regD, -wrd_cons, -wrd_nil, k5, k6, f1', k7, k7b])
  rw [wrd_nil, fol_nrm, wb_false rfl, wb_skip, fol_nrm, wb_seq, wb_regN]
  simp [-wb_regN, -wb_regD, k8]
  rw [wb_regN]
  simp [-wb_regN, -wb_regD]
  rw [wb_regN]
  simp [-wb_regN, -wb_regD]
  let bx : AV := .box (Dv nx rl)
  let bx2 : AV := .box (Dv N R)
  refine wb_loop (σ := Nat) (fun i => [(2, bx), (5, bx2), (9, .sl R.length (bools v2)), (10, I i)]) (fun _ => []) (fun i => i ≤ R.length) (fun i => R.length - i) ?_ 0 (Nat.zero_le _) (by simp [bx, bx2]) rfl
  intro i hi
  unfold t5L2
  have w1 : IntKind.i64.wrap ((i : Int) + 1) = (i : Int) + 1 := wrap64 (by omega) (by omega)
  by_cases hil : i < R.length
  case pos =>
    have hiv : i < v2.length := by omega
    obtain ⟨y, hy⟩ : ∃ y, v2[i] = y := ⟨_, rfl⟩
    have hb2 : (bools v2).length = R.length := by rw [bools_len, l2]
    have hcond : (!y && decide (1 < R.length)) = false := by
      by_cases h : 1 < R.length
      · have := hlv h i hil
        rw [List.getD_eq_getElem?_getD, List.getElem?_eq_getElem hiv, hy, Option.getD_some] at this
        rw [this]; rfl
      · rw [decide_eq_false h, Bool.and_false]
    simp [-wb_regN, -wb_regD, -wb_true, -wb_false, bx, bx2]
    rw [wb_regN]
    simp [-wb_regN, -wb_regD, -wb_true, -wb_false, hil]
    rw [wb_true rfl, wb_skip, fol_nrm, wb_seq, wb_block, wb_seq, wb_seq, wb_regN]
    have main : ∀ E0 : Env, restrict [2, 5, 9, 10] E0 = [(2, bx), (5, bx2), (9, .sl R.length (bools v2)), (10, I i)] → WB ⟨C, 0, 0, [2, 5, 7]⟩ (.seq (.regN [2, 5, 9, 10] [⟨some 11, none, .mv (.con (I 0)), 0, false⟩]) (.block 2 (.loop [2, 5, 9, 10, 11] t5L1))) (BlkE 1 (Fol ⟨C, 0, 0, [2, 5, 7]⟩ (.regN [2, 5, 9, 10] [⟨some 84, none, .mv (.tmp 10), 0, false⟩, ⟨some 85, none, .bini .add (.tmp 84) (.con (I 1)), 0, false⟩, ⟨some 10, none, .mv (.tmp 85), 0, false⟩]) (Rnd (σ := Nat) [2, 5, 9, 10] (fun i => [(2, bx), (5, bx2), (9, .sl R.length (bools v2)), (10, I i)]) (fun _ => []) (fun i => i ≤ R.length) (fun i => R.length - i) i (BlkE 0 (Fol ⟨C, 0, 0, [2, 5, 7]⟩ (.seq (.regN [2, 5] [⟨some 108, none, .ldA (some 5) 2 (.tmp 5), 0, false⟩, ⟨some 109, none, .ldA (some 2) 2 (.tmp 2), 0, false⟩, ⟨some 110, none, .call 17 [.tmp 108, .tmp 109], 0, false⟩, ⟨some 4, none, .mv (.tmp 110), 0, false⟩]) .ret) (FinT [.tmp 4] true [] (Bo true, []))))))) E0 [] := by
      intro E0 hE0
      rw [wb_seq, wb_regN, hE0]
      simp [-wb_regN, -wb_regD, bx, bx2]
      refine wb_loop (σ := Nat) (fun k => [(2, bx), (5, bx2), (9, .sl R.length (bools v2)), (10, I i), (11, I k)]) (fun _ => []) (fun k => k ≤ i) (fun k => i - k) ?_ 0 (Nat.zero_le _) (by simp [bx, bx2]) rfl
      intro k hk
      unfold t5L1
      have w2 : IntKind.i64.wrap ((k : Int) + 1) = (k : Int) + 1 := wrap64 (by omega) (by omega)
      by_cases hki : k < i
      case pos =>
        have f3 := kf i hil
        have f4 := kf k (by omega)
        have f5 := ke i k hil hki
        generalize frN N i = A1 at f3 f5
        generalize frR R i = A2 at f3 f5
        generalize frN N k = A3 at f4 f5
        generalize frR R k = A4 at f4 f5
        simp [-wb_regN, -wb_regD, bx, bx2]
        rw [wb_regN]
        simp [-wb_regN, -wb_regD, hki]
        rw [wb_regD rfl]
        simp [-wb_regN, -wb_regD, f3, f4, f5]
        rw [wb_regN]
        simp [-wb_regN, -wb_regD, w2]
        rw [rnd_nrm]
        exact ⟨k + 1, hki, by omega, by simp [bx, bx2], rfl⟩
      obtain rfl : k = i := by omega
      simp [-wb_regN, -wb_regD, bx, bx2]
      rw [wb_regN]
      simp [-wb_regN, -wb_regD]
      rw [wb_regN]
      simp [-wb_regN, -wb_regD, w1]
      rw [rnd_nrm]
      exact ⟨k + 1, hil, by omega, by simp [bx, bx2], rfl⟩
    by_cases hR1 : 1 < R.length
    · have hyt : y = true := by
        rw [decide_eq_true hR1, Bool.and_true] at hcond
        cases y <;> simp_all
      subst hyt
      simp [-wb_regN, -wb_regD, -wr_cons, -wr_nil, hil]
      iterate 10 (rw [wr_cons]; simp [-wb_regN, -wb_regD, -wr_cons, -wr_nil, hil, hiv, hy, hb2, l2, bools_get])
      rw [wr_nil, fol_nrm, wb_false rfl, wb_skip, fol_nrm]
      exact main _ (by simp [bx, bx2])
    · have hR1' : ¬ (1 : Int) < R.length := by omega
      simp [-wb_regN, -wb_regD, -wr_cons, -wr_nil, hil]
      cases y <;>
      · iterate 10 (rw [wr_cons]; simp [-wb_regN, -wb_regD, -wr_cons, -wr_nil, hil, hiv, hy, hb2, l2, bools_get, hR1, hR1'])
        rw [wr_nil, fol_nrm, wb_false rfl, wb_skip, fol_nrm]
        exact main _ (by simp [bx, bx2])
  obtain rfl : i = R.length := by omega
  simp [-wb_regN, -wb_regD, bx, bx2]
  rw [wb_regN]
  simp [-wb_regN, -wb_regD]
  rw [wb_regN]
  simp [k9]
end Go.Proofs.Ytdbbaopgmapmaaa
