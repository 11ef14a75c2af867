import Derived.Test.YtdbbaopgmapmaaaX3
set_option linter.unusedSimpArgs false
set_option linter.unusedVariables false
namespace Go.Proofs.Ytdbbaopgmapmaaa
open Go Go.Hm
/-! ### How the least table's states are numbered -/
theorem least_fnd {nx rl : List Int} (hc : chk nx rl = true) : fndF (lN nx rl) 0 0 = some (((lR nx rl).length : Int) - 1) := by
  obtain ⟨Q, _, h2, h3⟩ := least_ok hc
  rw [h2, h3.fnd]
  simp [ruleL]
theorem live_0 {nx rl : List Int} (hc : chk nx rl = true) : (liveM (lN nx rl) (lR nx rl)).getD 0 false = (liveM nx rl).getD 0 false := by
  obtain ⟨ok, _⟩ := chk_ok hc
  obtain ⟨ok2, _⟩ := chk_ok (least_chk hc)
  have h1 := live_iff ok (i := 0) (by have := ok.one; omega)
  have h2 := live_iff ok2 (i := 0) (by have := ok2.one; omega)
  have s := least_run hc
  rw [Bool.eq_iff_iff, h1, h2]
  constructor
  · rintro ⟨l, h⟩; exact ⟨l, by rw [Int.natCast_zero] at h ⊢; rw [← s l]; exact h⟩
  · rintro ⟨l, h⟩; exact ⟨l, by rw [Int.natCast_zero] at h ⊢; rw [s l]; exact h⟩
set_option maxRecDepth 20000 in
theorem lfound_code (nx rl : List Int) : callW X A 0 0 3 [.agg (Dv nx rl)] [] = some (Bo true, []) := by
  refine wb_callB [1, 3] rfl A3 rfl rfl ?_
  unfold t3B
  have k0 := lives_ok
  have k1 := light_code (lk := 0) (lim := 0) (H := []) nx rl 16 (by omega)
  rw [show ((16 : Nat) : Int) = 16 from rfl] at k1
  by_cases a1 : rl.length ≤ 16 ∧ nx.length ≤ 256 * 16
  case neg =>
    have hf : (decide (rl.length ≤ 16) && decide (nx.length ≤ 256 * 16)) = false := by
      rw [← Bool.decide_and]; exact decide_eq_false a1
    rw [hf] at k1
    generalize callW X A = C at k0 k1 ⊢
    simp [k0, k1]
  have ht : (decide (rl.length ≤ 16) && decide (nx.length ≤ 256 * 16)) = true := by
    rw [← Bool.decide_and]; exact decide_eq_true a1
  rw [ht] at k1
  obtain ⟨b1, b2⟩ := a1
  have k2 := check_code (lk := 0) (lim := 0) (H := []) nx rl (by omega) (by omega)
  by_cases a5 : chk nx rl = true
  case neg =>
    rw [chkE_neg a5] at k2
    generalize callW X A = C at k0 k1 k2 ⊢
    simp [k0, k1, k2]
  rw [chkE_pos a5] at k2
  have k3 := least_code (lk := 0) (lim := 0) (H := []) nx rl a5 (by simp)
  have e1 : (leastM nx rl (partM nx rl)).2 = lN nx rl := rfl
  have e2 : ruleL rl (leastM nx rl (partM nx rl)).1 = lR nx rl := rfl
  rw [e1, e2] at k3
  have f1 := least_len a5
  have f2 := least_chk a5
  obtain ⟨ok2, _⟩ := chk_ok f2
  have f3 := least_fnd a5
  have f4 := live_0 a5
  have k4 := live_code (lk := 0) (lim := 0) (H := []) nx rl (by omega) (by omega) (by simp)
  have k5 := live_code (lk := 0) (lim := 0) (H := []) (lN nx rl) (lR nx rl) (by omega) (by omega) (by simp)
  rw [if_pos a5] at k4
  rw [if_pos f2] at k5
  have l1 := liveM_len nx rl
  have l2 := liveM_len (lN nx rl) (lR nx rl)
  have nb := ok2.nxb
  have o1 := ok2.one
  have o2 : 1 ≤ rl.length := (chk_ok a5).1.one
  clear e1 e2 f2 ok2
  generalize lN nx rl = N at k3 f1 f3 f4 k5 l2 nb
  generalize lR nx rl = R at k3 f1 f3 f4 k5 l2 nb o1
  generalize liveM nx rl = v1 at k4 l1 f4
  generalize liveM N R = v2 at k5 l2 f4
  generalize callW X A = C at k0 k1 k2 k3 k4 k5 ⊢
  simp [-wb_regN, -wb_regD]
  rw [wb_regN]
  simp [-wb_regN, -wb_regD]
  rw [wb_regN]
  simp [-wb_regN, -wb_regD, k0]
  rw [wb_regN]
  simp [-wb_regN, -wb_regD, -wb_true, -wb_false, k1, k2]
  rw [wb_false rfl, wb_skip, fol_nrm, wb_seq, wb_regN]
  simp [-wb_regN, -wb_regD, -wi_stL, k3]
  rw [wi_stL]
  simp [-wb_regN, -wb_regD, -wi_stL, replaceAt]
  rw [wb_regN]
  simp [-wb_regN, -wb_regD]
  rw [wb_regN]
  simp [-wb_regN, -wb_regD]
  rw [wb_regN]
  simp [-wb_regN, -wb_regD]
  let bx : AV := .box (Dv nx rl)
  let bx2 : AV := .box (Dv N R)
  refine wb_loop (σ := Nat × Int) (fun s => [(1, bx), (3, bx2), (5, I s.2), (6, I s.1)]) (fun _ => []) (fun s => s.1 ≤ N.length ∧ 0 ≤ s.2 ∧ s.2 ≤ 1000000 ∧ fndF (N.drop s.1) s.1 s.2 = some ((R.length : Int) - 1)) (fun s => N.length - s.1) ?_ (0, 0) ⟨Nat.zero_le _, by simp, by simp, by simpa using f3⟩ (by simp [bx, bx2]) rfl
  rintro ⟨k, f⟩ ⟨hk, hf0, hf1, hfn⟩
  simp only at hk hf0 hf1 hfn
  unfold t3L1
  have w1 : IntKind.i64.wrap ((k : Int) + 1) = (k : Int) + 1 := wrap64 (by omega) (by omega)
  have w2 : IntKind.i64.wrap (f + 1) = f + 1 := wrap64 (by omega) (by omega)
  by_cases hkl : k < N.length
  case pos =>
    obtain ⟨x, hx⟩ : ∃ x, N[k] = x := ⟨_, rfl⟩
    have hxb := nb x (hx ▸ List.getElem_mem hkl)
    rw [List.drop_eq_getElem_cons hkl, hx] at hfn
    simp only [fndF] at hfn
    split at hfn
    · cases hfn
    rename_i hcn
    have c1 : ¬ f + 1 < x := fun h => hcn (.inl h)
    simp [-wb_regN, -wb_regD, bx, bx2, hkl]
    rw [wb_regN]
    simp [-wb_regN, -wb_regD, -wb_true, -wb_false, hkl, hx, w2, c1]
    rw [wb_true rfl, wb_skip, fol_nrm, wb_seq, wb_block, wb_seq, wb_seq, wb_regN]
    simp [-wb_regN, -wb_regD, -wr_cons, -wr_nil, hkl, hx, w2, c1]
    have hm : (if f < x then x else f) = max f x := by split <;> omega
    have hm2 : (if x ≤ f then f else x) = max f x := by split <;> omega
    by_cases c2 : x = f + 1
    · have c3 : ¬ f < ((k / 256 : Nat) : Int) := fun h => hcn (.inr ⟨c2, h⟩)
      have c4 : (k : Int).tdiv 256 = ((k / 256 : Nat) : Int) := Int.ofNat_tdiv k 256
      have c5 : IntKind.i64.wrap ((k / 256 : Nat) : Int) = ((k / 256 : Nat) : Int) := wrap64 (by omega) (by omega)
      have c6 : (x == f + 1) = true := by rw [beq_iff_eq]; exact c2
      obtain ⟨d, hd⟩ : ∃ d, ((k / 256 : Nat) : Int) = d := ⟨_, rfl⟩
      rw [hd] at c3 c4 c5
      iterate 24 (rw [wr_cons]; simp [-wb_regN, -wb_regD, -wr_cons, -wr_nil, hkl, hx, w2, c1, c4, c5, c3, c6])
      rw [wr_nil, fol_nrm, wb_false rfl, wb_skip, fol_nrm, wb_regN]
      simp [-wb_regN, hkl, hx, mmFold]
      rw [wb_regN]
      simp [-wb_regN, w1]
      rw [rnd_nrm]
      refine ⟨(k + 1, max f x), ⟨hkl, by simp only; omega, by simp only; omega, hfn⟩, by simp only; omega, ?_, rfl⟩
      simp [bx, bx2]
      omega
    · have c6 : (x == f + 1) = false := by rw [beq_eq_false_iff_ne]; exact c2
      iterate 24 (rw [wr_cons]; simp [-wb_regN, -wb_regD, -wr_cons, -wr_nil, hkl, hx, w2, c1, c6])
      rw [wr_nil, fol_nrm, wb_false rfl, wb_skip, fol_nrm, wb_regN]
      simp [-wb_regN, hkl, hx, mmFold]
      rw [wb_regN]
      simp [-wb_regN, w1]
      rw [rnd_nrm]
      refine ⟨(k + 1, max f x), ⟨hkl, by simp only; omega, by simp only; omega, hfn⟩, by simp only; omega, ?_, rfl⟩
      simp [bx, bx2]
      omega
  obtain rfl : k = N.length := by omega
  rw [List.drop_length] at hfn
  simp only [fndF, Option.some.injEq] at hfn
  subst hfn
  simp [-wb_regN, -wb_regD, bx, bx2]
  rw [wb_regN]
  simp [-wb_regN, -wb_regD]
  rw [wb_regD rfl]
  simp [-wb_regN, -wb_regD, k4, k5]
  rw [wb_regN]
  simp [-wb_regN]
  rw [wb_regN]
  simp [-wb_regN]
  refine wb_loop (σ := Nat) (fun j => [(3, bx2), (5, I ((R.length : Int) - 1)), (7, .sl R.length (bools v2)), (8, .sl rl.length (bools v1)), (9, Bo (decide (0 < j) && v1.getD 0 false)), (10, I j)]) (fun _ => []) (fun j => j ≤ rl.length) (fun j => rl.length - j) ?_ 0 (Nat.zero_le _) (by simp [bx2]) rfl
  intro j hj
  unfold t3L2
  have w1 : IntKind.i64.wrap ((j : Int) + 1) = (j : Int) + 1 := wrap64 (by omega) (by omega)
  have h10 : 0 < v1.length := by omega
  obtain ⟨y, hy⟩ : ∃ y, v1[0] = y := ⟨_, rfl⟩
  have hyD : v1.getD 0 false = y := by rw [List.getD_eq_getElem?_getD, List.getElem?_eq_getElem h10, hy]; rfl
  rw [hyD] at f4 ⊢
  by_cases hjl : j < rl.length
  case pos =>
    have hjv : j < v1.length := by omega
    obtain ⟨z, hz⟩ : ∃ z, v1[j] = z := ⟨_, rfl⟩
    have hb1 : (bools v1).length = rl.length := by rw [bools_len, l1]
    simp [-wb_regN, bx2, hjl]
    rw [wb_regN]
    simp [-wb_regN, hjl]
    rw [wb_regN]
    by_cases j0 : j = 0
    · subst j0
      have hzy : z = y := by rw [← hz, hy]
      subst hzy
      simp [-wb_regN, -wr_cons, -wr_nil, hjl]
      cases z <;>
      · iterate 12 (rw [wr_cons]; simp [-wb_regN, -wr_cons, -wr_nil, hjl, hjv, hz, l1, bools_get, hb1])
        rw [wr_nil]
        simp [-wb_regN]
        rw [wb_regN]
        simp [-wb_regN, w1]
        rw [rnd_nrm]
        refine ⟨1, by omega, by omega, ?_, rfl⟩
        simp [bx2]
        decide
    · have j1 : 0 < j := by omega
      have j2 : ((j : Int) == 0) = false := by rw [beq_eq_false_iff_ne]; omega
      simp [-wb_regN, -wr_cons, -wr_nil, hjl, j1]
      cases y <;> cases z <;>
      · iterate 12 (rw [wr_cons]; simp [-wb_regN, -wr_cons, -wr_nil, hjl, hjv, hz, l1, bools_get, j2, hb1])
        rw [wr_nil]
        simp [-wb_regN]
        rw [wb_regN]
        simp [-wb_regN, w1]
        rw [rnd_nrm]
        refine ⟨j + 1, by omega, by omega, ?_, rfl⟩
        simp [bx2]
  obtain rfl : j = rl.length := by omega
  have hw : IntKind.i64.wrap ((R.length : Int) - 1) = (R.length : Int) - 1 := wrap64 (by omega) (by omega)
  have h20 : 0 < v2.length := by omega
  obtain ⟨u, hu⟩ : ∃ u, v2[0] = u := ⟨_, rfl⟩
  have huD : v2.getD 0 false = u := by rw [List.getD_eq_getElem?_getD, List.getElem?_eq_getElem h20, hu]; rfl
  rw [huD] at f4
  subst f4
  have hb2 : (bools v2).length = R.length := by rw [bools_len, l2]
  have hR0 : 0 < R.length := by omega
  have hl0 : 0 < rl.length := by omega
  simp [-wb_regN, bx2]
  rw [wb_regN]
  simp [-wb_regN]
  rw [wb_regN]
  simp [-wb_regN, -wr_cons, -wr_nil, hl0]
  iterate 22 (rw [wr_cons]; simp [-wb_regN, -wr_cons, -wr_nil, hw, hR0, hu, h20, hb2, bools_get, l2])
  rw [wr_nil]
  simp
end Go.Proofs.Ytdbbaopgmapmaaa
