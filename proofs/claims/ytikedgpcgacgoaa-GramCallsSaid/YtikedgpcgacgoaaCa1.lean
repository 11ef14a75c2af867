import Derived.Test.YtikedgpcgacgoaaLh
set_option linter.unusedSimpArgs false
set_option linter.unusedVariables false
namespace Go.Proofs.Ytikedgpcgacgoaa
open Go Go.Hm

set_option maxRecDepth 20000 in
theorem r32L1 {C : Orc} {Q : Ex → Kt} {env : Env} {lk L : Nat} {H : Heap} {b2 b3 : AV} {j : Nat} {pl ql : Int} {r s : List Int} {x : AV} (hx : IS H r x) (hrs : r.length = s.length) (hr : r.length ≤ 1000000)
    (hE : restrict [2, 3, 5, 6, 7, 8] env = [(2, b2), (3, b3), (5, I j), (6, .box [I pl, x]), (7, .box [I ql, .sl s.length (ints s)]), (8, I 0)])
    (hQ1 : r = s → ∀ env', restrict [2, 3, 5] env' = [(2, b2), (3, b3), (5, I j)] → Q (.exit 2) env' H)
    (hQ2 : r ≠ s → Q .ret [(4, Bo false)] H) :
    WB ⟨C, lk, L, [2, 3, 6, 7]⟩ (.loop [2, 3, 5, 6, 7, 8] t32L1) Q env H := by
  refine wb_loop (σ := Nat) (fun i => [(2, b2), (3, b3), (5, I j), (6, .box [I pl, x]), (7, .box [I ql, .sl s.length (ints s)]), (8, I i)]) (fun _ => H)
    (fun i => i ≤ r.length ∧ (r = s ↔ r.drop i = s.drop i)) (fun i => r.length - i) ?_ 0 (by simp) hE rfl
  rintro i ⟨hi, hinv⟩
  unfold t32L1
  have w1 : IntKind.i64.wrap ((i : Int) + 1) = (i : Int) + 1 := wrap64 (by omega) (by omega)
  by_cases hil : i < r.length
  case neg =>
    obtain rfl : i = r.length := by omega
    rw [List.drop_of_length_le (by omega), List.drop_of_length_le (by omega)] at hinv
    have hinv : r = s := hinv.2 rfl
    have hQ3 := hQ1 hinv
    clear hQ1 hQ2
    cases hx with
    | e0 h =>
      subst h
      simp
      refine hQ3 _ ?_
      simp
    | sl =>
      simp
      refine hQ3 _ ?_
      simp
    | hs b hb =>
      simp
      refine hQ3 _ ?_
      simp
  have his : i < s.length := by omega
  rw [List.drop_eq_getElem_cons hil, List.drop_eq_getElem_cons his, List.cons.injEq] at hinv
  obtain ⟨u, hu⟩ : ∃ u, r[i] = u := ⟨_, rfl⟩
  obtain ⟨v, hv⟩ : ∃ v, s[i] = v := ⟨_, rfl⟩
  rw [hu, hv] at hinv
  have fin : u = v → ∀ E : Env, E = [(2, b2), (3, b3), (5, I j), (6, .box [I pl, x]), (7, .box [I ql, .sl s.length (ints s)]), (8, I ((i : Int) + 1))] → ∃ i' : Nat, (i' ≤ r.length ∧ (r = s ↔ r.drop i' = s.drop i')) ∧ r.length - i' < r.length - i ∧ E = [(2, b2), (3, b3), (5, I j), (6, .box [I pl, x]), (7, .box [I ql, .sl s.length (ints s)]), (8, I i')] ∧ H = H :=
    fun he E hE => ⟨i + 1, ⟨by omega, hinv.trans ⟨fun h => h.2, fun h => ⟨he, h⟩⟩⟩, by omega, by rw [hE]; simp, rfl⟩
  by_cases huv : u = v
  · have fin2 := fin huv
    clear fin
    subst huv
    cases hx with
    | e0 h => subst h; simp at hil
    | sl =>
      simp [hil, his, ints_get, hu, hv, w1]
      rw [rnd_nrm]
      refine fin2 _ ?_
      simp
    | hs b hb =>
      simp [hil, his, ints_get, hu, hv, w1, hb]
      rw [rnd_nrm]
      refine fin2 _ ?_
      simp
  · have hne := hQ2 (fun h => huv (hinv.1 h).1)
    have hb : (u != v) = true := bne_iff_ne.2 huv
    cases hx with
    | e0 h => subst h; simp at hil
    | sl =>
      simp [hil, his, ints_get, hu, hv, hb]
      exact hne
    | hs b hb2 =>
      simp [hil, his, ints_get, hu, hv, hb, hb2]
      exact hne
set_option maxRecDepth 20000 in
theorem rsame_code {lk lim : Nat} {H : Heap} (g h : Gm) (hr : g.ps.length ≤ 1000000) (hr2 : ∀ p ∈ g.ps, p.r.length ≤ 1000000) (v : AV) (hv : PS H g.ps v) :
    callW X A lk lim 32 [gW g v, gV h] H = some (Bo (decide (g = h)), H) := by
  have e : decide (g = h) = (decide (g.t = h.t) && (decide (g.n = h.n) && (decide (g.k = h.k) && decide (g.ps = h.ps)))) := by
    rw [Bool.eq_iff_iff]
    simp only [Bool.and_eq_true, decide_eq_true_eq]
    exact (gm_ext g h).symm
  rw [e]
  obtain ⟨t, n, k, ps⟩ := g
  obtain ⟨t', n', k', qs⟩ := h
  simp only at hr hr2 hv
  refine wb_callB [2, 3, 6, 7] rfl A32 rfl rfl ?_
  generalize callW X A = C
  unfold t32B
  have fv : v = .e0 ∨ (∃ cs, v = .sl ps.length cs) ∨ ∃ b, v = .hs b (2 * ps.length) 0 ps.length 2 := by
    rcases hv.forms with ⟨rfl, h1⟩ | ⟨cs, rfl, h1⟩ | ⟨b, cs, rfl, hh1, h1⟩
    · exact .inl rfl
    · exact .inr (.inl ⟨_, rfl⟩)
    · exact .inr (.inr ⟨_, rfl⟩)
  by_cases c1 : t = t'
  case neg =>
    have hb : (t != t') = true := bne_iff_ne.2 c1
    rcases fv with rfl | ⟨m, rfl⟩ | ⟨m, rfl⟩ <;> simp [Gm.cells, hb, c1]
  subst c1
  have b1 : (t != t) = false := by simp
  by_cases c2 : n = n'
  case neg =>
    have hb : (n != n') = true := bne_iff_ne.2 c2
    rcases fv with rfl | ⟨m, rfl⟩ | ⟨m, rfl⟩ <;> simp [Gm.cells, b1, hb, c2]
  subst c2
  have b2 : (n != n) = false := by simp
  by_cases c3 : k = k'
  case neg =>
    have hb : (k != k') = true := bne_iff_ne.2 c3
    rcases fv with rfl | ⟨m, rfl⟩ | ⟨m, rfl⟩ <;> simp [Gm.cells, b1, b2, hb, c3]
  subst c3
  have b3 : (k != k) = false := by simp
  by_cases c4 : ps.length = qs.length
  case neg =>
    have hne : ¬ ps = qs := fun h => c4 (by rw [h])
    have hb : ((ps.length : Int) != (qs.length : Int)) = true := bne_iff_ne.2 (by omega)
    rcases hv.forms with ⟨rfl, h1⟩ | ⟨cs, rfl, h1⟩ | ⟨b, cs, rfl, hh1, h1⟩
    · subst h1
      have hb : ((0 : Int) != (qs.length : Int)) = true := hb
      simp [Gm.cells, b1, b2, b3, hb, hne]
    · simp [Gm.cells, b1, b2, b3, hb, hne]
    · simp [Gm.cells, b1, b2, b3, hb, hne]
  have hb : ((ps.length : Int) != (qs.length : Int)) = false := by rw [c4]; simp
  have main : ∀ env : Env, restrict [2, 3, 5] env = [(2, .box [I t, I n, I k, v]), (3, .box [I t, I n, I k, .sl qs.length (psC qs)]), (5, I 0)] → WB ⟨C, lk, H.length, [2, 3, 6, 7]⟩ (.loop [2, 3, 5] t32L2) (BlkE 0 (Fol ⟨C, lk, H.length, [2, 3, 6, 7]⟩ (.seq (.regN [] [⟨(some 4), none, .mv (.con (.val (.bool true))), 0, false⟩]) .ret) (FinT [.tmp 4] true H (Bo (decide (ps = qs)), H)))) env H := by
    intro env hE
    let bv : AV := .box [I t, I n, I k, v]
    let bw : AV := .box [I t, I n, I k, .sl qs.length (psC qs)]
    refine wb_loop (σ := Nat) (fun j => [(2, bv), (3, bw), (5, I j)]) (fun _ => H)
      (fun j => j ≤ ps.length ∧ (ps = qs ↔ ps.drop j = qs.drop j)) (fun j => ps.length - j) ?_ 0 (by simp) hE rfl
    rintro j ⟨hj, hinv⟩
    unfold t32L2
    have w1 : IntKind.i64.wrap ((j : Int) + 1) = (j : Int) + 1 := wrap64 (by omega) (by omega)
    by_cases hjl : j < ps.length
    case neg =>
      obtain rfl : j = ps.length := by omega
      rw [List.drop_of_length_le (by omega), List.drop_of_length_le (by omega)] at hinv
      have hinv : ps = qs := hinv.2 rfl
      rw [decide_eq_true hinv]
      rcases hv.forms with ⟨rfl, h1⟩ | ⟨cs, rfl, h1⟩ | ⟨b, cs, rfl, hh1, h1⟩
      · simp [bv, bw, h1]
      · simp [bv, bw]
      · simp [bv, bw]
    have hjq : j < qs.length := by omega
    rw [List.drop_eq_getElem_cons hjl, List.drop_eq_getElem_cons hjq, List.cons.injEq] at hinv
    have hpl := hr2 ps[j] (List.getElem_mem hjl)
    have fin : ∀ E : Env, ps[j] = qs[j] → E = [(2, bv), (3, bw), (5, I ((j : Int) + 1))] → ∃ j' : Nat, (j' ≤ ps.length ∧ (ps = qs ↔ ps.drop j' = qs.drop j')) ∧ ps.length - j' < ps.length - j ∧ E = [(2, bv), (3, bw), (5, I j')] ∧ H = H := fun E he h => ⟨j + 1, ⟨by omega, hinv.trans ⟨fun h => h.2, fun h => ⟨he, h⟩⟩⟩, by omega, by rw [h]; simp, rfl⟩
    have hno : ¬ ps[j] = qs[j] → ¬ ps = qs := fun hn h => hn (hinv.1 h).1
    have hy1 := psC_sub hjq
    have hdl := psC_len qs
    have hj2 : j * 2 + 2 ≤ 2 * qs.length := by omega
    have hi2 : j * 2 + 2 ≤ 2 * ps.length := by omega
    rcases hv.forms with ⟨rfl, h1⟩ | ⟨cs, rfl, h1⟩ | ⟨b, cs, rfl, hh1, h1⟩
    · rw [h1] at hjl; simp at hjl
    · obtain ⟨x, hx1, hx2⟩ := h1.row j hjl
      have hcl := h1.len
      generalize ps[j] = p at hx1 hx2 fin hno hpl
      generalize qs[j] = q at hy1 fin hno
      obtain ⟨pl, pr⟩ := p
      obtain ⟨ql, qr⟩ := q
      simp only [Pr.cells] at hx1 hy1
      simp only at hx2 hpl
      by_cases he : pl = ql
      case neg =>
        have hno := hno (fun h => he (congrArg Pr.l h))
        rw [decide_eq_false hno]
        have hbn : (pl != ql) = true := bne_iff_ne.2 he
        rcases hx2.forms with rfl | rfl | ⟨m, rfl⟩ <;>
          (simp [-wi_stLD, bv, bw, hjl, hjq, hx1, hy1, hcl, hdl, hi2, hj2]; rw [wi_stLD]; simp [-wi_stLD, replaceAt]; rw [wi_stLD]; simp [replaceAt, hbn])
      subst he
      have hbe : (pl != pl) = false := by simp
      by_cases hle : pr.length = qr.length
      case neg =>
        have hno := hno (fun h => hle (congrArg (fun p : Pr => p.r.length) h))
        rw [decide_eq_false hno]
        have hbl : ((pr.length : Int) != (qr.length : Int)) = true := bne_iff_ne.2 (by omega)
        cases hx2 with
        | e0 h =>
          subst h
          have hbl : ((0 : Int) != (qr.length : Int)) = true := hbl
          simp [-wi_stLD, bv, bw, hjl, hjq, hx1, hy1, hcl, hdl, hi2, hj2]
          rw [wi_stLD]
          simp [-wi_stLD, replaceAt]
          rw [wi_stLD]
          simp [replaceAt, hbe, hbl]
        | sl =>
          simp [-wi_stLD, bv, bw, hjl, hjq, hx1, hy1, hcl, hdl, hi2, hj2]
          rw [wi_stLD]
          simp [-wi_stLD, replaceAt]
          rw [wi_stLD]
          simp [replaceAt, hbe, hbl]
        | hs m hm =>
          simp [-wi_stLD, bv, bw, hjl, hjq, hx1, hy1, hcl, hdl, hi2, hj2]
          rw [wi_stLD]
          simp [-wi_stLD, replaceAt]
          rw [wi_stLD]
          simp [replaceAt, hbe, hbl]
      have hbl : ((pr.length : Int) != (qr.length : Int)) = false := by rw [hle]; simp
      have h1' : pr = qr → (⟨pl, pr⟩ : Pr) = ⟨pl, qr⟩ := fun h => by rw [h]
      have hx3 := hx2
      cases hx2 with
      | e0 h =>
        subst h
        have hbl : ((0 : Int) != (qr.length : Int)) = false := hbl
        simp [-wi_stLD, bv, bw, hjl, hjq, hx1, hy1, hcl, hdl, hi2, hj2]
        rw [wi_stLD]
        simp [-wi_stLD, replaceAt]
        rw [wi_stLD]
        simp [replaceAt, hbe, hbl]
        refine r32L1 (b2 := bv) (b3 := bw) (r := []) (s := qr) (j := j) (pl := pl) (ql := pl) hx3 hle hpl (by simp [bv, bw]) (fun h env' hE' => ?_) (fun h => ?_)
        · rw [blk_exit, if_pos rfl, blk_nrm, fol_nrm, wb_regN, hE']
          simp [w1]
          rw [rnd_nrm]
          refine fin _ (h1' h) ?_
          simp [bv, bw]
        · have hno := hno (fun h2 => h (congrArg Pr.r h2))
          simp [hno]
      | sl =>
        simp [-wi_stLD, bv, bw, hjl, hjq, hx1, hy1, hcl, hdl, hi2, hj2]
        rw [wi_stLD]
        simp [-wi_stLD, replaceAt]
        rw [wi_stLD]
        simp [replaceAt, hbe, hbl]
        refine r32L1 (b2 := bv) (b3 := bw) (r := pr) (s := qr) (j := j) (pl := pl) (ql := pl) hx3 hle hpl (by simp [bv, bw]) (fun h env' hE' => ?_) (fun h => ?_)
        · rw [blk_exit, if_pos rfl, blk_nrm, fol_nrm, wb_regN, hE']
          simp [w1]
          rw [rnd_nrm]
          refine fin _ (h1' h) ?_
          simp [bv, bw]
        · have hno := hno (fun h2 => h (congrArg Pr.r h2))
          simp [hno]
      | hs m hm =>
        simp [-wi_stLD, bv, bw, hjl, hjq, hx1, hy1, hcl, hdl, hi2, hj2]
        rw [wi_stLD]
        simp [-wi_stLD, replaceAt]
        rw [wi_stLD]
        simp [replaceAt, hbe, hbl]
        refine r32L1 (b2 := bv) (b3 := bw) (r := pr) (s := qr) (j := j) (pl := pl) (ql := pl) hx3 hle hpl (by simp [bv, bw]) (fun h env' hE' => ?_) (fun h => ?_)
        · rw [blk_exit, if_pos rfl, blk_nrm, fol_nrm, wb_regN, hE']
          simp [w1]
          rw [rnd_nrm]
          refine fin _ (h1' h) ?_
          simp [bv, bw]
        · have hno := hno (fun h2 => h (congrArg Pr.r h2))
          simp [hno]
    · obtain ⟨x, hx1, hx2⟩ := h1.row j hjl
      have hcl := h1.len
      generalize ps[j] = p at hx1 hx2 fin hno hpl
      generalize qs[j] = q at hy1 fin hno
      obtain ⟨pl, pr⟩ := p
      obtain ⟨ql, qr⟩ := q
      simp only [Pr.cells] at hx1 hy1
      simp only at hx2 hpl
      by_cases he : pl = ql
      case neg =>
        have hno := hno (fun h => he (congrArg Pr.l h))
        rw [decide_eq_false hno]
        have hbn : (pl != ql) = true := bne_iff_ne.2 he
        rcases hx2.forms with rfl | rfl | ⟨m, rfl⟩ <;>
          (simp [-wi_stLD, bv, bw, hjl, hjq, hx1, hy1, hcl, hdl, hi2, hj2, hh1]; rw [wi_stLD]; simp [-wi_stLD, replaceAt]; rw [wi_stLD]; simp [replaceAt, hbn])
      subst he
      have hbe : (pl != pl) = false := by simp
      by_cases hle : pr.length = qr.length
      case neg =>
        have hno := hno (fun h => hle (congrArg (fun p : Pr => p.r.length) h))
        rw [decide_eq_false hno]
        have hbl : ((pr.length : Int) != (qr.length : Int)) = true := bne_iff_ne.2 (by omega)
        cases hx2 with
        | e0 h =>
          subst h
          have hbl : ((0 : Int) != (qr.length : Int)) = true := hbl
          simp [-wi_stLD, bv, bw, hjl, hjq, hx1, hy1, hcl, hdl, hi2, hj2, hh1]
          rw [wi_stLD]
          simp [-wi_stLD, replaceAt]
          rw [wi_stLD]
          simp [replaceAt, hbe, hbl]
        | sl =>
          simp [-wi_stLD, bv, bw, hjl, hjq, hx1, hy1, hcl, hdl, hi2, hj2, hh1]
          rw [wi_stLD]
          simp [-wi_stLD, replaceAt]
          rw [wi_stLD]
          simp [replaceAt, hbe, hbl]
        | hs m hm =>
          simp [-wi_stLD, bv, bw, hjl, hjq, hx1, hy1, hcl, hdl, hi2, hj2, hh1]
          rw [wi_stLD]
          simp [-wi_stLD, replaceAt]
          rw [wi_stLD]
          simp [replaceAt, hbe, hbl]
      have hbl : ((pr.length : Int) != (qr.length : Int)) = false := by rw [hle]; simp
      have h1' : pr = qr → (⟨pl, pr⟩ : Pr) = ⟨pl, qr⟩ := fun h => by rw [h]
      have hx3 := hx2
      cases hx2 with
      | e0 h =>
        subst h
        have hbl : ((0 : Int) != (qr.length : Int)) = false := hbl
        simp [-wi_stLD, bv, bw, hjl, hjq, hx1, hy1, hcl, hdl, hi2, hj2, hh1]
        rw [wi_stLD]
        simp [-wi_stLD, replaceAt]
        rw [wi_stLD]
        simp [replaceAt, hbe, hbl]
        refine r32L1 (b2 := bv) (b3 := bw) (r := []) (s := qr) (j := j) (pl := pl) (ql := pl) hx3 hle hpl (by simp [bv, bw]) (fun h env' hE' => ?_) (fun h => ?_)
        · rw [blk_exit, if_pos rfl, blk_nrm, fol_nrm, wb_regN, hE']
          simp [w1]
          rw [rnd_nrm]
          refine fin _ (h1' h) ?_
          simp [bv, bw]
        · have hno := hno (fun h2 => h (congrArg Pr.r h2))
          simp [hno]
      | sl =>
        simp [-wi_stLD, bv, bw, hjl, hjq, hx1, hy1, hcl, hdl, hi2, hj2, hh1]
        rw [wi_stLD]
        simp [-wi_stLD, replaceAt]
        rw [wi_stLD]
        simp [replaceAt, hbe, hbl]
        refine r32L1 (b2 := bv) (b3 := bw) (r := pr) (s := qr) (j := j) (pl := pl) (ql := pl) hx3 hle hpl (by simp [bv, bw]) (fun h env' hE' => ?_) (fun h => ?_)
        · rw [blk_exit, if_pos rfl, blk_nrm, fol_nrm, wb_regN, hE']
          simp [w1]
          rw [rnd_nrm]
          refine fin _ (h1' h) ?_
          simp [bv, bw]
        · have hno := hno (fun h2 => h (congrArg Pr.r h2))
          simp [hno]
      | hs m hm =>
        simp [-wi_stLD, bv, bw, hjl, hjq, hx1, hy1, hcl, hdl, hi2, hj2, hh1]
        rw [wi_stLD]
        simp [-wi_stLD, replaceAt]
        rw [wi_stLD]
        simp [replaceAt, hbe, hbl]
        refine r32L1 (b2 := bv) (b3 := bw) (r := pr) (s := qr) (j := j) (pl := pl) (ql := pl) hx3 hle hpl (by simp [bv, bw]) (fun h env' hE' => ?_) (fun h => ?_)
        · rw [blk_exit, if_pos rfl, blk_nrm, fol_nrm, wb_regN, hE']
          simp [w1]
          rw [rnd_nrm]
          refine fin _ (h1' h) ?_
          simp [bv, bw]
        · have hno := hno (fun h2 => h (congrArg Pr.r h2))
          simp [hno]
  have hps : (decide (t = t) && (decide (n = n) && (decide (k = k) && decide (ps = qs)))) = decide (ps = qs) := by simp
  rw [hps]
  rcases hv.forms with ⟨rfl, h1⟩ | ⟨cs, rfl, h1⟩ | ⟨b, cs, rfl, hh1, h1⟩
  · subst h1
    have hq : qs = [] := List.length_eq_zero_iff.1 c4.symm
    subst hq
    simp [Gm.cells, b1, b2, b3]
    refine wb_loop0 ?_
    unfold t32L2
    simp
  · simp [Gm.cells, b1, b2, b3, hb]
    exact main _ (by simp)
  · simp [Gm.cells, b1, b2, b3, hb]
    exact main _ (by simp)
end Go.Proofs.Ytikedgpcgacgoaa
