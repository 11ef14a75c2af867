import Derived.Test.YtikedgpcgacgoaaL
set_option linter.unusedSimpArgs false
set_option linter.unusedVariables false
namespace Go.Proofs.Ytikedgpcgacgoaa
open Go Go.Hm

theorem rchS_keep (g : Gm) (o : List Bool) (s : Int) (i : Nat) (h : o.getD i false = true) : (rchS g o s).getD i false = true := by
  unfold rchS
  split
  · exact h
  · split
    · exact h
    · rw [List.getD_eq_getElem?_getD] at h ⊢
      rw [List.getElem?_set]
      split
      · split
        · rfl
        · rename_i h1 h2
          subst h1
          rw [List.getElem?_eq_none (by omega)] at h
          simp at h
      · exact h
theorem rchF_keep (g : Gm) : ∀ (l : List Int) (o : List Bool) (i : Nat), o.getD i false = true → (l.foldl (rchS g) o).getD i false = true
  | [], _, _, h => h
  | a :: l, o, i, h => rchF_keep g l (rchS g o a) i (rchS_keep g o a i h)
theorem rchF_len (g : Gm) : ∀ (l : List Int) (o : List Bool), (l.foldl (rchS g) o).length = o.length
  | [], _ => rfl
  | a :: l, o => by simp only [List.foldl_cons]; rw [rchF_len g l, rchS_len]
set_option maxRecDepth 20000 in
theorem rrch_code {lk lim : Nat} {H : Heap} (g : Gm) (hl : g.ps.length ≤ 1000000) (hr : ∀ p ∈ g.ps, p.r.length ≤ 1000000) (hlk : lk ≤ H.length) :
    callW X A lk lim 31 [gV g] H = some (rchV g, H) := by
  have kc := fun (L : Nat) => rcheck_code (lk := lk) (lim := L) (H := H) g hl hr
  refine wb_callB [1, 6] rfl A31 rfl rfl ?_
  unfold t31B
  unfold rchV
  by_cases hc : chkE g = 0
  case neg =>
    rw [if_neg hc]
    obtain ⟨t, n, k, ps⟩ := g
    simp only [gV, Gm.cells] at kc
    generalize callW X A = C at kc ⊢
    simp [Gm.cells, kc, hc]
  have ok := gok_of hc
  rw [if_pos hc]
  rw [hc] at kc
  obtain ⟨t, n, k, ps⟩ := g
  have ok2 := ok
  obtain ⟨t1, t2, n1, n2, k1, k2, l1, l2, okp⟩ := ok2
  simp only at t1 t2 n1 n2 k1 k2 l1 l2 okp
  obtain ⟨n, rfl⟩ := Int.eq_ofNat_of_zero_le (by omega : 0 ≤ n)
  simp only [gV, Gm.cells] at kc
  have hro : (n : Int) ≤ (room : Int) := by unfold room; omega
  have z1 : 0 < n := by omega
  have z2 : 1 ≤ n := by omega
  have z3 : (bools (List.replicate n false)).length = n := by rw [bools_len]; simp
  have z4 : replaceAt (bools (List.replicate n false)) 0 [Bo true] = bools ((List.replicate n false).set 0 true) := by
    rw [replaceAt_one _ (by rw [z3]; omega), bools_set]
  simp [Gm.cells, kc, hro, bools_rep, setH, hlk, z1, z2, z3, z4]
  let bx : AV := .box [I t, I n, I k, .sl ps.length (psC ps)]
  let hsV : AV := .hs H.length n 0 n 1
  let f := rnd (rchP ⟨t, n, k, ps⟩) ps
  have hf : Grows f := rnd_grows (fun p => rchP_grows _ p) ps
  refine wb_loop (σ := List Bool × Bool) (fun s => [(1, bx), (3, hsV), (4, Bo s.2)]) (fun s => H ++ [.cells (bools s.1)])
    (fun s => s.1.length = n ∧ fin f s.1 = rchM ⟨t, n, k, ps⟩ ∧ (s.2 = false → f s.1 = s.1)) (fun s => cntF s.1 + if s.2 = true then 1 else 0) ?_ ((List.replicate n false).set 0 true, true) ⟨by simp, rfl, by simp⟩ (by simp [bx, hsV]) (by simp)
  rintro ⟨o, more⟩ ⟨ho, hfin, hmore⟩
  simp only at ho hfin hmore
  unfold t31L3
  cases more with
  | false =>
    have h1 : fin f o = o := by rw [fin_step hf, if_pos (hmore rfl)]
    rw [h1] at hfin
    rw [← hfin]
    have hb := frz_bools H.length (H ++ [.cells (bools o)]) 7 o
    have hb2 := bel_bools 0 o
    have htk : (bools o).take n = bools o := List.take_of_length_le (by rw [bools_len]; omega)
    simp [bx, hsV, bools_len, ho, htk, hb, hb2]
  | true =>
    simp
    let st := rchP ⟨t, n, k, ps⟩
    refine wb_loop (σ := Nat × List Bool × Bool) (fun s => [(1, bx), (3, hsV), (4, Bo s.2.2), (5, I s.1)]) (fun s => H ++ [.cells (bools s.2.1)])
      (fun s => s.1 ≤ ps.length ∧ s.2.1 = rnd st (ps.take s.1) o ∧ s.2.2 = decide (s.2.1 ≠ o)) (fun s => ps.length - s.1) ?_ (0, o, false) ⟨Nat.zero_le _, rfl, by simp⟩ (by simp [bx, hsV]) rfl
    rintro ⟨i, o2, more⟩ ⟨hi, ho2, hm⟩
    simp only at hi ho2 hm
    unfold t31L2
    have w1 : IntKind.i64.wrap ((i : Int) + 1) = (i : Int) + 1 := wrap64 (by omega) (by omega)
    have hlen2 : o2.length = n := by
      rw [ho2, ← ho]
      have : ∀ (l : List Pr) (q : List Bool), (rnd st l q).length = q.length := by
        intro l
        induction l with
        | nil => intro q; rfl
        | cons p l ih => intro q; simp only [rnd, List.foldl_cons] at ih ⊢; rw [ih]; exact rchP_len _ _ _
      exact this _ _
    by_cases hil : i < ps.length
    case neg =>
      obtain rfl : i = ps.length := by omega
      rw [List.take_of_length_le (Nat.le_refl _)] at ho2
      have hfo : f o = o2 := ho2.symm
      have hstep := fin_step hf o
      rw [hfo] at hstep
      simp [bx, hsV, rnd_nrm]
      by_cases he : o2 = o
      · subst he
        refine ⟨o2, .inl ⟨⟨hlen2, by rw [← hfin], hfo⟩, by omega, by simpa using hm, rfl⟩⟩
      · rw [if_neg he] at hstep
        refine ⟨o2, .inr ⟨⟨hlen2, by rw [← hfin, hstep]⟩, ?_, by simpa [he] using hm, rfl⟩⟩
        have := hf o
        rw [hfo] at this
        rcases this with h | h
        · exact absurd h he
        · exact h
    obtain ⟨p, hp⟩ : ∃ p, ps[i] = p := ⟨_, rfl⟩
    have pok := okp p (hp ▸ List.getElem_mem hil)
    have hs := psC_sub hil
    have hll := psC_len ps
    have h2 : i * 2 + 2 ≤ 2 * ps.length := by omega
    rw [hp] at hs
    simp only [Pr.cells] at hs
    have hnext : rnd st (ps.take (i + 1)) o = rchP ⟨t, n, k, ps⟩ o2 p := by rw [rnd_take _ _ _ _ hil, ← ho2, hp]
    obtain ⟨pl, pr⟩ := p
    obtain ⟨q1, q2, q3, q4⟩ := pok
    simp only at q1 q2 q3 q4 hs
    obtain ⟨pl, rfl⟩ := Int.eq_ofNat_of_zero_le q2
    have hpl : pl < n := by omega
    have hpl2 : pl < o2.length := by omega
    have hbl : (bools o2).length = n := by rw [bools_len]; exact hlen2
    simp [-wi_stL, bx, hil, hll, hs, h2]
    rw [wi_stL]
    simp [replaceAt, hsV]
    have hle2 := rnd_le (fun p => rchP_grows ⟨t, n, k, ps⟩ p) (ps.take i) o
    have hle2 : cntF o2 ≤ cntF o := by rw [ho2]; exact hle2
    refine wb_loop (σ := Nat × List Bool × Bool) (fun s => [(1, bx), (3, hsV), (4, Bo s.2.2), (5, I i), (6, .box [I pl, .sl pr.length (ints pr)]), (7, I s.1)]) (fun s => H ++ [.cells (bools s.2.1)])
      (fun s => s.1 ≤ pr.length ∧ (s.1 = 0 ∨ o2.getD pl false = true) ∧ s.2.1 = (pr.take s.1).foldl (rchS ⟨t, n, k, ps⟩) o2 ∧ s.2.2 = decide (s.2.1 ≠ o)) (fun s => pr.length - s.1) ?_ (0, o2, more) ⟨Nat.zero_le _, .inl rfl, rfl, hm⟩ (by simp [bx, hsV]) rfl
    rintro ⟨m, o3, mo⟩ ⟨hmm, hgo, ho3, hmo⟩
    simp only at hmm hgo ho3 hmo
    unfold t31L1
    have w2 : IntKind.i64.wrap ((m : Int) + 1) = (m : Int) + 1 := wrap64 (by omega) (by omega)
    have hlen3 : o3.length = n := by rw [ho3, rchF_len]; exact hlen2
    have hbl3 : (bools o3).length = n := by rw [bools_len]; exact hlen3
    have hpl3 : pl < o3.length := by omega
    obtain ⟨v, hv⟩ : ∃ v, o3[pl] = v := ⟨_, rfl⟩
    have hgD : o3.getD pl false = v := by rw [getD_of hpl3, hv]
    by_cases hml : m < pr.length
    case neg =>
      obtain rfl : m = pr.length := by omega
      rw [List.take_of_length_le (Nat.le_refl _)] at ho3
      simp [bx, hsV, w1]
      rw [rnd_nrm]
      refine ⟨(i + 1, o3, mo), ⟨by simp only; omega, ?_, by simpa using hmo⟩, by simp only; omega, by simp, rfl⟩
      rw [hnext]
      unfold rchP
      simp only [Int.toNat_natCast]
      rcases hgo with h | h
      · have hpr : pr = [] := List.length_eq_zero_iff.1 h
        subst hpr
        rw [ho3]
        split <;> rfl
      · rw [if_pos h]; exact ho3
    cases v with
    | false =>
      have hm0 : m = 0 := by
        rcases hgo with h | h
        · exact h
        · have := rchF_keep ⟨t, n, k, ps⟩ (pr.take m) o2 pl h
          rw [← ho3, hgD] at this
          cases this
      subst hm0
      have ho3 : o3 = o2 := ho3
      subst ho3
      simp [bx, hsV, hml, w1, hpl, hbl3, bools_get, hpl3, hv]
      rw [rnd_nrm]
      refine ⟨(i + 1, o3, mo), ⟨by simp only; omega, ?_, by simpa using hmo⟩, by simp only; omega, by simp, rfl⟩
      rw [hnext]
      unfold rchP
      simp only [Int.toNat_natCast, hgD]
      rfl
    | true =>
      have hg2 : o2.getD pl false = true := by
        rcases hgo with h | h
        · subst h
          have ho3 : o3 = o2 := ho3
          rw [← ho3, hgD]
        · exact h
      obtain ⟨x, hx⟩ : ∃ x, pr[m] = x := ⟨_, rfl⟩
      obtain ⟨x1, x2⟩ := q4 x (hx ▸ List.getElem_mem hml)
      have hnx := fold_take (rchS ⟨t, n, k, ps⟩) pr o2 m hml
      rw [← ho3, hx] at hnx
      have w3 : IntKind.i64.wrap (x - t) = x - t := wrap64 (by omega) (by omega)
      have hle3 := rnd_le (fun s => rchS_grows ⟨t, n, k, ps⟩ s) (pr.take m) o2
      have hle3 : cntF o3 ≤ cntF o2 := by rw [ho3]; exact hle3
      by_cases hxt : x < t
      · have hr : rchS ⟨t, n, k, ps⟩ o3 x = o3 := by unfold rchS; rw [if_pos hxt]
        rw [hr] at hnx
        have y0 : ¬ t ≤ x := by omega
        have y1 : ¬ 0 ≤ x - t := by omega
        simp [bx, hsV, hml, hpl, hbl3, bools_get, hpl3, hv, hx, w2, w3, y0, y1]
        rw [rnd_nrm]
        exact ⟨(m + 1, o3, mo), ⟨by simp only; omega, .inr hg2, hnx.symm, by simpa using hmo⟩, by simp only; omega, by simp, rfl⟩
      · have y0 : t ≤ x := by omega
        have y1 : 0 ≤ x - t := by omega
        have y2 : x - t < n := by omega
        have y3 : (x - t).toNat + 1 ≤ n := by omega
        have hxn : (x - t).toNat < o3.length := by omega
        obtain ⟨u, hu⟩ : ∃ u, o3[(x - t).toNat] = u := ⟨_, rfl⟩
        have hgD2 : o3.getD (x - t).toNat false = u := by rw [getD_of hxn, hu]
        have hpl4 : (x - t).toNat < (bools o3).length := by rw [hbl3]; omega
        cases u with
        | true =>
          have hr : rchS ⟨t, n, k, ps⟩ o3 x = o3 := by unfold rchS; rw [if_neg hxt]; simp only [hgD2, if_true]
          rw [hr] at hnx
          simp [bx, hsV, hml, hpl, hbl3, bools_get, hpl3, hv, hx, w2, w3, y0, y1, y2, hxn, hu]
          rw [rnd_nrm]
          exact ⟨(m + 1, o3, mo), ⟨by simp only; omega, .inr hg2, hnx.symm, by simpa using hmo⟩, by simp only; omega, by simp, rfl⟩
        | false =>
          have hr : rchS ⟨t, n, k, ps⟩ o3 x = o3.set (x - t).toNat true := by unfold rchS; rw [if_neg hxt]; simp only [hgD2]; rfl
          rw [hr] at hnx
          have hcn := cntF_set o3 _ hxn hu
          have hne : o3.set (x - t).toNat true ≠ o := fun h => by rw [h] at hcn; omega
          simp [bx, hsV, hml, hpl, hbl3, bools_get, hpl3, hv, hx, w2, w3, y0, y1, y2, y3, hxn, hu, setH, hlk, replaceAt_one _ hpl4, bools_set]
          rw [rnd_nrm]
          exact ⟨(m + 1, o3.set (x - t).toNat true, true), ⟨by simp only; omega, .inr hg2, hnx.symm, by simp [hne]⟩, by simp only; omega, by simp, by simp⟩
end Go.Proofs.Ytikedgpcgacgoaa
