import Derived.Test.YtikedgpcgacgoaaLf
set_option linter.unusedSimpArgs false
set_option linter.unusedVariables false
namespace Go.Proofs.Ytikedgpcgacgoaa
open Go Go.Hm

set_option maxRecDepth 20000 in
/-- The edges of all productions. -/
theorem c26L3 {C : Orc} {Q : Ex → Kt} {env : Env} {lk L : Nat} {H : Heap} {t k' : Int} {ps : List Pr} {null : List Bool} {n : Nat} (t1 : 1 ≤ t) (t2 : t ≤ 8) (hn : n ≤ 16) (hps : ps.length ≤ 64) (hnull : null.length = n) (hok : ∀ p ∈ ps, 0 ≤ p.l ∧ p.l < n ∧ p.r.length ≤ 8 ∧ ∀ x ∈ p.r, 0 ≤ x ∧ x < t + n) (hlk : lk ≤ H.length)
    (hE : restrict [1, 4, 5, 7] env = [(1, .box [I t, I n, I k', .sl ps.length (psC ps)]), (4, .sl n (bools null)), (5, .hs H.length n 0 n 1), (7, I 0)])
    (hQ : ∀ env', restrict [1, 5] env' = [(1, .box [I t, I n, I k', .sl ps.length (psC ps)]), (5, .hs H.length n 0 n 1)] → Q (.exit 2) env' (LQ H n (edM n t null ps))) :
    WB ⟨C, lk, L, [1, 8]⟩ (.loop [1, 4, 5, 7] t26L3) Q env (LQ H n (List.replicate (n * n) false)) := by
  let bx : AV := .box [I t, I n, I k', .sl ps.length (psC ps)]
  refine wb_loop (σ := Nat) (fun j => [(1, bx), (4, .sl n (bools null)), (5, .hs H.length n 0 n 1), (7, I j)]) (fun j => LQ H n ((ps.take j).foldl (edP n t null) (List.replicate (n * n) false)))
    (fun j => j ≤ ps.length) (fun j => ps.length - j) ?_ 0 (by simp) hE rfl
  intro j hj
  unfold t26L3
  have w1 : IntKind.i64.wrap ((j : Int) + 1) = (j : Int) + 1 := wrap64 (by omega) (by omega)
  by_cases hjl : j < ps.length
  case neg =>
    obtain rfl : j = ps.length := by omega
    rw [List.take_of_length_le (Nat.le_refl _)]
    have e : edM n t null ps = ps.foldl (edP n t null) (List.replicate (n * n) false) := rfl
    rw [← e]
    simp [bx]
    refine hQ _ ?_
    simp
  have hnx : (ps.take (j + 1)).foldl (edP n t null) (List.replicate (n * n) false) = edP n t null ((ps.take j).foldl (edP n t null) (List.replicate (n * n) false)) ps[j] := by
    rw [List.take_succ_eq_append_getElem hjl, List.foldl_append]; rfl
  have hql : ((ps.take j).foldl (edP n t null) (List.replicate (n * n) false)).length = n * n := by rw [foldl_len (fun o p => edP_len n t null o p)]; simp
  obtain ⟨p0, p1, p2, p3⟩ := hok ps[j] (List.getElem_mem hjl)
  have hs := psC_sub hjl
  have hll := psC_len ps
  have h2 : j * 2 + 2 ≤ 2 * ps.length := by omega
  have done : ∀ (E : Env) (H' : Heap), E = [(1, bx), (4, .sl n (bools null)), (5, .hs H.length n 0 n 1), (7, I ((j : Int) + 1))] → H' = LQ H n ((ps.take (j + 1)).foldl (edP n t null) (List.replicate (n * n) false)) →
    ∃ j' : Nat, j' ≤ ps.length ∧ ps.length - j' < ps.length - j ∧ E = [(1, bx), (4, .sl n (bools null)), (5, .hs H.length n 0 n 1), (7, I j')] ∧ H' = LQ H n ((ps.take j').foldl (edP n t null) (List.replicate (n * n) false)) := fun E H' h1 h2 => ⟨j + 1, by omega, by omega, by rw [h1]; simp, h2⟩
  rw [hnx] at done
  generalize (ps.take j).foldl (edP n t null) (List.replicate (n * n) false) = q at hql done ⊢
  generalize ps[j] = p at p0 p1 p2 p3 hs done
  obtain ⟨pl, pr⟩ := p
  simp only at p0 p1 p2 p3
  simp only [Pr.cells] at hs
  obtain ⟨pl, rfl⟩ := Int.eq_ofNat_of_zero_le p0
  have hpl : pl < n := by omega
  have he : edP n t null q ⟨pl, pr⟩ = (bgL t null pr).foldl (edS n pl) q := rfl
  rw [he] at done
  simp [-wi_stL, bx, hjl, hs, hll, h2]
  rw [wi_stL]
  simp [replaceAt]
  refine c26L2 (k' := k') (ps := ps) (null := null) (j := j) t1 t2 hn hpl hnull p2 p3 hql hlk (by simp) (fun env' hE' => ?_)
  rw [blk_exit, if_pos rfl, blk_nrm, fol_nrm, wb_regN, hE']
  simp [w1]
  rw [rnd_nrm]
  refine done _ _ ?_ rfl
  simp [bx]

abbrev wE (t k' : Int) (ps : List Pr) (H : Heap) (n : Nat) : Env := [(1, .box [I t, I n, I k', .sl ps.length (psC ps)]), (5, .hs H.length n 0 n 1)]
set_option maxRecDepth 20000 in
theorem c26L4 {C : Orc} {Q : Ex → Kt} {env : Env} {lk L : Nat} {H : Heap} {t k' : Int} {ps : List Pr} {n m i : Nat} {o : List Bool} (hn : n ≤ 16) (hm : m < n) (hi : i < n) (ho : o.length = n * n) (hlk : lk ≤ H.length)
    (hE : restrict [1, 5, 11, 12, 13] env = wE t k' ps H n ++ [(11, I m), (12, I i), (13, I 0)])
    (hQ : ∀ env', restrict [1, 5, 11, 12] env' = wE t k' ps H n ++ [(11, I m), (12, I i)] → Q (.exit 10) env' (LQ H n (waR n m o i))) :
    WB ⟨C, lk, L, [1, 8]⟩ (.loop [1, 5, 11, 12, 13] t26L4) Q env (LQ H n o) := by
  refine wb_loop (σ := Nat × List Bool) (fun s => wE t k' ps H n ++ [(11, I m), (12, I i), (13, I s.1)]) (fun s => LQ H n s.2)
    (fun s => s.1 ≤ n ∧ s.2 = (List.range s.1).foldl (waC n m i) o ∧ s.2.length = n * n) (fun s => n - s.1) ?_ (0, o) ⟨Nat.zero_le _, rfl, ho⟩ hE rfl
  rintro ⟨k, q⟩ ⟨hk, hq, hql⟩
  simp only at hk hq hql
  unfold t26L4
  have w1 : IntKind.i64.wrap ((k : Int) + 1) = (k : Int) + 1 := wrap64 (by omega) (by omega)
  by_cases hkn : k < n
  case neg =>
    obtain rfl : k = n := by omega
    have e : waR k m o i = q := hq.symm
    rw [e] at hQ
    simp
    refine hQ _ ?_
    simp
  have hnx : (List.range (k + 1)).foldl (waC n m i) o = waC n m i q k := by rw [List.range_succ, List.foldl_append, ← hq]; rfl
  have g0 := LQ_0 (H := H) (n := n) (o := q)
  have gi := LQ_row (H := H) (o := q) hi
  have gm := LQ_row (H := H) (o := q) hm
  obtain ⟨R, h1⟩ := cel hql hi hkn
  obtain ⟨R', h2⟩ := cel hql hi hm
  obtain ⟨S, h3⟩ := cel hql hm hkn
  have hRR : R' = R := h2.row.symm.trans h1.row
  subst hRR
  obtain ⟨rw1, len1, k1, v1⟩ := h1
  obtain ⟨rw2, len2, k2, v2⟩ := h2
  obtain ⟨rw3, len3, k3, v3⟩ := h3
  have hset := fun v => LQ_set (H := H) hql hi hkn v
  rw [rw1] at gi hset
  rw [rw3] at gm
  have b1 : (bools R').length = n := by rw [bools_len, len1]
  have b2 : (bools S).length = n := by rw [bools_len, len3]
  have hrp := fun v => replaceAt_one (Bo v) (show k < (bools R').length by rw [bools_len]; exact k1)
  simp only [bools_set] at hrp
  have hrl := rowV_len (H.length + 1) n n
  have hlk1 : lk ≤ H.length + 1 + i := by omega
  have hkn3 : k + 1 ≤ n := hkn
  have hw : waC n m i q k = q.set (i * n + k) (q.getD (i * n + k) false || (q.getD (i * n + m) false && q.getD (m * n + k) false)) := rfl
  have fin : ∀ (E : Env) (H' : Heap), E = wE t k' ps H n ++ [(11, I m), (12, I i), (13, I ((k : Int) + 1))] → H' = LQ H n (waC n m i q k) → ∃ s : Nat × List Bool, (s.1 ≤ n ∧ s.2 = (List.range s.1).foldl (waC n m i) o ∧ s.2.length = n * n) ∧ n - s.1 < n - k ∧ E = wE t k' ps H n ++ [(11, I m), (12, I i), (13, I s.1)] ∧ H' = LQ H n s.2 :=
    fun E H' e1 e2 => ⟨(k + 1, waC n m i q k), ⟨by simp only; omega, hnx.symm, by simp only; rw [waC_len]; exact hql⟩, by simp only; omega, by rw [e1]; simp, e2⟩
  rw [hw] at fin
  generalize q.getD (i * n + k) false = u at v1 fin
  generalize q.getD (i * n + m) false = v at v2 fin
  generalize q.getD (m * n + k) false = w at v3 fin
  have go : ∀ z, (u || (v && w)) = z → WB ⟨C, lk, L, [1, 8]⟩ t26L4 (Rnd [1, 5, 11, 12, 13] (fun s : Nat × List Bool => wE t k' ps H n ++ [(11, I m), (12, I i), (13, I s.1)]) (fun s => LQ H n s.2) (fun s => s.1 ≤ n ∧ s.2 = (List.range s.1).foldl (waC n m i) o ∧ s.2.length = n * n) (fun s => n - s.1) (k, q) Q) (wE t k' ps H n ++ [(11, I m), (12, I i), (13, I k)]) (LQ H n q) := by
    intro z hz
    rw [hz] at fin
    have hset := hset z
    have hrp := hrp z
    unfold t26L4
    cases u with
    | true =>
      have hz : true = z := hz
      subst hz
      simp [hkn, hi, hm, g0, hrl, rowV_ge, gi, gm, b1, b2, bools_get, k1, k2, k3, v1, v2, v3, setH, hlk1, hrp, hset, hkn3, w1]
      rw [rnd_nrm]
      refine fin _ _ ?_ rfl
      simp
    | false =>
      cases v with
      | false =>
        have hz : false = z := hz
        subst hz
        simp [hkn, hi, hm, g0, hrl, rowV_ge, gi, gm, b1, b2, bools_get, k1, k2, k3, v1, v2, v3, setH, hlk1, hrp, hset, hkn3, w1]
        rw [rnd_nrm]
        refine fin _ _ ?_ rfl
        simp
      | true =>
        have hz : w = z := by simpa using hz
        subst hz
        simp [hkn, hi, hm, g0, hrl, rowV_ge, gi, gm, b1, b2, bools_get, k1, k2, k3, v1, v2, v3, setH, hlk1, hrp, hset, hkn3, w1]
        rw [rnd_nrm]
        refine fin _ _ ?_ rfl
        simp
  have := go _ rfl
  unfold t26L4 at this
  exact this
end Go.Proofs.Ytikedgpcgacgoaa
