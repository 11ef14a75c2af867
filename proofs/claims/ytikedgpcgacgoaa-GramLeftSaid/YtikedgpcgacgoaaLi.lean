import Derived.Test.YtikedgpcgacgoaaLh
set_option linter.unusedSimpArgs false
set_option linter.unusedVariables false
namespace Go.Proofs.Ytikedgpcgacgoaa
open Go Go.Hm

abbrev lE (t k' : Int) (ps : List Pr) (H : Heap) (null : List Bool) (n : Nat) : Env := [(1, .box [I t, I n, I k', .sl ps.length (psC ps)]), (3, .sl n (bools null)), (4, .hs H.length n 0 n 1)]
abbrev wE4 (t k' : Int) (ps : List Pr) (H : Heap) (n : Nat) : Env := [(1, .box [I t, I n, I k', .sl ps.length (psC ps)]), (4, .hs H.length n 0 n 1)]
abbrev pbx (l : Nat) (pr : List Int) : AV := .box [I l, .sl pr.length (ints pr)]
set_option maxRecDepth 20000 in
theorem l3L1 {C : Orc} {Q : Ex → Kt} {env : Env} {lk L : Nat} {H : Heap} {t k' : Int} {ps : List Pr} {null : List Bool} {n : Nat} (hn : n ≤ 16) (hlk : lk ≤ H.length) (hL : L ≤ H.length)
    (hE : restrict [1, 3, 4, 5] env = lE t k' ps H null n ++ [(5, I 0)])
    (hQ : ∀ env', restrict [1, 3, 4] env' = lE t k' ps H null n → Q (.exit 0) env' (LQ H n (List.replicate (n * n) false))) :
    WB ⟨C, lk, L, [1, 8]⟩ (.loop [1, 3, 4, 5] t3L1) Q env (LP H n 0) := by
  refine wb_loop (σ := Nat) (fun i => lE t k' ps H null n ++ [(5, I i)]) (fun i => LP H n i)
    (fun i => i ≤ n) (fun i => n - i) ?_ 0 (by simp) hE rfl
  intro i hi
  unfold t3L1
  have w1 : IntKind.i64.wrap ((i : Int) + 1) = (i : Int) + 1 := wrap64 (by omega) (by omega)
  by_cases hin : i < n
  case neg =>
    obtain rfl : i = n := by omega
    rw [LP_LQ]
    simp
    refine hQ _ ?_
    simp
  have hro : (n : Int) ≤ (room : Int) := by unfold room; omega
  have hcl := outC_len (b := H.length + 1) hi
  have hli : i < (outC (H.length + 1) n i).length := by omega
  have hrp := fun v => replaceAt_one (cs := outC (H.length + 1) n i) (k := i) v hli
  have hLl := LP_len (H := H) (n := n) (i := i)
  have a3 : (LP H n i ++ [HB.cells (bools (List.replicate n false))])[H.length]? = some (.cells (outC (H.length + 1) n i)) := by rw [List.getElem?_append_left (by omega)]; exact LP_0
  have hnx := LP_next (H := H) hin
  have hi1 : i + 1 ≤ n := hin
  simp [hin, hro, bools_rep, hLl, a3, hcl, setH, hlk, hL, hrp, hnx, hi1, w1]
  rw [rnd_nrm]
  refine ⟨i + 1, by omega, by omega, ?_, rfl⟩
  simp
set_option maxRecDepth 20000 in
theorem l3L2 {C : Orc} {Q : Ex → Kt} {env : Env} {lk L : Nat} {H : Heap} {t k' : Int} {ps : List Pr} {null : List Bool} {n l s r j i : Nat} {pr : List Int} {o : List Bool} (hn : n ≤ 16) (hl : l < n) (hs : s < n) (ho : o.length = n * n) (hlk : lk ≤ H.length)
    (hE : restrict [1, 3, 4, 6, 7, 8, 9, 10, 11] env = lE t k' ps H null n ++ [(6, I r), (7, I j), (8, pbx l pr), (9, I i), (10, I s), (11, I 0)])
    (hQ : ∀ env', restrict [1, 3, 4, 6, 7, 8, 9] env' = lE t k' ps H null n ++ [(6, I r), (7, I j), (8, pbx l pr), (9, I i)] → Q (.exit 8) env' (LQ H n ((List.range n).foldl (rdK n l s) o))) :
    WB ⟨C, lk, L, [1, 8]⟩ (.loop [1, 3, 4, 6, 7, 8, 9, 10, 11] t3L2) Q env (LQ H n o) := by
  refine wb_loop (σ := Nat × List Bool) (fun s' => lE t k' ps H null n ++ [(6, I r), (7, I j), (8, pbx l pr), (9, I i), (10, I s), (11, I s'.1)]) (fun s' => LQ H n s'.2)
    (fun s' => s'.1 ≤ n ∧ s'.2 = (List.range s'.1).foldl (rdK n l s) o ∧ s'.2.length = n * n) (fun s' => n - s'.1) ?_ (0, o) ⟨Nat.zero_le _, rfl, ho⟩ hE rfl
  rintro ⟨m, q⟩ ⟨hm, hq, hql⟩
  simp only at hm hq hql
  have w1 : IntKind.i64.wrap ((m : Int) + 1) = (m : Int) + 1 := wrap64 (by omega) (by omega)
  by_cases hmn : m < n
  case neg =>
    obtain rfl : m = n := by omega
    rw [← hq] at hQ
    unfold t3L2
    simp
    refine hQ _ ?_
    simp
  have hnx : (List.range (m + 1)).foldl (rdK n l s) o = rdK n l s q m := by rw [List.range_succ, List.foldl_append, ← hq]; rfl
  have g0 := LQ_0 (H := H) (n := n) (o := q)
  have gl := LQ_row (H := H) (o := q) hl
  have gs := LQ_row (H := H) (o := q) hs
  obtain ⟨R, rw1, len1, k1, v1⟩ := cel hql hl hmn
  obtain ⟨S, rw3, len3, k3, v3⟩ := cel hql hs hmn
  have hset := fun v => LQ_set (H := H) hql hl hmn v
  rw [rw1] at gl hset
  rw [rw3] at gs
  have b1 : (bools R).length = n := by rw [bools_len, len1]
  have b2 : (bools S).length = n := by rw [bools_len, len3]
  have hrp := fun v => replaceAt_one (Bo v) (show m < (bools R).length by rw [bools_len]; exact k1)
  simp only [bools_set] at hrp
  have hrl := rowV_len (H.length + 1) n n
  have hlk1 : lk ≤ H.length + 1 + l := by omega
  have hmn3 : m + 1 ≤ n := hmn
  have hw : rdK n l s q m = q.set (l * n + m) (q.getD (l * n + m) false || q.getD (s * n + m) false) := rfl
  have fin : ∀ (E : Env) (H' : Heap), E = lE t k' ps H null n ++ [(6, I r), (7, I j), (8, pbx l pr), (9, I i), (10, I s), (11, I ((m : Int) + 1))] → H' = LQ H n (rdK n l s q m) → ∃ s' : Nat × List Bool, (s'.1 ≤ n ∧ s'.2 = (List.range s'.1).foldl (rdK n l s) o ∧ s'.2.length = n * n) ∧ n - s'.1 < n - m ∧ E = lE t k' ps H null n ++ [(6, I r), (7, I j), (8, pbx l pr), (9, I i), (10, I s), (11, I s'.1)] ∧ H' = LQ H n s'.2 :=
    fun E H' e1 e2 => ⟨(m + 1, rdK n l s q m), ⟨by simp only; omega, hnx.symm, by simp only; rw [rdK_len]; exact hql⟩, by simp only; omega, by rw [e1]; simp, e2⟩
  rw [hw] at fin
  generalize q.getD (l * n + m) false = u at v1 fin
  generalize q.getD (s * n + m) false = v at v3 fin
  cases u with
  | true =>
    simp only [Bool.true_or] at fin
    have hset := hset true
    have hrp := hrp true
    unfold t3L2
    simp [hmn, hl, hs, g0, hrl, rowV_ge, gl, gs, b1, b2, bools_get, k1, k3, v1, v3, setH, hlk1, hrp, hset, hmn3, w1]
    rw [rnd_nrm]
    refine fin _ _ ?_ rfl
    simp
  | false =>
    simp only [Bool.false_or] at fin
    have hset := hset v
    have hrp := hrp v
    unfold t3L2
    simp [hmn, hl, hs, g0, hrl, rowV_ge, gl, gs, b1, b2, bools_get, k1, k3, v1, v3, setH, hlk1, hrp, hset, hmn3, w1]
    rw [rnd_nrm]
    refine fin _ _ ?_ rfl
    simp
def l3I (t : Int) (null : List Bool) (n l : Nat) (pr : List Int) (res : List Bool) (s' : Nat × List Bool) : Prop :=
  s'.1 ≤ pr.length ∧ s'.2.length = n * n ∧ ((s'.1 = 0 ∧ (bgL t null pr).foldl (rdS n l) s'.2 = res) ∨ ∃ y : Nat, 0 < s'.1 ∧ pr[s'.1 - 1]? = some (t + (y : Int)) ∧ (if null.getD y false = true then (bgL t null (pr.drop s'.1)).foldl (rdS n l) s'.2 else s'.2) = res)
set_option maxRecDepth 20000 in
theorem l3L3 {C : Orc} {Q : Ex → Kt} {env : Env} {lk L : Nat} {H : Heap} {t k' : Int} {ps : List Pr} {null : List Bool} {n l r j : Nat} {pr : List Int} {o : List Bool} (t1 : 1 ≤ t) (t2 : t ≤ 8) (hn : n ≤ 16) (hl : l < n) (hnull : null.length = n) (hpr : pr.length ≤ 8) (hs : ∀ x ∈ pr, 0 ≤ x ∧ x < t + n) (ho : o.length = n * n) (hlk : lk ≤ H.length)
    (hE : restrict [1, 3, 4, 6, 7, 8, 9] env = lE t k' ps H null n ++ [(6, I r), (7, I j), (8, pbx l pr), (9, I 0)])
    (hQ : ∀ env', restrict [1, 3, 4, 6, 7] env' = lE t k' ps H null n ++ [(6, I r), (7, I j)] → Q (.exit 6) env' (LQ H n ((bgL t null pr).foldl (rdS n l) o))) :
    WB ⟨C, lk, L, [1, 8]⟩ (.loop [1, 3, 4, 6, 7, 8, 9] t3L3) Q env (LQ H n o) := by
  obtain ⟨res, hres⟩ : ∃ res, (bgL t null pr).foldl (rdS n l) o = res := ⟨_, rfl⟩
  rw [hres] at hQ
  refine wb_loop (σ := Nat × List Bool) (fun s' => lE t k' ps H null n ++ [(6, I r), (7, I j), (8, pbx l pr), (9, I s'.1)]) (fun s' => LQ H n s'.2)
    (l3I t null n l pr res) (fun s' => pr.length - s'.1) ?_ (0, o) ⟨Nat.zero_le _, ho, .inl ⟨rfl, hres⟩⟩ hE rfl
  rintro ⟨k, q⟩ hI
  obtain ⟨hk, hql, hinv⟩ := hI
  simp only at hk hql hinv
  have w1 : IntKind.i64.wrap ((k : Int) + 1) = (k : Int) + 1 := wrap64 (by omega) (by omega)
  by_cases hkl : k < pr.length
  case neg =>
    obtain rfl : k = pr.length := by omega
    have hq : q = res := by
      rcases hinv with ⟨h0, h⟩ | ⟨y, h0, h1, h⟩
      · have : pr = [] := List.length_eq_zero_iff.1 h0
        subst this
        exact h
      · rw [List.drop_length] at h
        split at h <;> exact h
    subst hq
    unfold t3L3
    simp
    refine hQ _ ?_
    simp
  obtain ⟨x1, x2⟩ := hs pr[k] (List.getElem_mem hkl)
  have hdr := List.drop_eq_getElem_cons hkl
  generalize hx : pr[k] = x at x1 x2 hdr
  -- what is left, if one goes on
  have hbg : bgL t null (pr.drop k) = if x < t then [] else (x - t).toNat :: (if null.getD (x - t).toNat false = true then bgL t null (pr.drop (k + 1)) else []) := by rw [hdr]; rfl
  have w3 : IntKind.i64.wrap (x - t) = x - t := wrap64 (by omega) (by omega)
  by_cases hxt : x < t
  · rw [if_pos hxt] at hbg
    have hq : q = res := by
      rcases hinv with ⟨h0, h⟩ | ⟨y, h0, h1, h⟩
      · subst h0
        rw [List.drop_zero] at hbg
        rw [hbg] at h; exact h
      · rw [hbg] at h
        split at h <;> exact h
    subst hq
    have hlt : x - t < 0 := by omega
    unfold t3L3
    simp [hkl, hx, w3, hlt]
    refine hQ _ ?_
    simp
  rw [if_neg hxt] at hbg
  obtain ⟨y, rfl⟩ : ∃ y : Nat, x = t + (y : Int) := ⟨(x - t).toNat, by omega⟩
  have hy2 : (t + (y : Int) - t).toNat = y := by omega
  have hsub : t + (y : Int) - t = y := by omega
  rw [hy2] at hbg
  rw [hsub] at w3
  have hyn : y < null.length := by omega
  have hyn2 : y < n := by omega
  have hny : ¬ ((y : Int) < 0) := by omega
  have hbn : (bools null).length = n := by rw [bools_len, hnull]
  -- going on
  have g0 := LQ_0 (H := H) (n := n) (o := q)
  have gl := LQ_row (H := H) (o := q) hl
  obtain ⟨R, rw1, len1, k1, v1⟩ := cel hql hl hyn2
  have hset := LQ_set (H := H) hql hl hyn2 true
  rw [rw1] at gl hset
  have b1 : (bools R).length = n := by rw [bools_len, len1]
  have hrp := replaceAt_one (Bo true) (show y < (bools R).length by rw [bools_len]; exact k1)
  rw [bools_set] at hrp
  have hrl := rowV_len (H.length + 1) n n
  have hlk1 : lk ≤ H.length + 1 + l := by omega
  have hyn3 : y + 1 ≤ n := hyn2
  have hq2 : (q.set (l * n + y) true).length = n * n := by rw [List.length_set]; exact hql
  have hgo : (bgL t null (pr.drop k)).foldl (rdS n l) q = res → (if null.getD y false = true then (bgL t null (pr.drop (k + 1))).foldl (rdS n l) (rdS n l q y) else rdS n l q y) = res := fun h => by
    rw [hbg, List.foldl_cons] at h
    split
    · rename_i h2
      rw [if_pos h2] at h; exact h
    · rename_i h2
      rw [if_neg h2] at h; exact h
  have fin : (bgL t null (pr.drop k)).foldl (rdS n l) q = res → ∀ (E : Env) (H' : Heap), E = lE t k' ps H null n ++ [(6, I r), (7, I j), (8, pbx l pr), (9, I ((k : Int) + 1))] → H' = LQ H n (rdS n l q y) →
    ∃ s' : Nat × List Bool, l3I t null n l pr res s' ∧ pr.length - s'.1 < pr.length - k ∧ E = lE t k' ps H null n ++ [(6, I r), (7, I j), (8, pbx l pr), (9, I s'.1)] ∧ H' = LQ H n s'.2 :=
    fun hr E H' e1 e2 => ⟨(k + 1, rdS n l q y), ⟨by simp only; omega, by simp only; rw [rdS_len]; exact hql, .inr ⟨y, by simp only; omega, by simp only; rw [Nat.add_sub_cancel, List.getElem?_eq_getElem hkl, hx], hgo hr⟩⟩, by simp only; omega, by rw [e1]; simp, e2⟩
  have hrd : rdS n l q y = (List.range n).foldl (rdK n l y) (q.set (l * n + y) true) := rfl
  rw [hrd] at fin
  rcases hinv with ⟨h0, h⟩ | ⟨z, h0, h1, h⟩
  · subst h0
    rw [List.drop_zero] at fin
    have fin := fin h
    unfold t3L3
    simp [hkl, hx, hsub, w3, hny, g0, hl, hrl, rowV_ge, gl, b1, hyn2, hyn3, setH, hlk1, hrp, hset]
    refine l3L2 (t := t) (k' := k') (ps := ps) (null := null) (r := r) (j := j) (i := 0) (pr := pr) hn hl hyn2 hq2 hlk (by simp) (fun env' hE' => ?_)
    rw [blk_exit, if_pos rfl, blk_nrm, fol_nrm, wb_regN, hE']
    simp
    rw [rnd_nrm]
    refine fin _ _ ?_ rfl
    have w0 : IntKind.i64.wrap 1 = 1 := rfl
    simp [w0]
  · have hk1 : k - 1 < pr.length := by omega
    rw [List.getElem?_eq_getElem hk1, Option.some.injEq] at h1
    have hz := hs pr[k - 1] (List.getElem_mem hk1)
    rw [h1] at hz
    have hzn : z < null.length := by omega
    have hzn2 : z < n := by omega
    have hsubz : t + (z : Int) - t = z := by omega
    have w5 : IntKind.i64.wrap (z : Int) = z := wrap64 (by omega) (by omega)
    have w6 : IntKind.i64.wrap ((k : Int) - 1) = (k : Int) - 1 := wrap64 (by omega) (by omega)
    have h6 : (0 : Int) < k := by omega
    have h8 : (1 : Int) ≤ k := by omega
    have h9 : (k : Int) - 1 < pr.length := by omega
    have h10 : ((k : Int) - 1).toNat = k - 1 := by omega
    rw [getD_of hzn] at h
    obtain ⟨b, hb⟩ : ∃ b, null[z] = b := ⟨_, rfl⟩
    rw [hb] at h
    cases b with
    | false =>
      rw [if_neg (by simp)] at h
      subst h
      unfold t3L3
      simp [hkl, hx, hsub, w3, hny, h6, h0, w6, h8, h9, h10, hk1, h1, hsubz, w5, hzn2, hbn, bools_get, hzn, hb]
      refine hQ _ ?_
      simp
    | true =>
      rw [if_pos rfl] at h
      have fin := fin h
      unfold t3L3
      simp [hkl, hx, hsub, w3, hny, h6, h0, w6, h8, h9, h10, hk1, h1, hsubz, w5, hzn2, hbn, bools_get, hzn, hb, g0, hl, hrl, rowV_ge, gl, b1, hyn2, hyn3, setH, hlk1, hrp, hset]
      refine l3L2 (t := t) (k' := k') (ps := ps) (null := null) (r := r) (j := j) (i := k) (pr := pr) hn hl hyn2 hq2 hlk (by simp) (fun env' hE' => ?_)
      rw [blk_exit, if_pos rfl, blk_nrm, fol_nrm, wb_regN, hE']
      simp [w1]
      rw [rnd_nrm]
      refine fin _ _ ?_ rfl
      simp
end Go.Proofs.Ytikedgpcgacgoaa
