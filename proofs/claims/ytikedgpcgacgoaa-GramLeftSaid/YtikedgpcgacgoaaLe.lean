import Derived.Test.YtikedgpcgacgoaaLi
set_option linter.unusedSimpArgs false
set_option linter.unusedVariables false
namespace Go.Proofs.Ytikedgpcgacgoaa
open Go Go.Hm

set_option maxRecDepth 20000 in
theorem l3L4 {C : Orc} {Q : Ex → Kt} {env : Env} {lk L : Nat} {H : Heap} {t k' : Int} {ps : List Pr} {null : List Bool} {n r : Nat} {o : List Bool} (t1 : 1 ≤ t) (t2 : t ≤ 8) (hn : n ≤ 16) (hps : ps.length ≤ 64) (hnull : null.length = n) (hok : ∀ p ∈ ps, 0 ≤ p.l ∧ p.l < n ∧ p.r.length ≤ 8 ∧ ∀ x ∈ p.r, 0 ≤ x ∧ x < t + n) (ho : o.length = n * n) (hlk : lk ≤ H.length)
    (hE : restrict [1, 3, 4, 6, 7] env = lE t k' ps H null n ++ [(6, I r), (7, I 0)])
    (hQ : ∀ env', restrict [1, 3, 4, 6] env' = lE t k' ps H null n ++ [(6, I r)] → Q (.exit 4) env' (LQ H n (ps.foldl (rdP n t null) o))) :
    WB ⟨C, lk, L, [1, 8]⟩ (.loop [1, 3, 4, 6, 7] t3L4) Q env (LQ H n o) := by
  refine wb_loop (σ := Nat) (fun j => lE t k' ps H null n ++ [(6, I r), (7, I j)]) (fun j => LQ H n ((ps.take j).foldl (rdP n t null) o))
    (fun j => j ≤ ps.length) (fun j => ps.length - j) ?_ 0 (by simp) hE rfl
  intro j hj
  unfold t3L4
  have w1 : IntKind.i64.wrap ((j : Int) + 1) = (j : Int) + 1 := wrap64 (by omega) (by omega)
  by_cases hjl : j < ps.length
  case neg =>
    obtain rfl : j = ps.length := by omega
    rw [List.take_of_length_le (Nat.le_refl _)]
    simp
    refine hQ _ ?_
    simp
  have hnx : (ps.take (j + 1)).foldl (rdP n t null) o = rdP n t null ((ps.take j).foldl (rdP n t null) o) ps[j] := by
    rw [List.take_succ_eq_append_getElem hjl, List.foldl_append]; rfl
  have hql : ((ps.take j).foldl (rdP n t null) o).length = n * n := by rw [foldl_len (fun o p => rdP_len n t null o p)]; exact ho
  obtain ⟨p0, p1, p2, p3⟩ := hok ps[j] (List.getElem_mem hjl)
  have hs := psC_sub hjl
  have hll := psC_len ps
  have h2 : j * 2 + 2 ≤ 2 * ps.length := by omega
  have done : ∀ (E : Env) (H' : Heap), E = lE t k' ps H null n ++ [(6, I r), (7, I ((j : Int) + 1))] → H' = LQ H n ((ps.take (j + 1)).foldl (rdP n t null) o) →
    ∃ j' : Nat, j' ≤ ps.length ∧ ps.length - j' < ps.length - j ∧ E = lE t k' ps H null n ++ [(6, I r), (7, I j')] ∧ H' = LQ H n ((ps.take j').foldl (rdP n t null) o) := fun E H' h1 h2 => ⟨j + 1, by omega, by omega, by rw [h1]; simp, h2⟩
  rw [hnx] at done
  generalize (ps.take j).foldl (rdP n t null) o = q at hql done ⊢
  generalize ps[j] = p at p0 p1 p2 p3 hs done
  obtain ⟨pl, pr⟩ := p
  simp only at p0 p1 p2 p3
  simp only [Pr.cells] at hs
  obtain ⟨pl, rfl⟩ := Int.eq_ofNat_of_zero_le p0
  have hpl : pl < n := by omega
  have he : rdP n t null q ⟨pl, pr⟩ = (bgL t null pr).foldl (rdS n pl) q := rfl
  rw [he] at done
  simp [-wi_stL, hjl, hs, hll, h2]
  rw [wi_stL]
  simp [replaceAt]
  refine l3L3 (k' := k') (ps := ps) (null := null) (r := r) (j := j) t1 t2 hn hpl hnull p2 p3 hql hlk (by simp) (fun env' hE' => ?_)
  rw [blk_exit, if_pos rfl, blk_nrm, fol_nrm, wb_regN, hE']
  simp [w1]
  rw [rnd_nrm]
  refine done _ _ ?_ rfl
  simp
set_option maxRecDepth 20000 in
theorem l3L5 {C : Orc} {Q : Ex → Kt} {env : Env} {lk L : Nat} {H : Heap} {t k' : Int} {ps : List Pr} {null : List Bool} {n : Nat} (t1 : 1 ≤ t) (t2 : t ≤ 8) (hn : n ≤ 16) (hps : ps.length ≤ 64) (hnull : null.length = n) (hok : ∀ p ∈ ps, 0 ≤ p.l ∧ p.l < n ∧ p.r.length ≤ 8 ∧ ∀ x ∈ p.r, 0 ≤ x ∧ x < t + n) (hlk : lk ≤ H.length)
    (hE : restrict [1, 3, 4, 6] env = lE t k' ps H null n ++ [(6, I 0)])
    (hQ : ∀ env', restrict [1, 4] env' = wE4 t k' ps H n → Q (.exit 2) env' (LQ H n (rdM n t null ps))) :
    WB ⟨C, lk, L, [1, 8]⟩ (.loop [1, 3, 4, 6] t3L5) Q env (LQ H n (List.replicate (n * n) false)) := by
  let f := fun o => ps.foldl (rdP n t null) o
  refine wb_loop (σ := Nat) (fun r => lE t k' ps H null n ++ [(6, I r)]) (fun r => LQ H n (itF f r (List.replicate (n * n) false)))
    (fun r => r ≤ n + 1) (fun r => n + 1 - r) ?_ 0 (by simp) hE rfl
  intro r hr
  unfold t3L5
  have w1 : IntKind.i64.wrap ((r : Int) + 1) = (r : Int) + 1 := wrap64 (by omega) (by omega)
  by_cases hrn : r ≤ n
  case neg =>
    obtain rfl : r = n + 1 := by omega
    have e : itF f (n + 1) (List.replicate (n * n) false) = rdM n t null ps := rfl
    rw [e]
    have hni : ¬ ((n : Int) + 1 ≤ n) := by omega
    simp [hni]
    refine hQ _ ?_
    simp
  have hrn2 : (r : Int) ≤ n := by omega
  have hl : (itF f r (List.replicate (n * n) false)).length = n * n := by rw [itF_len (fun o => rdR_len n t null ps o)]; simp
  have hnx := itF_succ f r (List.replicate (n * n) false)
  have done : ∀ (E : Env) (H' : Heap), E = lE t k' ps H null n ++ [(6, I ((r : Int) + 1))] → H' = LQ H n (itF f (r + 1) (List.replicate (n * n) false)) →
    ∃ r' : Nat, r' ≤ n + 1 ∧ n + 1 - r' < n + 1 - r ∧ E = lE t k' ps H null n ++ [(6, I r')] ∧ H' = LQ H n (itF f r' (List.replicate (n * n) false)) := fun E H' h1 h2 => ⟨r + 1, by omega, by omega, by rw [h1]; simp, h2⟩
  rw [hnx] at done
  generalize itF f r (List.replicate (n * n) false) = q at hl done ⊢
  simp [hrn2]
  refine l3L4 (k' := k') (null := null) (r := r) t1 t2 hn hps hnull hok hl hlk (by simp) (fun env' hE' => ?_)
  rw [blk_exit, if_pos rfl, blk_nrm, fol_nrm, wb_regN, hE']
  simp [w1]
  rw [rnd_nrm]
  refine done _ _ ?_ rfl
  simp
set_option maxRecDepth 20000 in
theorem left_code (g : Gm) : callW X A 0 0 3 [gV g] [] = some (Bo true, []) := by
  have kl := fun (L : Nat) => lives_code L
  have kk := fun (L : Nat) (H : Heap) => light_code (lk := 0) (lim := L) (H := H) g
  refine wb_callB [1, 8] rfl A3 rfl rfl ?_
  unfold t3B
  by_cases hli : light g = true
  case neg =>
    have hli : light g = false := by simpa using hli
    rw [hli] at kk
    obtain ⟨t, n, k, ps⟩ := g
    simp only [gV, Gm.cells] at kk
    generalize callW X A = C at kl kk ⊢
    simp [Gm.cells, kl, kk]
  rw [hli] at kk
  obtain ⟨hl, hr⟩ := light_bd hli
  have kc := fun (L : Nat) (H : Heap) => check_code (lk := 0) (lim := L) (H := H) g hl hr
  by_cases hc : chkE g = 0
  case neg =>
    obtain ⟨t, n, k, ps⟩ := g
    simp only [gV, Gm.cells] at kk kc
    generalize callW X A = C at kl kk kc ⊢
    simp [Gm.cells, kl, kk, kc, hc]
  have ok := gok_of hc
  rw [hc] at kc
  have kn := fun (L : Nat) (H : Heap) => null_code (lk := 0) (lim := L) (H := H) g hl hr (Nat.zero_le _)
  have kf := fun (L : Nat) (H : Heap) => left_code13 (lk := 0) (lim := L) (H := H) g hl hr (Nat.zero_le _)
  have lN := derM_len g false
  have pok := psOk_of ok
  unfold derV at kn
  unfold leftV leftR at kf
  simp only [if_pos hc] at kn kf
  have hdg : dgL g.n.toNat (leftM g.n.toNat g.t (derM g false) g.ps) g.n.toNat 0 = dgL g.n.toNat (rdM g.n.toNat g.t (derM g false) g.ps) g.n.toNat 0 := dgL_eq _ _ (by omega) fun i hi => by rw [leftM_iff pok i i hi, rdM_iff pok i i hi]
  rw [hdg] at kf
  have hF := rdM_len g.n.toNat g.t (derM g false) g.ps
  generalize derM g false = N at kn kf lN hF
  obtain ⟨t, n, k, ps⟩ := g
  obtain ⟨t1, t2, n1, n2, k1, k2, l1, l2, okp⟩ := ok
  simp only at t1 t2 n1 n2 k1 k2 l1 l2 okp
  obtain ⟨n, rfl⟩ := Int.eq_ofNat_of_zero_le (by omega : 0 ≤ n)
  simp only [gV, Gm.cells, Int.toNat_natCast] at kk kc kn kf lN hF
  have hok : ∀ p ∈ ps, 0 ≤ p.l ∧ p.l < n ∧ p.r.length ≤ 8 ∧ ∀ x ∈ p.r, 0 ≤ x ∧ x < t + n := fun p hp => ⟨(okp p hp).l0, (okp p hp).l1, (okp p hp).len, (okp p hp).s⟩
  have hro2 : (n : Int) * 24 ≤ (room : Int) := by unfold room; omega
  have hstart : [HB.cells (repl n [.e0])] = LP [] n 0 := by
    unfold LP
    rw [repl_e0, outC_zero]; rfl
  have hbn : ((n : Int) != (n : Int)) = false := by simp
  generalize hC : callW X A = C at kl kk kc kn kf ⊢
  simp [Gm.cells, kl, kk, kc, kn, hbn, hro2, hstart]
  refine l3L1 (H := []) (t := t) (k' := k) (ps := ps) (null := N) (by omega) (Nat.le_refl _) (Nat.le_refl _) (by simp) (fun env' hE' => ?_)
  rw [blk_exit, if_pos rfl, fol_nrm, wb_seq, wb_seq, wb_regN, hE']
  simp
  refine l3L5 (H := []) (k' := k) t1 t2 (by omega) l2 lN hok (Nat.le_refl _) (by simp) (fun env' hE' => ?_)
  rw [blk_exit, if_pos rfl, fol_nrm, wb_seq, wb_regN, hE']
  generalize rdM n t N ps = F at hF kf ⊢
  obtain ⟨res, hres⟩ : ∃ res, dgL n F n 0 = res := ⟨_, rfl⟩
  rw [hres] at kf
  simp [kf]
  let bx : AV := .box [I t, I n, I k, .sl ps.length (psC ps)]
  refine wb_loop (σ := Nat) (fun j => [(1, bx), (4, .hs 0 n 0 n 1), (12, I res.1), (13, Bo res.2), (14, I j)]) (fun _ => LQ [] n F)
    (fun j => j ≤ n ∧ dgL n F (n - j) j = res) (fun j => n - j) ?_ 0 ⟨Nat.zero_le _, hres⟩ (by simp [bx]) rfl
  rintro j ⟨hj, hinv⟩
  unfold t3L6
  have w2 : IntKind.i64.wrap ((j : Int) + 1) = (j : Int) + 1 := wrap64 (by omega) (by omega)
  by_cases hjl : j < n
  case neg =>
    obtain rfl : j = n := by omega
    rw [Nat.sub_self] at hinv
    subst hinv
    simp [dgL, bx]
  have hrl := rowV_len (0 + 1) n n
  have q2 := LQ_0 (H := []) (n := n) (o := F)
  have qr := LQ_row (H := []) (o := F) hjl
  obtain ⟨R, rw1, len1, k1, v1⟩ := cel hF hjl hjl
  rw [rw1] at qr
  simp only [List.length_nil] at q2 qr
  have b1 : (bools R).length = n := by rw [bools_len, len1]
  rw [show n - j = (n - (j + 1)) + 1 by omega, dgL] at hinv
  generalize F.getD (j * n + j) false = u at hinv v1
  cases u with
  | true =>
    rw [if_pos rfl] at hinv
    subst hinv
    have hb2 : ((j : Int) == j) = true := by simp
    simp [bx, hjl, q2, hrl, rowV_ge, qr, k1, v1, b1, bools_get, hb2]
  | false =>
    rw [if_neg (by simp)] at hinv
    simp [bx, hjl, q2, hrl, rowV_ge, qr, k1, v1, b1, bools_get, w2]
    rw [rnd_nrm]
    refine ⟨j + 1, ⟨by omega, hinv⟩, by omega, ?_, rfl⟩
    simp [bx]
end Go.Proofs.Ytikedgpcgacgoaa
