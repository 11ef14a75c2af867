import Derived.Test.YtikedgpcgacgoaaLg
set_option linter.unusedSimpArgs false
set_option linter.unusedVariables false
namespace Go.Proofs.Ytikedgpcgacgoaa
open Go Go.Hm

set_option maxRecDepth 20000 in
theorem c26L5 {C : Orc} {Q : Ex → Kt} {env : Env} {lk L : Nat} {H : Heap} {t k' : Int} {ps : List Pr} {n m : Nat} {o : List Bool} (hn : n ≤ 16) (hm : m < n) (ho : o.length = n * n) (hlk : lk ≤ H.length)
    (hE : restrict [1, 5, 11, 12] env = wE t k' ps H n ++ [(11, I m), (12, I 0)])
    (hQ : ∀ env', restrict [1, 5, 11] env' = wE t k' ps H n ++ [(11, I m)] → Q (.exit 8) env' (LQ H n (waM n o m))) :
    WB ⟨C, lk, L, [1, 8]⟩ (.loop [1, 5, 11, 12] t26L5) Q env (LQ H n o) := by
  refine wb_loop (σ := Nat × List Bool) (fun s => wE t k' ps H n ++ [(11, I m), (12, I s.1)]) (fun s => LQ H n s.2)
    (fun s => s.1 ≤ n ∧ s.2 = (List.range s.1).foldl (waR n m) o ∧ s.2.length = n * n) (fun s => n - s.1) ?_ (0, o) ⟨Nat.zero_le _, rfl, ho⟩ hE rfl
  rintro ⟨i, q⟩ ⟨hi, hq, hql⟩
  simp only at hi hq hql
  unfold t26L5
  have w1 : IntKind.i64.wrap ((i : Int) + 1) = (i : Int) + 1 := wrap64 (by omega) (by omega)
  by_cases hin : i < n
  case neg =>
    obtain rfl : i = n := by omega
    have e : waM i o m = q := hq.symm
    rw [e] at hQ
    simp
    refine hQ _ ?_
    simp
  have hnx : (List.range (i + 1)).foldl (waR n m) o = waR n m q i := by rw [List.range_succ, List.foldl_append, ← hq]; rfl
  simp [hin]
  refine c26L4 (t := t) (k' := k') (ps := ps) hn hm hin hql hlk (by simp) (fun env' hE' => ?_)
  rw [blk_exit, if_pos rfl, blk_nrm, fol_nrm, wb_regN, hE']
  simp [w1]
  rw [rnd_nrm]
  refine ⟨(i + 1, waR n m q i), ⟨by simp only; omega, hnx.symm, by simp only; rw [waR_len]; exact hql⟩, by simp only; omega, ?_, rfl⟩
  simp
set_option maxRecDepth 20000 in
theorem c26L6 {C : Orc} {Q : Ex → Kt} {env : Env} {lk L : Nat} {H : Heap} {t k' : Int} {ps : List Pr} {n : Nat} {o : List Bool} (hn : n ≤ 16) (ho : o.length = n * n) (hlk : lk ≤ H.length)
    (hE : restrict [1, 5, 11] env = wE t k' ps H n ++ [(11, I 0)])
    (hQ : ∀ env', restrict [1, 5] env' = wE t k' ps H n → Q (.exit 6) env' (LQ H n ((List.range n).foldl (waM n) o))) :
    WB ⟨C, lk, L, [1, 8]⟩ (.loop [1, 5, 11] t26L6) Q env (LQ H n o) := by
  refine wb_loop (σ := Nat × List Bool) (fun s => wE t k' ps H n ++ [(11, I s.1)]) (fun s => LQ H n s.2)
    (fun s => s.1 ≤ n ∧ s.2 = (List.range s.1).foldl (waM n) o ∧ s.2.length = n * n) (fun s => n - s.1) ?_ (0, o) ⟨Nat.zero_le _, rfl, ho⟩ hE rfl
  rintro ⟨m, q⟩ ⟨hm, hq, hql⟩
  simp only at hm hq hql
  unfold t26L6
  have w1 : IntKind.i64.wrap ((m : Int) + 1) = (m : Int) + 1 := wrap64 (by omega) (by omega)
  by_cases hmn : m < n
  case neg =>
    obtain rfl : m = n := by omega
    rw [← hq] at hQ
    simp
    refine hQ _ ?_
    simp
  have hnx : (List.range (m + 1)).foldl (waM n) o = waM n q m := by rw [List.range_succ, List.foldl_append, ← hq]; rfl
  simp [hmn]
  refine c26L5 (t := t) (k' := k') (ps := ps) hn hmn hql hlk (by simp) (fun env' hE' => ?_)
  rw [blk_exit, if_pos rfl, blk_nrm, fol_nrm, wb_regN, hE']
  simp [w1]
  rw [rnd_nrm]
  refine ⟨(m + 1, waM n q m), ⟨by simp only; omega, hnx.symm, by simp only; rw [waM_len]; exact hql⟩, by simp only; omega, ?_, rfl⟩
  simp
def rleftR (g : Gm) : Int × Bool := if chkE g = 0 then dgL g.n.toNat (refM g.n.toNat g.t (derM g false) g.ps) g.n.toNat 0 else (0, false)
theorem psOk_of {g : Gm} (ok : GOk g) : PsOk g.t g.n.toNat g.ps := fun p hp => by
  have pok := ok.p p hp
  have := pok.l0
  have := pok.l1
  have := ok.n1
  exact ⟨by omega, fun x hx => by have := pok.s x hx; omega⟩
theorem rleft_eq (g : Gm) : rleftR g = leftR g := by
  unfold rleftR leftR
  by_cases hc : chkE g = 0
  · have ok := psOk_of (gok_of hc)
    rw [if_pos hc, if_pos hc]
    refine dgL_eq _ _ (by omega) fun i hi => ?_
    rw [refM_iff ok i i hi hi, leftM_iff ok i i hi]
  · rw [if_neg hc, if_neg hc]
set_option maxRecDepth 20000 in
theorem c26L1 {C : Orc} {Q : Ex → Kt} {env : Env} {lk L : Nat} {H : Heap} {t k' : Int} {ps : List Pr} {null : List Bool} {n : Nat} (hn : n ≤ 16) (hlk : lk ≤ H.length) (hL : L ≤ H.length)
    (hE : restrict [1, 4, 5, 6] env = [(1, .box [I t, I n, I k', .sl ps.length (psC ps)]), (4, .sl n (bools null)), (5, .hs H.length n 0 n 1), (6, I 0)])
    (hQ : ∀ env', restrict [1, 4, 5] env' = [(1, .box [I t, I n, I k', .sl ps.length (psC ps)]), (4, .sl n (bools null)), (5, .hs H.length n 0 n 1)] → Q (.exit 0) env' (LQ H n (List.replicate (n * n) false))) :
    WB ⟨C, lk, L, [1, 8]⟩ (.loop [1, 4, 5, 6] t26L1) Q env (LP H n 0) := by
  let bx : AV := .box [I t, I n, I k', .sl ps.length (psC ps)]
  refine wb_loop (σ := Nat) (fun i => [(1, bx), (4, .sl n (bools null)), (5, .hs H.length n 0 n 1), (6, I i)]) (fun i => LP H n i)
    (fun i => i ≤ n) (fun i => n - i) ?_ 0 (by simp) hE rfl
  intro i hi
  unfold t26L1
  have w1 : IntKind.i64.wrap ((i : Int) + 1) = (i : Int) + 1 := wrap64 (by omega) (by omega)
  by_cases hin : i < n
  case neg =>
    obtain rfl : i = n := by omega
    rw [LP_LQ]
    simp [bx]
    refine hQ _ ?_
    simp
  have hro : (n : Int) ≤ (room : Int) := by unfold room; omega
  have hcl := outC_len (b := H.length + 1) hi
  have hli : i < (outC (H.length + 1) n i).length := by omega
  have hrp := fun v => replaceAt_one (cs := outC (H.length + 1) n i) (k := i) v hli
  have hLl := LP_len (H := H) (n := n) (i := i)
  have a3 : (LP H n i ++ [HB.cells (bools (List.replicate n false))])[H.length]? = some (.cells (outC (H.length + 1) n i)) := by rw [List.getElem?_append_left (by omega)]; exact LP_0
  have hnx := LP_next (H := H) hin
  have hi1 : i + 1 ≤ n := hin
  simp [bx, hin, hro, bools_rep, hLl, a3, hcl, setH, hlk, hL, hrp, hnx, hi1, w1]
  rw [rnd_nrm]
  refine ⟨i + 1, by omega, by omega, ?_, rfl⟩
  simp [bx]
set_option maxRecDepth 20000 in
theorem left_code26 {lk lim : Nat} {H : Heap} (g : Gm) (hl : g.ps.length ≤ 1000000) (hr : ∀ p ∈ g.ps, p.r.length ≤ 1000000) (hlk : lk ≤ H.length) : callW X A lk lim 26 [gV g] H = some (leftV g, H) := by
  have kc := fun (L : Nat) (H' : Heap) => rcheck_code (lk := lk) (lim := L) (H := H') g hl hr
  have kn := fun (L : Nat) => rnull_code (lk := lk) (lim := L) (H := H) g hl hr hlk
  refine wb_callB [1, 8] rfl A26 rfl rfl ?_
  unfold t26B
  unfold leftV
  rw [← rleft_eq]
  unfold rleftR
  by_cases hc : chkE g = 0
  case neg =>
    rw [if_neg hc]
    obtain ⟨t, n, k, ps⟩ := g
    simp only [gV, Gm.cells] at kc
    generalize callW X A = C at kc ⊢
    simp [Gm.cells, kc, hc]
  have ok := gok_of hc
  rw [if_pos hc]
  rw [hc] at kc
  have lN := derM_len g false
  unfold derV at kn
  rw [if_pos hc] at kn
  generalize derM g false = N at kn lN ⊢
  obtain ⟨t, n, k, ps⟩ := g
  obtain ⟨t1, t2, n1, n2, k1, k2, l1, l2, okp⟩ := ok
  simp only at t1 t2 n1 n2 k1 k2 l1 l2 okp
  obtain ⟨n, rfl⟩ := Int.eq_ofNat_of_zero_le (by omega : 0 ≤ n)
  simp only [gV, Gm.cells, Int.toNat_natCast] at kc kn lN
  simp only [Int.toNat_natCast]
  have hok : ∀ p ∈ ps, 0 ≤ p.l ∧ p.l < n ∧ p.r.length ≤ 8 ∧ ∀ x ∈ p.r, 0 ≤ x ∧ x < t + n := fun p hp => ⟨(okp p hp).l0, (okp p hp).l1, (okp p hp).len, (okp p hp).s⟩
  have hF : (refM n t N ps).length = n * n := by
    unfold refM
    rw [foldl_len (fun o m => waM_len n o m), edM_len]
  have hro2 : (n : Int) * 24 ≤ (room : Int) := by unfold room; omega
  have hstart : H ++ [.cells (repl n [.e0])] = LP H n 0 := by
    unfold LP
    rw [repl_e0, outC_zero]; rfl
  obtain ⟨res, hres⟩ : ∃ res, dgL n (refM n t N ps) n 0 = res := ⟨_, rfl⟩
  rw [hres]
  generalize callW X A = C at kc kn ⊢
  simp [Gm.cells, kc, kn, hro2, hstart]
  refine c26L1 (t := t) (k' := k) (ps := ps) (null := N) (by omega) hlk (Nat.le_refl _) (by simp) (fun env' hE' => ?_)
  rw [blk_exit, if_pos rfl, fol_nrm, wb_seq, wb_seq, wb_regN, hE']
  simp
  refine c26L3 (k' := k) t1 t2 (by omega) l2 lN hok hlk (by simp) (fun env' hE' => ?_)
  rw [blk_exit, if_pos rfl, fol_nrm, wb_seq, wb_seq, wb_regN, hE']
  simp
  refine c26L6 (t := t) (k' := k) (ps := ps) (by omega) (edM_len ..) hlk (by simp) (fun env' hE' => ?_)
  rw [blk_exit, if_pos rfl, fol_nrm, wb_seq, wb_seq, wb_regN, hE']
  have hF2 : (List.range n).foldl (waM n) (edM n t N ps) = refM n t N ps := rfl
  rw [hF2]
  generalize refM n t N ps = F at hF hres ⊢
  simp
  let bx : AV := .box [I t, I n, I k, .sl ps.length (psC ps)]
  refine wb_loop (σ := Nat) (fun j => [(1, bx), (5, .hs H.length n 0 n 1), (14, I j)]) (fun _ => LQ H n F)
    (fun j => j ≤ n ∧ dgL n F (n - j) j = res) (fun j => n - j) ?_ 0 ⟨Nat.zero_le _, hres⟩ (by simp [bx]) rfl
  rintro j ⟨hj, hinv⟩
  unfold t26L7
  have w2 : IntKind.i64.wrap ((j : Int) + 1) = (j : Int) + 1 := wrap64 (by omega) (by omega)
  have htk := LQ_take (H := H) (n := n) (o := F)
  by_cases hjl : j < n
  case neg =>
    obtain rfl : j = n := by omega
    rw [Nat.sub_self] at hinv
    subst hinv
    simp [dgL, htk, bx]
  have hrl := rowV_len (H.length + 1) n n
  have q2 := LQ_0 (H := H) (n := n) (o := F)
  have qr := LQ_row (H := H) (o := F) hjl
  obtain ⟨R, rw1, len1, k1, v1⟩ := cel hF hjl hjl
  rw [rw1] at qr
  have b1 : (bools R).length = n := by rw [bools_len, len1]
  rw [show n - j = (n - (j + 1)) + 1 by omega, dgL] at hinv
  generalize F.getD (j * n + j) false = u at hinv v1
  cases u with
  | true =>
    rw [if_pos rfl] at hinv
    subst hinv
    simp [bx, hjl, q2, hrl, rowV_ge, qr, k1, v1, b1, bools_get, htk]
  | false =>
    rw [if_neg (by simp)] at hinv
    simp [bx, hjl, q2, hrl, rowV_ge, qr, k1, v1, b1, bools_get, w2]
    rw [rnd_nrm]
    refine ⟨j + 1, ⟨by omega, hinv⟩, by omega, ?_, rfl⟩
    simp [bx]
end Go.Proofs.Ytikedgpcgacgoaa
