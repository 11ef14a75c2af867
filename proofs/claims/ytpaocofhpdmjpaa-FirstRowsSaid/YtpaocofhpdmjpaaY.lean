import Derived.Test.YtpaocofhpdmjpaaX
set_option linter.unusedSimpArgs false
set_option linter.unusedVariables false
namespace Go.Proofs.Ytpaocofhpdmjpaa
open Go Go.Hm

theorem rok_bd {g : Gm} (hg : GOk g) {l : List (List UInt8)} (h : ROk g l) : l.length ≤ 2000000 ∧ ∀ x ∈ l, x.length ≤ 1000000 := by
  have := h.size hg
  exact ⟨by omega, fun x hx => by have := h.len x hx; have := hg.k2; omega⟩
theorem ofOk_of {g : Gm} (hg : GOk g) (hc : chkE g = 0) {S : Ss} (h : SOk g S) {p : Pr} (hp : POk g p) : OfOk g S p.r := by
  refine ⟨hc, by rw [h.len]; have := hg.n1; omega, List.any_eq_false.2 fun s hs => ?_⟩
  have := hp.s s hs
  simp only [badS, Bool.or_eq_true, decide_eq_true_eq, not_or]
  omega
set_option maxRecDepth 20000 in
/-- Rows rise, and have so many bytes. -/
theorem c6L2 {C : Orc} {Q : Ex → Kt} {env : Env} {t n k : Int} {v3 v4 v5 : AV} {cs : List AV} {v : AV} {l : List (List UInt8)} {i : Nat} (hcv : cs[i]? = some v) (hv : RV v l) (hup : Up l) (hlen : ∀ x ∈ l, (x.length : Int) ≤ k) (hl : l.length ≤ 2000000)
    (hE : restrict [1, 3, 4, 5, 6, 9] env = [(1, .box [I t, I n, I k, v3]), (3, .sl cs.length cs), (4, v4), (5, v5), (6, I i), (9, I 0)])
    (hQ : ∀ env', restrict [1, 3, 4, 5, 6] env' = [(1, .box [I t, I n, I k, v3]), (3, .sl cs.length cs), (4, v4), (5, v5), (6, I i)] → Q (.exit 4) env' []) :
    WB ⟨C, 0, 0, [1]⟩ (.loop [1, 3, 4, 5, 6, 9] t6L2) Q env [] := by
  have hic : i < cs.length := (List.getElem?_eq_some_iff.1 hcv).1
  have hicE : cs[i] = v := by rw [List.getElem?_eq_getElem hic] at hcv; simpa using hcv
  have hic' : (i : Int) < cs.length := by omega
  refine wb_loop (σ := Nat) (fun m => [(1, .box [I t, I n, I k, v3]), (3, .sl cs.length cs), (4, v4), (5, v5), (6, I i), (9, I m)]) (fun _ => []) (fun m => m ≤ l.length) (fun m => l.length - m) ?_ 0 (by omega) hE rfl
  intro m hm
  unfold t6L2
  by_cases hml : m < l.length
  case neg =>
    obtain rfl : m = l.length := by omega
    rcases hv with rfl | ⟨rfl, rfl⟩
    all_goals
      simp [hic, hic', hcv, hicE]
      refine hQ _ ?_
      simp [restrict, find]
  have hv : v = rowsV l := hv.resolve_right fun h => by rw [h.2] at hml; simp at hml
  subst hv
  have w1 : IntKind.i64.wrap ((m : Int) + 1) = (m : Int) + 1 := wrap64 (by omega) (by omega)
  have ga := rowsB_getE hml
  have hx := hlen _ (List.getElem_mem hml)
  have hx' : ¬ k < l[m].length := by omega
  by_cases h0 : m = 0
  · subst h0
    generalize l[0] = x at ga hx hx'
    simp [hic, hic', hcv, hicE, hml, ga, Sg_size, hx', rnd_nrm]
    exact ⟨1, by omega, by omega, by decide⟩
  · obtain ⟨j, hj⟩ : ∃ j, j + 1 = m := ⟨m - 1, by omega⟩
    have hjl : j < l.length := by omega
    have gj := rowsB_getE hjl
    have hlt := List.pairwise_iff_getElem.1 hup j m hjl hml (by omega)
    have w2 : IntKind.i64.wrap ((m : Int) - 1) = (j : Int) := by rw [wrap64 (by omega) (by omega)]; omega
    have hp : 0 < m := by omega
    generalize l[m] = x at ga hx hx' hlt
    generalize l[j] = y at gj hlt
    have hge := sg_geq y x
    rw [hlt] at hge
    simp [hic, hic', hcv, hicE, hml, hjl, ga, gj, Sg_size, hx', w2, hp, hge, w1, rnd_nrm]
    exact ⟨m + 1, by omega, by omega, by omega⟩
set_option maxRecDepth 20000 in
/-- All rows of a left's right sides. -/
theorem c6L1 {C : Orc} {Q : Ex → Kt} {env : Env} {t n k : Int} {ps : List Pr} {v4 v5 : AV} {cs : List AV} {S : Ss} {i : Nat} (hpl : ps.length ≤ 1000000) (rok : ∀ p ∈ ps, ROk ⟨t, n, k, ps⟩ (ofM ⟨t, n, k, ps⟩ S p.r)) (hg : GOk ⟨t, n, k, ps⟩)
    (k23 : ∀ p ∈ ps, C 0 0 23 [gV ⟨t, n, k, ps⟩, .sl cs.length cs, .sl p.r.length (ints p.r)] [] = some (ofV ⟨t, n, k, ps⟩ S p.r, []))
    (k15 : ∀ (va vb : AV) (a b : List (List UInt8)), RV va a → RV vb b → a.length + b.length ≤ 8000000000000 → C 0 0 15 [va, vb] [] = some (rowsV (uni a b), []))
    (hE : restrict [1, 3, 4, 5, 6, 7, 8] env = [(1, .box [I t, I n, I k, .sl ps.length (psC ps)]), (3, .sl cs.length cs), (4, v4), (5, v5), (6, I i), (7, .e0), (8, I 0)])
    (hQ : ∀ env' v, RV v (allM ⟨t, n, k, ps⟩ S i ps []) → restrict [1, 3, 4, 5, 6, 7] env' = [(1, .box [I t, I n, I k, .sl ps.length (psC ps)]), (3, .sl cs.length cs), (4, v4), (5, v5), (6, I i), (7, v)] → Q (.exit 2) env' []) :
    WB ⟨C, 0, 0, [1]⟩ (.loop [1, 3, 4, 5, 6, 7, 8] t6L1) Q env [] := by
  let bx : AV := .box [I t, I n, I k, .sl ps.length (psC ps)]
  refine wb_loop (σ := Nat × List (List UInt8) × AV) (fun s => [(1, bx), (3, .sl cs.length cs), (4, v4), (5, v5), (6, I i), (7, s.2.2), (8, I s.1)]) (fun _ => [])
    (fun s => s.1 ≤ ps.length ∧ RV s.2.2 s.2.1 ∧ ROk ⟨t, n, k, ps⟩ s.2.1 ∧ allM ⟨t, n, k, ps⟩ S i (ps.drop s.1) s.2.1 = allM ⟨t, n, k, ps⟩ S i ps []) (fun s => ps.length - s.1) ?_ (0, [], .e0) ⟨by omega, .inr ⟨rfl, rfl⟩, ROk.nil _, rfl⟩ hE rfl
  rintro ⟨m, a, v⟩ ⟨hm, hv, ha, hinv⟩
  simp only at hm hv ha hinv
  unfold t6L1
  by_cases hml : m < ps.length
  case neg =>
    obtain rfl : m = ps.length := by omega
    rw [List.drop_length] at hinv
    have hinv : a = allM ⟨t, n, k, ps⟩ S i ps [] := hinv
    rw [← hinv] at hQ
    rcases rv_noRp hv with rfl | rfl
    all_goals
      simp [bx]
      refine hQ _ _ hv ?_
      simp [restrict, find]
  have w1 : IntKind.i64.wrap ((m : Int) + 1) = (m : Int) + 1 := wrap64 (by omega) (by omega)
  obtain ⟨p, hp⟩ : ∃ p, ps[m] = p := ⟨_, rfl⟩
  have hpm : p ∈ ps := hp ▸ List.getElem_mem hml
  have hpl2 := psC_l hml
  have hpr := psC_r hml
  have hll := psC_len ps
  have h2 : m * 2 + 2 ≤ 2 * ps.length := by omega
  rw [hp] at hpl2 hpr
  rw [List.drop_eq_getElem_cons hml, hp, allM] at hinv
  have kp := k23 p hpm
  have rp := rok p hpm
  have hov := ofV_rv ⟨t, n, k, ps⟩ S p.r
  have s1 := ha.size hg
  have s2 := rp.size hg
  have ku := k15 v _ _ _ hv hov (Nat.le_trans (Nat.add_le_add s1 s2) (by decide))
  have ru := ha.uni rp
  simp only [gV, Gm.cells] at kp
  generalize ofV ⟨t, n, k, ps⟩ S p.r = ov at kp hov ku
  generalize ofM ⟨t, n, k, ps⟩ S p.r = om at *
  by_cases hpi : p.l = (i : Int)
  · rw [if_pos hpi] at hinv
    rcases rv_noRp hv with rfl | rfl <;> rcases rv_noRp hov with rfl | rfl
    all_goals
      simp [bx, hml, hll, h2, hpl2, hpr, hpi, kp, ku, w1, rnd_nrm]
      exact ⟨m + 1, uni a om, rowsV (uni a om), ⟨by omega, .inl rfl, ru, hinv⟩, by omega, rfl, by omega⟩
  · rw [if_neg hpi] at hinv
    rcases rv_noRp hv with rfl | rfl
    all_goals
      simp [bx, hml, hll, h2, hpl2, hpr, hpi, w1, rnd_nrm]
      exact ⟨m + 1, a, _, ⟨by omega, hv, ha, hinv⟩, by omega, rfl, by omega⟩

theorem eqb_Bo (a b : Bool) : (Bo a = Bo b) = (a = b) := by cases a <;> cases b <;> simp
set_option maxRecDepth 20000 in
set_option maxHeartbeats 2000000 in
theorem fixed_code (g : Gm) : callW X A 0 0 6 [gV g] [] = some (Bo true, []) := by
  have k10 := lives_ok
  have kk := light_code (lk := 0) (lim := 0) (H := []) g
  refine wb_callB [1] rfl A6 rfl rfl ?_
  unfold t6B
  by_cases hli : light g = true
  case neg =>
    have hli : light g = false := by simpa using hli
    rw [hli] at kk
    obtain ⟨t, n, k, ps⟩ := g
    simp only [gV, Gm.cells] at kk
    generalize callW X A = C at k10 kk ⊢
    simp [Gm.cells, k10, kk]
  rw [hli] at kk
  obtain ⟨hl, hr⟩ := light_bd hli
  have kc := rcheck_code (lk := 0) (lim := 0) (H := []) g hl hr
  by_cases hc : chkE g = 0
  case neg =>
    have hc2 : (chkE g != 0) = true := by simpa using hc
    generalize chkE g = e at kc hc2 hc
    obtain ⟨t, n, k, ps⟩ := g
    simp only [gV, Gm.cells] at kk kc
    generalize callW X A = C at k10 kk kc ⊢
    simp [Gm.cells, k10, kk, kc, hc2, hc]
  have ok := gok_of hc
  obtain ⟨v, h', ks, hh, hv⟩ := sets_code (lk := 0) (lim := 0) (H := []) (Nat.le_refl _) g hl hr
  subst hh
  rw [if_pos hc] at hv
  obtain ⟨cs, rfl, hS⟩ := hv
  have hok := sets_ok ok
  have hlen := hok.len
  have kn := rnull_code (lk := 0) (lim := 0) (H := []) g hl hr (Nat.le_refl _)
  have kp := rprod_code (lk := 0) (lim := 0) (H := []) g hl hr (Nat.le_refl _)
  unfold derV at kn kp
  rw [if_pos hc] at kn kp
  have k23 : ∀ p ∈ g.ps, callW X A 0 0 23 [gV g, .sl cs.length cs, .sl p.r.length (ints p.r)] [] = some (ofV g (setsM g) p.r, []) := fun p hp => by
    have pok := ok.p p hp
    have := of23_code (lk := 0) (lim := 0) (H := []) (Nat.le_refl _) g hl hr hS p.r (hr p hp) (by rw [hlen]; have := ok.n2; omega) fun _ => (of_need ok hok pok).2
    rwa [if_pos (ofOk_of ok hc hok pok)] at this
  have k15 := fun (va vb : AV) (a b : List (List UInt8)) (ha : RV va a) (hb : RV vb b) h => union_code (lk := 0) (lim := 0) (H := []) ha hb h
  have ksm := fun (va vb : AV) (a b : List (List UInt8)) (ha : RV va a) (hb : RV vb b) h => same_code (lk := 0) (lim := 0) (H := []) ha hb h
  have kh := fun (v : AV) (l : List (List UInt8)) (hv : RV v l) x h => has_code (lk := 0) (lim := 0) (H := []) hv x h
  have rok : ∀ p ∈ g.ps, ROk g (ofM g (setsM g) p.r) := fun p hp => ofM_ok ok hok fun s hs => ((ok.p p hp).s s hs).1
  have hall := allM_sets ok
  have hnull := null_iff ok
  have hprod := prod_iff ok
  have hdN := derM_len g false
  have hdP := derM_len g true
  have hget := hok.get
  have hne : ((cs.length : Int) != g.n) = false := by rw [hS.1, hlen]; have := ok.n1; simp; omega
  rw [hc] at kc
  generalize derM g false = N at *
  generalize derM g true = P at *
  generalize setsM g = S at *
  obtain ⟨t, n, k, ps⟩ := g
  have ok2 := ok
  obtain ⟨t1, t2, n1, n2, k1, k2, l1, l2, okp⟩ := ok2
  simp only at t1 t2 n1 n2 k1 k2 l1 l2 okp hlen
  obtain ⟨n, rfl⟩ := Int.eq_ofNat_of_zero_le (by omega : 0 ≤ n)
  simp only [gV, Gm.cells, Int.toNat_natCast] at kk kc ks kn kp hlen hdN hdP hne hall
  generalize callW X A = C at *
  simp [Gm.cells, k10, kk, kc, ks, kn, kp, hne]
  let bx : AV := .box [I t, I n, I k, .sl ps.length (psC ps)]
  refine wb_loop (σ := Nat) (fun i => [(1, bx), (3, .sl cs.length cs), (4, .sl n (bools N)), (5, .sl n (bools P)), (6, I i)]) (fun _ => []) (fun i => i ≤ n) (fun i => n - i) ?_ 0 (by omega) (by simp [bx, restrict, find]) rfl
  intro i hi
  unfold t6L3
  by_cases hil : i < n
  case neg =>
    obtain rfl : i = n := by omega
    simp [bx]
  have w1 : IntKind.i64.wrap ((i : Int) + 1) = (i : Int) + 1 := wrap64 (by omega) (by omega)
  have hiN : i < N.length := by rw [hdN]; exact hil
  have hiP : i < P.length := by rw [hdP]; exact hil
  have hiS : i < S.length := by omega
  obtain ⟨w, hw, hrw⟩ := hS.get hiS
  have hic : i < cs.length := by rw [hS.1]; exact hiS
  have hic' : (i : Int) < cs.length := by omega
  have hicE : cs[i] = w := by rw [List.getElem?_eq_getElem hic] at hw; simpa using hw
  have hsz := rok_bd ok (hget i)
  have hup := (hget i).up
  have hlenK := (hget i).len
  have hN : N[i] = hasV (S.getD i []) [] := by
    rw [Bool.eq_iff_iff, hasV_iff, ← hnull i, getD_of hiN]
  have hP : P[i] = decide (0 < (S.getD i []).length) := by
    rw [Bool.eq_iff_iff, decide_eq_true_eq, List.length_pos_iff, ← hprod i, getD_of hiP]
  have hai := hall i
  have k13 := fun v (hv : RV v (S.getD i [])) => ksm v w _ _ hv hrw (by have := hsz.1; omega)
  have k14 := kh w _ hrw [] (by have := hsz.1; omega)
  have main : ∀ Q : Ex → Kt, (∀ env' v, RV v (S.getD i []) → restrict [1, 3, 4, 5, 6, 7] env' = [(1, .box [I t, I n, I k, .sl ps.length (psC ps)]), (3, .sl cs.length cs), (4, .sl n (bools N)), (5, .sl n (bools P)), (6, I i), (7, v)] → Q (.exit 2) env' []) →
    ∀ env, restrict [1, 3, 4, 5, 6, 7, 8] env = [(1, .box [I t, I n, I k, .sl ps.length (psC ps)]), (3, .sl cs.length cs), (4, .sl n (bools N)), (5, .sl n (bools P)), (6, I i), (7, .e0), (8, I 0)] → WB ⟨C, 0, 0, [1]⟩ (.loop [1, 3, 4, 5, 6, 7, 8] t6L1) Q env [] := fun Q hQ env he =>
    c6L1 (S := S) (i := i) (by omega) rok ok k23 k15 he fun env' v hv he' => hQ env' v (by rw [← hai]; exact hv) he'
  generalize S.getD i [] = l at *
  have hlenK : ∀ x ∈ l, (x.length : Int) ≤ k := fun x hx => by have := hlenK x hx; simp only at this; omega
  simp [bx, hil]
  refine main _ ?_ _ (by simp [restrict, find])
  intro env' v hv he
  have k13 := k13 v hv
  rw [decide_eq_true rfl] at k13
  rw [← hN] at k14
  have hPl : decide ((0 : Int) < l.length) = P[i] := by rw [hP]; simp
  have k14 : C 0 0 14 [w, .val (.string ⟨#[]⟩)] [] = some (Bo N[i], []) := k14
  rw [blk_exit, if_pos rfl, fol_nrm, wb_seq, wb_seq, wb_regD rfl, he]
  obtain ⟨bN, hbN⟩ : ∃ b, N[i] = b := ⟨_, rfl⟩
  obtain ⟨bP, hbP⟩ : ∃ b, P[i] = b := ⟨_, rfl⟩
  rw [hbN] at k14
  rw [hbP] at hPl
  have hlP : 0 < l.length ↔ bP = true := by rw [← hPl]; simp
  have hq : w = rowsV l ∨ (w = .e0 ∧ bP = false) := by
    rcases hrw with h | ⟨h1, h2⟩
    · exact .inl h
    · refine .inr ⟨h1, ?_⟩
      subst h2
      cases bP with
      | false => rfl
      | true => have := hlP.2 rfl; simp at this
  have l2 := fun Q env he hQ => c6L2 (C := C) (Q := Q) (env := env) (t := t) (n := (n : Int)) (k := k) (v3 := .sl ps.length (psC ps)) (v4 := .sl n (bools N)) (v5 := .sl n (bools P)) hw hrw hup hlenK hsz.1 he hQ
  rcases rv_noRp hv with rfl | rfl <;> rcases hq with rfl | ⟨rfl, rfl⟩
  all_goals
    cases bN <;> try cases bP
    all_goals
      simp [-wb_true, -wb_false, hic, hic', hw, hicE, k13, k14, bools_get, hiN, hiP, hbN, hbP, hdN, hdP, hil, hlP]
      rw [wb_false rfl, wb_skip, fol_nrm, wb_seq, wb_regN]
      simp
      refine l2 _ _ (by simp [restrict, find]) fun env' he' => ?_
      rw [blk_exit, if_pos rfl, blk_nrm, fol_nrm, wb_regN, he']
      simp [w1]
      rw [rnd_nrm]
      exact ⟨i + 1, by omega, by omega, by simp [bx, restrict, find], rfl⟩
end Go.Proofs.Ytpaocofhpdmjpaa
