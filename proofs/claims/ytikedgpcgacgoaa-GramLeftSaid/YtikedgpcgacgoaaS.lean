import Derived.Test.YtikedgpcgacgoaaR
set_option linter.unusedSimpArgs false
set_option linter.unusedVariables false
namespace Go.Proofs.Ytikedgpcgacgoaa
open Go Go.Hm

theorem any_take {α : Type} (P : α → Bool) (l : List α) (k : Nat) (h : k < l.length) : (l.take (k + 1)).any P = ((l.take k).any P || P l[k]) := by
  rw [List.take_succ_eq_append_getElem h, List.any_append, List.any_cons, List.any_nil, Bool.or_false]
theorem ofN_lt {ps : List Pr} {left : Int} {m k : Nat} (h : k < (ofN ps left m).length) : (ofN ps left m)[k] < m ∧ (ps.getD (ofN ps left m)[k] ⟨0, []⟩).l = left := by
  have := List.getElem_mem h
  unfold ofN at this
  rw [List.mem_filter, List.mem_range, decide_eq_true_eq] at this
  exact this
set_option maxRecDepth 20000 in
theorem c5L1 {C : Orc} {Q : Ex → Kt} {env : Env} {t k' : Int} {n i k : Nat} {ps : List Pr} {N P R : List Bool} {u v : Bool} {o : List Nat} {pr : List Int} (t1 : 1 ≤ t) (t2 : t ≤ 8) (n2 : (n : Int) ≤ 16) (hil : i < n) (lR : R.length = n) (b1 : pr.length ≤ 8) (b4 : ∀ x ∈ pr, 0 ≤ x ∧ x < t + n)
    (hcl : tr R i → ∀ s ∈ pr, ¬ s < t → tr R (s - t).toNat)
    (hE : restrict [1, 3, 4, 5, 6, 7, 8, 9, 10, 11, 12] env = [(1, .box [I t, I n, I k', .sl ps.length (psC ps)]), (3, .sl n (bools N)), (4, .sl n (bools P)), (5, .sl n (bools R)), (6, I i), (7, Bo u), (8, Bo v), (9, .sl o.length (nts o)), (10, I k), (11, .sl pr.length (ints pr)), (12, I 0)])
    (hQ : ∀ env', restrict [1, 3, 4, 5, 6, 7, 8, 9, 10] env' = [(1, .box [I t, I n, I k', .sl ps.length (psC ps)]), (3, .sl n (bools N)), (4, .sl n (bools P)), (5, .sl n (bools R)), (6, I i), (7, Bo u), (8, Bo v), (9, .sl o.length (nts o)), (10, I k)] → Q (.exit 4) env' []) :
    WB ⟨C, 0, 0, [1]⟩ (.loop [1, 3, 4, 5, 6, 7, 8, 9, 10, 11, 12] t5L1) Q env [] := by
  have iR : i < R.length := by omega
  let bx : AV := .box [I t, I n, I k', .sl ps.length (psC ps)]
  refine wb_loop (σ := Nat) (fun m => [(1, bx), (3, .sl n (bools N)), (4, .sl n (bools P)), (5, .sl n (bools R)), (6, I i), (7, Bo u), (8, Bo v), (9, .sl o.length (nts o)), (10, I k), (11, .sl pr.length (ints pr)), (12, I m)]) (fun _ => [])
    (fun m => m ≤ pr.length) (fun m => pr.length - m) ?_ 0 (by simp) hE rfl
  intro m hm
  unfold t5L1
  have w1 : IntKind.i64.wrap ((m : Int) + 1) = (m : Int) + 1 := wrap64 (by omega) (by omega)
  by_cases hml : m < pr.length
  case neg =>
    obtain rfl : m = pr.length := by omega
    simp [bx]
    refine hQ _ ?_
    simp
  have fin : ∀ E : Env, E = [(1, bx), (3, .sl n (bools N)), (4, .sl n (bools P)), (5, .sl n (bools R)), (6, I i), (7, Bo u), (8, Bo v), (9, .sl o.length (nts o)), (10, I k), (11, .sl pr.length (ints pr)), (12, I ((m : Int) + 1))] →
    ∃ m' : Nat, m' ≤ pr.length ∧ pr.length - m' < pr.length - m ∧ E = [(1, bx), (3, .sl n (bools N)), (4, .sl n (bools P)), (5, .sl n (bools R)), (6, I i), (7, Bo u), (8, Bo v), (9, .sl o.length (nts o)), (10, I k), (11, .sl pr.length (ints pr)), (12, I m')] ∧ ([] : Heap) = [] := fun E h => ⟨m + 1, by omega, by omega, by rw [h]; simp, rfl⟩
  obtain ⟨x1, x2⟩ := b4 pr[m] (List.getElem_mem hml)
  have hc := fun h => hcl h pr[m] (List.getElem_mem hml)
  generalize hx : pr[m] = x at x1 x2 hc
  obtain ⟨r, hr⟩ : ∃ r, R[i] = r := ⟨_, rfl⟩
  cases r with
  | false =>
    simp [bx, hil, bools_get, iR, hr, lR, hml, w1]
    rw [rnd_nrm]
    refine fin _ ?_
    simp [bx]
  | true =>
    by_cases hxt : x < t
    · have y0 : ¬ t ≤ x := by omega
      simp [bx, hil, bools_get, iR, hr, lR, hml, w1, hx, y0]
      rw [rnd_nrm]
      refine fin _ ?_
      simp [bx]
    · have y0 : t ≤ x := by omega
      have hxn : (x - t).toNat < R.length := by omega
      have hc := hc (by unfold tr; rw [getD_of iR, hr]) hxt
      unfold tr at hc
      rw [getD_of hxn] at hc
      have w4 : IntKind.i64.wrap (x - t) = x - t := wrap64 (by omega) (by omega)
      have y1 : 0 ≤ x - t := by omega
      have y2 : x - t < n := by omega
      simp [bx, hil, bools_get, iR, hr, lR, hml, w1, hx, y0, w4, y1, y2, hxn, hc]
      rw [rnd_nrm]
      refine fin _ ?_
      simp [bx]
set_option maxRecDepth 20000 in
theorem closed_code (g : Gm) : callW X A 0 0 5 [gV g] [] = some (Bo true, []) := by
  have kl := fun (L : Nat) => lives_code L
  have kk := fun (L : Nat) (H : Heap) => light_code (lk := 0) (lim := L) (H := H) g
  refine wb_callB [1] rfl A5 rfl rfl ?_
  unfold t5B
  by_cases hli : light g = true
  case neg =>
    have hli : light g = false := by simpa using hli
    rw [hli] at kk
    obtain ⟨t, n, k, ps⟩ := g
    simp only [gV, Gm.cells] at kk
    generalize callW X A = C at kl kk ⊢
    simp [Gm.cells, kl, kk]
  rw [hli] at kk
  obtain ⟨hl, hr⟩ := light_bd hli
  have kc := fun (L : Nat) (H : Heap) => check_code (lk := 0) (lim := L) (H := H) g hl hr
  by_cases hc : chkE g = 0
  case neg =>
    obtain ⟨t, n, k, ps⟩ := g
    simp only [gV, Gm.cells] at kk kc
    generalize callW X A = C at kl kk kc ⊢
    simp [Gm.cells, kl, kk, kc, hc]
  have ok := gok_of hc
  rw [hc] at kc
  have kn := fun (L : Nat) (H : Heap) => null_code (lk := 0) (lim := L) (H := H) g hl hr (Nat.zero_le _)
  have kp := fun (L : Nat) (H : Heap) => prod_code (lk := 0) (lim := L) (H := H) g hl hr (Nat.zero_le _)
  have kr := fun (L : Nat) (H : Heap) => rch_code (lk := 0) (lim := L) (H := H) g hl hr (Nat.zero_le _)
  have kh := fun (L : Nat) (H : Heap) => holds_code (lk := 0) (lim := L) (H := H) g ok
  have ko := fun (L : Nat) (H : Heap) (left : Int) => of_code (lk := 0) (lim := L) (H := H) g left hl hr (Nat.zero_le _)
  have kd := fun (L : Nat) (H : Heap) => red_code (lk := 0) (lim := L) (H := H) g hl hr (Nat.zero_le _)
  have aN := fun i => der_any ok false i
  have aP := fun i => der_any ok true i
  have aL := null_prod ok
  have aR := rch_zero ok
  have aC := rch_closed ok
  have lN := derM_len g false
  have lP := derM_len g true
  have lR := rchM_len g
  unfold derV at kn kp
  unfold rchV at kr
  unfold ofV at ko
  unfold redV redP at kd
  simp only [if_pos hc] at kn kp kr ko kd
  generalize derM g false = N at kn aN aL lN ⊢
  generalize derM g true = P at kp aP aL lP kd ⊢
  generalize rchM g = R at kr aR aC lR kd ⊢
  obtain ⟨t, n, k1', ps⟩ := g
  have ok2 := ok
  obtain ⟨t1, t2, n1, n2, k1, k2, l1, l2, okp⟩ := ok2
  simp only at t1 t2 n1 n2 k1 k2 l1 l2 okp
  obtain ⟨n, rfl⟩ := Int.eq_ofNat_of_zero_le (by omega : 0 ≤ n)
  simp only [gV, Gm.cells, Int.toNat_natCast] at kk kc kn kp kr kh ko kd lN lP lR aN aP aC
  have z0 : 0 < n := by omega
  have zR : 0 < R.length := by omega
  have zR0 : R[0] = true := by unfold tr at aR; rwa [getD_of zR] at aR
  have lbN : (bools N).length = n := by rw [bools_len]; exact lN
  have lbP : (bools P).length = n := by rw [bools_len]; exact lP
  have lbR : (bools R).length = n := by rw [bools_len]; exact lR
  generalize hC : callW X A = C at kl kk kc kn kp kr kh ko kd ⊢
  obtain ⟨res, hres⟩ : ∃ res, redL P R n 0 = res := ⟨_, rfl⟩
  rw [hres] at kd
  simp [Gm.cells, kl, kk, kc, kn, kp, kr, z0, lbR, bools_get, zR, zR0]
  let bx : AV := .box [I t, I n, I k1', .sl ps.length (psC ps)]
  refine wb_loop (σ := Nat) (fun i => [(1, bx), (3, .sl n (bools N)), (4, .sl n (bools P)), (5, .sl n (bools R)), (6, I i)]) (fun _ => [])
    (fun i => i ≤ n) (fun i => n - i) ?_ 0 (by simp) (by simp [bx]) rfl
  intro i hi
  unfold t5L3
  have w1 : IntKind.i64.wrap ((i : Int) + 1) = (i : Int) + 1 := wrap64 (by omega) (by omega)
  by_cases hil : i < n
  case neg =>
    obtain rfl : i = n := by omega
    simp [bx, kd]
    refine wb_loop (σ := Nat) (fun j => [(1, bx), (4, .sl i (bools P)), (5, .sl i (bools R)), (13, I res.1), (14, Bo res.2), (15, I j)]) (fun _ => [])
      (fun j => j ≤ i ∧ redL P R (i - j) j = res) (fun j => i - j) ?_ 0 (by simp [hres]) (by simp [bx]) rfl
    rintro j ⟨hj, hinv⟩
    unfold t5L4
    have w2 : IntKind.i64.wrap ((j : Int) + 1) = (j : Int) + 1 := wrap64 (by omega) (by omega)
    by_cases hjl : j < i
    case neg =>
      obtain rfl : j = i := by omega
      rw [Nat.sub_self] at hinv
      subst hinv
      simp [redL, bx]
    have hia : j < P.length := by omega
    have hib : j < R.length := by omega
    rw [show i - j = (i - (j + 1)) + 1 by omega, redL, getD_of hia, getD_of hib] at hinv
    obtain ⟨u, hu⟩ : ∃ u, P[j] = u := ⟨_, rfl⟩
    obtain ⟨v, hv⟩ : ∃ v, R[j] = v := ⟨_, rfl⟩
    rw [hu, hv] at hinv
    cases u with
    | false =>
      subst hinv
      simp [bx, hjl, bools_get, hia, hib, hu, lP]
    | true =>
      cases v with
      | false =>
        subst hinv
        simp [bx, hjl, bools_get, hia, hib, hu, hv, lP, lR]
      | true =>
        simp only [Bool.and_self, if_true] at hinv
        simp [bx, hjl, bools_get, hia, hib, hu, hv, lP, lR, w2]
        rw [rnd_nrm]
        exact ⟨j + 1, ⟨by omega, hinv⟩, by omega, by simp [bx], rfl⟩
  have ko := fun L H => ko L H (i : Int)
  have aN := aN i
  have aP := aP i
  have hO := fun k h => ofN_lt (ps := ps) (left := i) (m := ps.length) (k := k) h
  have hOl := ofN_len ps i ps.length
  generalize ofN ps i ps.length = o at ko aN aP hO hOl
  obtain ⟨fN, hfN⟩ : ∃ fN : Nat → Bool, fN = fun k => (ps.getD k ⟨0, []⟩).r.all (okS ⟨t, n, k1', ps⟩ false N) := ⟨_, rfl⟩
  obtain ⟨fP, hfP⟩ : ∃ fP : Nat → Bool, fP = fun k => (ps.getD k ⟨0, []⟩).r.all (okS ⟨t, n, k1', ps⟩ true P) := ⟨_, rfl⟩
  rw [← hfN] at aN
  rw [← hfP] at aP
  have hslv : slvN o = .e0 ∧ o = [] ∨ slvN o = .sl o.length (nts o) := by
    unfold slvN
    by_cases h : o = []
    · rw [if_pos h]; exact .inl ⟨rfl, h⟩
    · rw [if_neg h]; exact .inr rfl
  have iN : i < N.length := by omega
  have iP : i < P.length := by omega
  have iR : i < R.length := by omega
  rw [getD_of iN] at aN
  rw [getD_of iP] at aP
  have aL := aL i
  unfold tr at aL
  rw [getD_of iN, getD_of iP] at aL
  simp [bx, hil, ko]
  have done3 : ∀ E : Env, E = [(1, bx), (3, .sl n (bools N)), (4, .sl n (bools P)), (5, .sl n (bools R)), (6, I ((i : Int) + 1))] →
      ∃ i' : Nat, i' ≤ n ∧ n - i' < n - i ∧ E = [(1, bx), (3, .sl n (bools N)), (4, .sl n (bools P)), (5, .sl n (bools R)), (6, I i')] ∧ ([] : Heap) = [] := fun E hE => ⟨i + 1, by omega, by omega, by rw [hE]; simp, rfl⟩
  rcases hslv with ⟨hsl, ho⟩ | hsl
  · rw [hsl]
    subst ho
    have aN : N[i] = false := aN.symm
    have aP : P[i] = false := aP.symm
    simp
    refine wb_loop0 ?_
    unfold t5L2
    simp [hil, bools_get, iN, iP, aN, aP, lN, lP, w1]
    rw [rnd_nrm]
    refine done3 _ ?_
    simp [bx]
  rw [hsl]
  simp
  refine wb_loop (σ := Nat) (fun k => [(1, bx), (3, .sl n (bools N)), (4, .sl n (bools P)), (5, .sl n (bools R)), (6, I i), (7, Bo ((o.take k).any fN)), (8, Bo ((o.take k).any fP)), (9, .sl o.length (nts o)), (10, I k)]) (fun _ => [])
    (fun k => k ≤ o.length) (fun k => o.length - k) ?_ 0 (by simp) (by simp [bx]) rfl
  intro k hk
  unfold t5L2
  have w2 : IntKind.i64.wrap ((k : Int) + 1) = (k : Int) + 1 := wrap64 (by omega) (by omega)
  by_cases hkl : k < o.length
  case neg =>
    obtain rfl : k = o.length := by omega
    rw [List.take_of_length_le (Nat.le_refl _), aN, aP]
    obtain ⟨u, hu⟩ : ∃ u, N[i] = u := ⟨_, rfl⟩
    obtain ⟨v, hv⟩ : ∃ v, P[i] = v := ⟨_, rfl⟩
    rw [hu, hv] at aL
    cases u with
    | false =>
      cases v with
      | false =>
        simp [bx, hil, bools_get, iN, iP, hu, hv, lN, lP, w1]
        rw [rnd_nrm]
        refine done3 _ ?_
        simp [bx]
      | true =>
        simp [bx, hil, bools_get, iN, iP, hu, hv, lN, lP, w1]
        rw [rnd_nrm]
        refine done3 _ ?_
        simp [bx]
    | true =>
      have : v = true := aL rfl
      subst this
      simp [bx, hil, bools_get, iN, iP, hu, hv, lN, lP, w1]
      rw [rnd_nrm]
      refine done3 _ ?_
      simp [bx]
  have ⟨q1, q2⟩ := hO k hkl
  have tN := any_take fN o k hkl
  have tP := any_take fP o k hkl
  generalize hx : o[k] = x at q1 q2 tN tP
  have hgp : ps.getD x ⟨0, []⟩ = ps[x] := by rw [List.getD_eq_getElem?_getD, List.getElem?_eq_getElem q1]; rfl
  have hfNx : fN x = ps[x].r.all (okS ⟨t, n, k1', ps⟩ false N) := by rw [hfN]; simp only [hgp]
  have hfPx : fP x = ps[x].r.all (okS ⟨t, n, k1', ps⟩ true P) := by rw [hfP]; simp only [hgp]
  rw [hfNx] at tN
  rw [hfPx] at tP
  rw [hgp] at q2
  have pok := okp ps[x] (List.getElem_mem q1)
  have hcl := aC ps[x] (List.getElem_mem q1)
  have hpr := psC_r q1
  have hll := psC_len ps
  have h2 : x * 2 + 2 ≤ 2 * ps.length := by omega
  generalize ps[x] = p at q2 tN tP pok hcl hpr
  obtain ⟨pl, pr⟩ := p
  obtain ⟨b1, b2, b3, b4⟩ := pok
  simp only at b1 b2 b3 b4 q2 hcl tN tP hpr
  have kN := fun L => kh L [] pr b1 b4 false N lN (.sl n (bools N)) (.inl rfl)
  have kP := fun L => kh L [] pr b1 b4 true P lP (.sl n (bools P)) (.inl rfl)
  generalize pr.all (okS ⟨t, n, k1', ps⟩ false N) = cN at tN kN
  generalize pr.all (okS ⟨t, n, k1', ps⟩ true P) = cP at tP kP
  have done2 : ∀ E : Env, E = [(1, bx), (3, .sl n (bools N)), (4, .sl n (bools P)), (5, .sl n (bools R)), (6, I i), (7, Bo ((o.take k).any fN || cN)), (8, Bo ((o.take k).any fP || cP)), (9, .sl o.length (nts o)), (10, I ((k : Int) + 1))] →
      ∃ k' : Nat, k' ≤ o.length ∧ o.length - k' < o.length - k ∧ E = [(1, bx), (3, .sl n (bools N)), (4, .sl n (bools P)), (5, .sl n (bools R)), (6, I i), (7, Bo ((o.take k').any fN)), (8, Bo ((o.take k').any fP)), (9, .sl o.length (nts o)), (10, I k')] ∧ ([] : Heap) = [] := fun E hE => ⟨k + 1, by omega, by omega, by rw [hE, tN, tP]; simp, rfl⟩
  generalize (o.take k).any fN = dN at done2 ⊢
  generalize (o.take k).any fP = dP at done2 ⊢
  have hcl2 : tr R i → ∀ s ∈ pr, ¬ s < t → tr R (s - t).toNat := fun h => hcl (by rw [q2, Int.toNat_natCast]; exact h)
  cases dN <;> cases dP
  · simp [bx, hkl, hx, nts_get, q1, hll, h2, hpr, kN, kP]
    refine c5L1 (ps := ps) (k' := k1') (N := N) (P := P) (u := cN) (v := cP) (o := o) (k := k) t1 t2 n2 hil lR b1 b4 hcl2 (by simp) (fun env' hE' => ?_)
    rw [blk_exit, if_pos rfl, blk_nrm, fol_nrm, wb_regN, hE']
    simp [w2]
    rw [rnd_nrm]
    refine done2 _ ?_
    simp [bx]
  · simp [bx, hkl, hx, nts_get, q1, hll, h2, hpr, kN, kP]
    refine c5L1 (ps := ps) (k' := k1') (N := N) (P := P) (u := cN) (v := true) (o := o) (k := k) t1 t2 n2 hil lR b1 b4 hcl2 (by simp) (fun env' hE' => ?_)
    rw [blk_exit, if_pos rfl, blk_nrm, fol_nrm, wb_regN, hE']
    simp [w2]
    rw [rnd_nrm]
    refine done2 _ ?_
    simp [bx]
  · simp [bx, hkl, hx, nts_get, q1, hll, h2, hpr, kN, kP]
    refine c5L1 (ps := ps) (k' := k1') (N := N) (P := P) (u := true) (v := cP) (o := o) (k := k) t1 t2 n2 hil lR b1 b4 hcl2 (by simp) (fun env' hE' => ?_)
    rw [blk_exit, if_pos rfl, blk_nrm, fol_nrm, wb_regN, hE']
    simp [w2]
    rw [rnd_nrm]
    refine done2 _ ?_
    simp [bx]
  · simp [bx, hkl, hx, nts_get, q1, hll, h2, hpr, kN, kP]
    refine c5L1 (ps := ps) (k' := k1') (N := N) (P := P) (u := true) (v := true) (o := o) (k := k) t1 t2 n2 hil lR b1 b4 hcl2 (by simp) (fun env' hE' => ?_)
    rw [blk_exit, if_pos rfl, blk_nrm, fol_nrm, wb_regN, hE']
    simp [w2]
    rw [rnd_nrm]
    refine done2 _ ?_
    simp [bx]
end Go.Proofs.Ytikedgpcgacgoaa
