import Derived.Test.YtdbbaopgmapmaaaRc
set_option linter.unusedSimpArgs false
set_option linter.unusedVariables false
namespace Go.Proofs.Ytdbbaopgmapmaaa
open Go Go.Hm
/-! ### The document's least table: the walk -/
set_option maxRecDepth 20000 in
theorem rleast_code {lk lim : Nat} {H : Heap} (nx rl : List Int) (hc : chk nx rl = true) (hlk : lk ≤ H.length) :
    callW X A lk lim 22 [.agg (Dv nx rl)] H = some (.tup [.agg (Dv (lN nx rl) (lR nx rl)), I 0], H) := by
  obtain ⟨ok, m1, _⟩ := chk_ok hc
  have hlen := ok.len
  obtain ⟨heq1, heq2⟩ := leastR_eq hc
  rw [← heq1, ← heq2]
  clear heq1 heq2
  have kc := fun (L : Nat) => check_code (lk := lk) (lim := L) (H := H) nx rl (by omega) (by omega)
  rw [chkE_pos hc] at kc
  have kp := fun (L : Nat) => rparts_code (lk := lk) (lim := L) (H := H) nx rl ok m1 hlk
  have hpl : (partR nx rl).length = rl.length + 1 := partR_len nx rl
  have kt := fun (K L : Nat) (G : Heap) (c : Nat) (h : c < 256) (q : Nat) (hq : q < rl.length) => to2_code (lk := K) (lim := L) (H := G) nx rl ok q ⟨by omega, by omega⟩ c h
  have cl := Cl.ref ok (partR_ok ok)
  refine wb_callB [1, 2, 10] rfl A22 rfl rfl ?_
  unfold t22B
  obtain ⟨pt, hpt⟩ : ∃ pt, partR nx rl = pt := ⟨_, rfl⟩
  rw [hpt] at kp hpl cl ⊢
  obtain ⟨dead, hdead⟩ : ∃ d, deadR pt rl.length = d := ⟨_, rfl⟩
  obtain ⟨cls, hcls⟩ : ∃ d, getR pt rl.length = d := ⟨_, rfl⟩
  obtain ⟨res, hres⟩ : ∃ res, leastR nx rl pt = res := ⟨_, rfl⟩
  have hres2 : leX dead cls nx (rl.length + 1) [0] [] 0 = res := by rw [← hdead, ← hcls]; exact hres
  rw [hres]
  rw [hdead, hcls] at cl
  have hdd : ∀ t, dead t = decide (cls t = cls (-1)) := fun t => by rw [← hdead, ← hcls]; rfl
  have hget : ∀ (t : Int) (h : InS rl t), pt[(ixI rl.length t).toNat]'(getR_ge hpl h) = cls t := fun t h => by rw [getR_get hpl h, hcls]
  generalize hC : callW X A = C at kc kp kt ⊢
  have o1 := ok.one
  have hpos : 0 < rl.length := by omega
  have hpos2 : 0 < pt.length := by omega
  have hpos3 : rl.length < pt.length := by omega
  have hn1 : (rl.length : Int) < (rl.length : Int) + 1 := by omega
  have hn2 : (0 : Int) < (rl.length : Int) + 1 := by omega
  obtain ⟨nn, hnn⟩ : ∃ x, cls (-1) = x := ⟨_, rfl⟩
  have hge : pt[rl.length] = nn := by
    have h : InS rl (-1) := ⟨by omega, by omega⟩
    have := hget (-1) h
    have e : (ixI rl.length (-1)).toNat = rl.length := by unfold ixI; rw [if_pos (by omega)]; omega
    simp only [e] at this
    rw [this, hnn]
  obtain ⟨p0, hp0⟩ : ∃ p0, pt[0] = p0 := ⟨_, rfl⟩
  have hc0 : cls 0 = p0 := by
    have h : InS rl 0 := ⟨by omega, by omega⟩
    have := hget 0 h
    have e : (ixI rl.length 0).toNat = 0 := by unfold ixI; rw [if_neg (by omega)]; rfl
    simp only [e] at this
    rw [← this, hp0]
  let bx : AV := .box (Dv nx rl)
  simp [-wb_regN, -wb_regD]
  rw [wb_regN]
  simp [-wb_regN, -wb_regD]
  rw [wb_regN]
  simp [-wb_regN, -wb_regD, kc]
  rw [wb_regN]
  simp [-wb_regN, -wb_regD]
  rw [wb_regD rfl]
  simp [-wb_regN, -wb_regD, kp]
  rw [wb_regN]
  simp [-wb_regN, -wb_regD, hpos3, hge, hn1]
  rw [wb_regN]
  simp [-wb_regN, -wb_regD, replaceAt]
  rw [wb_regN]
  have hms : mset false [1] (I p0) (I 0) [] = some (kEntI [p0] 0) := rfl
  have hko := keyOk_i p0
  have hL0 : H ++ [HB.cells [I 0], HB.map (kEntI [p0] 0)] = LH H [p0] [0] [] [] := by unfold LH oneB; simp [ints]
  have hlk1 : lk ≤ H.length + 1 := by omega
  simp [-wb_regN, -wb_regD, -wi_mup, hpos2, hp0, hn2]
  rw [wi_mup]
  simp [-wb_regN, -wb_regD, -wi_mup, Hm.get_at, Hm.set_at, hko, hms, hlk1, hL0]
  rw [wb_regN]
  simp [-wb_regN, -wb_regD, -wi_stL, replaceAt]
  rw [wi_stL]
  simp [-wb_regN, -wb_regD, -wi_stL, replaceAt]
  rw [wb_regN]
  simp [-wb_regN, -wb_regD]
  have hs0 : SOk cls rl.length [0] := ⟨fun q hq => by obtain rfl := List.mem_singleton.1 hq; omega, by simp⟩
  have hK0 : [p0] = [(0 : Int)].map cls := by simp [hc0]
  rw [hK0]
  refine wb_loop (σ := List Int × List Int × Nat × Nat) (fun s => [(1, bx), (2, .box [.e0, .e0]), (5, .sl (rl.length + 1) (ints pt)), (7, I nn), (8, .hs H.length s.1.length 0 s.1.length 1), (9, .mp (H.length + 1)), (10, .box [rV (H.length + 3) s.2.1, rV (H.length + 2) (ruleL rl (s.1.take s.2.2.1))]), (11, I s.2.2.1)])
    (fun s => LH H (s.1.map cls) s.1 (ruleL rl (s.1.take s.2.2.1)) s.2.1)
    (fun s => SOk cls rl.length s.1 ∧ 0 < s.1.length ∧ s.2.2.1 ≤ s.1.length ∧ s.2.1.length = 256 * s.2.2.1 ∧ leX dead cls nx s.2.2.2 s.1 s.2.1 s.2.2.1 = res ∧ rl.length + 1 ≤ s.2.2.2 + s.2.2.1) (fun s => s.2.2.2)
    ?_ ([0], [], 0, rl.length + 1) ⟨hs0, by simp, by simp, by simp, hres2, by simp⟩ (by simp [bx, ruleL, rV]) (by simp [ruleL])
  rintro ⟨Q, N, i, fu⟩ ⟨hs, hQ0, hi, hN, hx, hfu⟩
  simp only at hs hQ0 hi hN hx hfu
  unfold t22L2
  have hQl := hs.len
  have g0 := LH_0 H (Q.map cls) Q (ruleL rl (Q.take i)) N
  by_cases hil : i < Q.length
  case neg =>
    obtain rfl : i = Q.length := by omega
    rw [leX_done] at hx
    subst hx
    have hRl : (ruleL rl Q).length = Q.length := by simp [ruleL]
    have hNe : N ≠ [] := fun e => by rw [e] at hN; simp at hN; omega
    have hRe : ruleL rl Q ≠ [] := fun e => by rw [e] at hRl; simp at hRl; omega
    have g2 := LH_2 H (Q.map cls) Q N hRe
    have g3 := LH_3 H (Q.map cls) Q hRe hNe
    have htk := LH_take H (Q.map cls) Q (ruleL rl Q) N
    have n2 : ¬ H.length + 2 < H.length := by omega
    have n3 : ¬ H.length + 3 < H.length := by omega
    simp [bx, replaceAt, rV, hNe, hRe, g2, g3, htk, n2, n3]
  obtain ⟨q, hq⟩ : ∃ q, Q[i] = q := ⟨_, rfl⟩
  have hqQ : Q[i]? = some q := by rw [List.getElem?_eq_getElem hil, hq]
  have hqb := hs.bd q (hq ▸ List.getElem_mem hil)
  obtain ⟨q, rfl⟩ := Int.eq_ofNat_of_zero_le hqb.1
  have hqn : q < rl.length := by omega
  obtain ⟨r, hr⟩ : ∃ r, rl[q] = r := ⟨_, rfl⟩
  have hRn := ruleL_take rl Q i q hqQ
  rw [Int.toNat_natCast, List.getD_eq_getElem?_getD, List.getElem?_eq_getElem hqn, hr] at hRn
  simp only [Option.getD_some] at hRn
  have hw : IntKind.i64.wrap ((i : Int) + 1) = (i : Int) + 1 := wrap64 (by omega) (by omega)
  simp [-wb_regN, -wb_regD, bx, hil]
  rw [wb_regN]
  simp [-wb_regN, -wb_regD, hil]
  rw [wb_regD rfl]
  obtain ⟨v1, v2, v3⟩ := one_rV (H.length + 2) (ruleL rl (Q.take i))
  obtain ⟨u1, u2, u3⟩ := one_rV (H.length + 3) N
  have hRl : (ruleL rl (Q.take i)).length = i := by simp [ruleL]; omega
  have hRN : ruleL rl (Q.take i) = [] → N = [] := fun e => by
    rw [e] at hRl
    simp at hRl
    exact List.eq_nil_of_length_eq_zero (by omega)
  simp [-wb_regN, -wb_regD, -wi_appD, -wi_stLD, replaceAt, hil, g0, hq, hr, hqn, ↓v1, ↓v2, ↓v3]
  rw [wi_appD, app_R (v := r) (ev_rV rfl) rfl hRN hlk (by omega)]
  obtain ⟨R, hRd⟩ : ∃ R, ruleL rl (Q.take i) = R := ⟨_, rfl⟩
  rw [hRd] at hRl hRn hRN v1 v2 v3 g0 ⊢
  simp [-wb_regN, -wb_regD, -wi_appD, -wi_stLD, noRp, noRp_rV, rV_app]
  rw [wi_stLD]
  simp [-wb_regN, -wb_regD, -wi_appD, -wi_stLD, replaceAt]
  rw [wb_regN]
  simp [-wb_regN, -wb_regD]
  have hRq : ruleL rl (Q.take (i + 1)) = R ++ [r] := by rw [hRn]
  obtain ⟨fu, rfl⟩ : ∃ g, fu = g + 1 := ⟨fu - 1, by omega⟩
  simp only [leX, hqQ, Int.toNat_natCast] at hx
  have hrl2 : (rowV nx q).length = 256 := rowV_len ok.len hqn
  have hR1 : R ++ [r] ≠ [] := by simp
  have htb : ∀ t ∈ rowV nx q, -1 ≤ t ∧ t < rl.length := fun t ht => ok.nxb t (List.mem_of_mem_drop (List.mem_of_mem_take ht))
  have hdt : ∀ t ∈ rowV nx q, dead t = false → 0 ≤ t ∧ t < rl.length := fun t ht hd => by
    have h2 := htb t ht
    refine ⟨?_, h2.2⟩
    by_cases e : t = -1
    · rw [e, hdd, decide_eq_true rfl] at hd; cases hd
    · omega
  have hsB : ∀ b, SOk cls rl.length (((rowV nx q).take b).foldl (leS dead cls) (Q, N)).1 := fun b => fold_SOk _ hs (fun t ht => hdt t (List.mem_of_mem_take ht))
  have hmB : ∀ b, (((rowV nx q).take b).foldl (leS dead cls) (Q, N)).1[i]? = some (q : Int) := fun b => fold_mono _ hqQ
  have hlB : ∀ b, b ≤ 256 → (((rowV nx q).take b).foldl (leS dead cls) (Q, N)).2.length = 256 * i + b := fun b hb => by rw [fold_len, List.length_take, hrl2]; simp only; omega
  have ixq : ixI rl.length (q : Int) = q := by unfold ixI; rw [if_neg (by omega)]
  refine wb_loop (σ := List Int × List Int × Nat) (fun s => [(1, bx), (2, .box [.e0, .e0]), (5, .sl (rl.length + 1) (ints pt)), (7, I nn), (8, .hs H.length s.1.length 0 s.1.length 1), (9, .mp (H.length + 1)), (10, .box [rV (H.length + 3) s.2.1, .hs (H.length + 2) (R.length + 1) 0 (R.length + 1) 1]), (11, I i), (12, I s.2.2)])
    (fun s => LH H (s.1.map cls) s.1 (R ++ [r]) s.2.1)
    (fun s => s.2.2 ≤ 256 ∧ (s.1, s.2.1) = ((rowV nx q).take s.2.2).foldl (leS dead cls) (Q, N)) (fun s => 256 - s.2.2)
    ?_ (Q, N, 0) ⟨by simp, rfl⟩ (by simp [bx]) rfl
  rintro ⟨Q2, N2, b⟩ ⟨hb, hst⟩
  simp only at hb hst
  have hs2 := hsB b
  have hm2 := hmB b
  have hl2 := hlB b hb
  rw [← hst] at hs2 hm2 hl2
  simp only at hs2 hm2 hl2
  have hQ2l := hs2.len
  unfold t22L1
  have hwb : IntKind.i64.wrap ((b : Int) + 1) = (b : Int) + 1 := wrap64 (by omega) (by omega)
  have hiQ2 := lt_of_get hm2
  by_cases hbl : b < 256
  case neg =>
    obtain rfl : b = 256 := by omega
    rw [List.take_of_length_le (by omega)] at hst
    rw [← hst] at hx
    simp [hw]
    rw [rnd_nrm]
    have hR2 : ruleL rl (Q2.take (i + 1)) = R ++ [r] := by
      rw [← hRq]
      have hpre : ∀ j, j < i + 1 → Q2[j]? = Q[j]? := fun j hj => by
        have h1 := fold_mono (dead := dead) (cls := cls) (rowV nx q) (s := (Q, N)) (i := j) (List.getElem?_eq_getElem (by omega : j < Q.length))
        rw [← hst] at h1
        rw [h1, List.getElem?_eq_getElem (by omega)]
      have : Q2.take (i + 1) = Q.take (i + 1) := by
        refine List.ext_getElem? fun j => ?_
        by_cases hj : j < i + 1
        · rw [List.getElem?_take_of_lt hj, List.getElem?_take_of_lt hj, hpre j hj]
        · rw [List.getElem?_eq_none (by simp; omega), List.getElem?_eq_none (by simp; omega)]
      rw [this]
    exact ⟨(Q2, N2, i + 1, fu), ⟨hs2, by simp only; omega, hiQ2, by simp only; omega, hx, by simp only; omega⟩, by simp only; omega, by simp [bx, hR2, rV_app], by simp only [hR2]⟩
  obtain ⟨t, ht⟩ : ∃ t, (rowV nx q)[b]'(by omega) = t := ⟨_, rfl⟩
  have htm : t ∈ rowV nx q := ht ▸ List.getElem_mem (by omega)
  have htt := htb t htm
  have htin : InS rl t := htt
  have htv : toV nx q b = t := by
    have := rowV_get ok hqn hbl
    rw [List.getElem?_eq_getElem (by omega), ht] at this
    exact (Option.some.inj this).symm
  have hb1 : b + 1 ≤ 256 := hbl
  have hbI : (b : Int) < 256 := by omega
  have hnext : ((rowV nx q).take (b + 1)).foldl (leS dead cls) (Q, N) = leS dead cls (Q2, N2) t := by
    rw [List.take_succ_eq_append_getElem (by omega), List.foldl_append, ← hst, ht]; rfl
  obtain ⟨u1, u2, u3⟩ := one_rV (H.length + 3) N2
  have gQ := LH_0 H (Q2.map cls) Q2 (R ++ [r]) N2
  have hq2 : Q2[i] = (q : Int) := by rw [List.getElem?_eq_getElem hiQ2] at hm2; exact Option.some.inj hm2
  have kt1 := fun K L G => kt K L G b hbl q hqn
  rw [ixq, htv] at kt1
  have jb := ixI_b htin
  have jl := getR_ge hpl htin
  have jv := hget t htin
  have jI : ixI rl.length t < (rl.length : Int) + 1 := by omega
  obtain ⟨x, hxe⟩ : ∃ x, cls t = x := ⟨_, rfl⟩
  rw [hxe] at jv
  simp [-wb_regN, -wb_regD, -wb_true, -wb_false]
  rw [wb_regN]
  simp [-wb_regN, -wb_regD, -wb_true, -wb_false, hbl, hbI]
  rw [wb_true rfl, wb_skip]
  simp [-wb_regN, -wb_regD, -wb_true, -wb_false, bx]
  rw [wb_regD rfl]
  simp [-wb_regN, -wb_regD, -wb_true, -wb_false, gQ, hiQ2, hq2, kt1]
  rw [wb_regN]
  simp [-wb_regN, -wb_regD, -wb_true, -wb_false, jb.1, jI, jl, jv]
  have hdx : dead t = decide (x = nn) := by rw [hdd, hxe, hnn]
  by_cases hxn : x = nn
  · have hd : dead t = true := by rw [hdx]; exact decide_eq_true hxn
    have hN1 : leS dead cls (Q2, N2) t = (Q2, N2 ++ [-1]) := by unfold leS; rw [hd, if_pos rfl]
    rw [hN1] at hnext
    have hxb : (x == nn) = true := by rw [beq_iff_eq]; exact hxn
    rw [wb_true (by rw [show (ev _ (AO.tmp 73)) = Bo (x == nn) from rfl, hxb])]
    simp [-wb_regN, -wb_regD]
    rw [wb_regN]
    simp [-wb_regN, -wb_regD, -wi_app, -wi_stL, ↓u1, ↓u2, ↓u3]
    rw [wi_app, app_N (v := -1) (ev_rV rfl) rfl hR1 hlk (by omega)]
    simp [-wb_regN, -wb_regD, -wi_app, -wi_stL, noRp, noRp_rV, rV_app]
    rw [wi_stL]
    simp [-wb_regN, -wb_regD, -wi_app, -wi_stL, replaceAt]
    rw [wb_regN]
    simp [-wb_regN, -wb_regD, -wi_app, -wi_stL, hwb]
    rw [rnd_nrm]
    exact ⟨(Q2, N2 ++ [-1], b + 1), ⟨hb1, hnext.symm⟩, by simp only; omega, by simp [bx, rV_app], rfl⟩
  · have hd : dead t = false := by rw [hdx]; exact decide_eq_false hxn
    have hxb : (x == nn) = false := by rw [beq_eq_false_iff_ne]; exact hxn
    have t0 := (hdt t htm hd).1
    have ixt : ixI rl.length t = t := by unfold ixI; rw [if_neg (by omega)]
    have hmg := mget_i x (Q2.map cls) 0
    have hmo : mapOf (LH H (Q2.map cls) Q2 (R ++ [r]) N2) (.mp (H.length + 1)) = some (kEntI (Q2.map cls) 0) := by simp only [mapOf, LH_1]
    have hko := keyOk_i x
    rw [wb_false (by rw [show (ev _ (AO.tmp 73)) = Bo (x == nn) from rfl, hxb]), wb_skip]
    simp [-wb_regN, -wb_regD, -wb_true, -wb_false]
    rw [wb_regN]
    cases hix : idxV x (Q2.map cls) 0 with
    | some k =>
      rw [hix] at hmg
      simp only [Option.map] at hmg
      have hN1 : leS dead cls (Q2, N2) t = (Q2, N2 ++ [(k : Int)]) := by
        unfold leS; rw [hd, if_neg (by simp), hxe]; simp only [hix]
      rw [hN1] at hnext
      simp [-wb_regN, -wb_regD, -wb_true, -wb_false, jb.1, jI, jl, jv, hmo, hmg, hko]
      rw [wb_regN]
      simp [-wb_regN, -wb_regD]
      rw [wb_regN]
      simp [-wb_regN, -wb_regD, -wi_app, -wi_stL, ↓u1, ↓u2, ↓u3]
      rw [wi_app, app_N (v := k) (ev_rV rfl) rfl hR1 hlk (by omega)]
      simp [-wb_regN, -wb_regD, -wi_app, -wi_stL, noRp, noRp_rV, rV_app]
      rw [wi_stL]
      simp [-wb_regN, -wb_regD, -wi_app, -wi_stL, replaceAt]
      rw [wb_regN]
      simp [-wb_regN, -wb_regD, -wi_app, -wi_stL, hwb]
      rw [rnd_nrm]
      exact ⟨(Q2, N2 ++ [(k : Int)], b + 1), ⟨hb1, hnext.symm⟩, by simp only; omega, by simp [bx, rV_app], rfl⟩
    | none =>
      rw [hix] at hmg
      simp only [Option.map] at hmg
      have hN1 : leS dead cls (Q2, N2) t = (Q2 ++ [t], N2 ++ [(Q2.length : Int)]) := by
        unfold leS; rw [hd, if_neg (by simp), hxe]; simp only [hix]
      rw [hN1] at hnext
      have hms := mset_i x (Q2.map cls) 0 hix
      rw [Nat.zero_add, List.length_map] at hms
      have hK2 : Q2.map cls ++ [x] = (Q2 ++ [t]).map cls := by rw [List.map_append, List.map_cons, List.map_nil, hxe]
      have hst2 := LH_st H (Q2.map cls) Q2 (R ++ [r]) N2 t
      have g1 := LH_1 H (Q2.map cls) (Q2 ++ [t]) (R ++ [r]) N2
      have hmp := LH_map H (Q2.map cls) (Q2.map cls ++ [x]) (Q2 ++ [t]) (R ++ [r]) N2
      have hro : (Q2.length + 1) * 8 ≤ room := by unfold room; omega
      simp [-wb_regN, -wb_regD, -wb_true, -wb_false, jb.1, jI, jl, jv, hmo, hmg, hko]
      rw [wb_regN]
      simp [-wb_regN, -wb_regD]
      rw [wb_regN]
      simp [-wb_regN, -wb_regD]
      rw [wb_regN]
      simp [-wb_regN, -wb_regD, -wi_app, ixt]
      rw [wi_app]
      simp [-wb_regN, -wb_regD, -wi_app, srcCells, gQ, hro, setH, hlk, hst2]
      rw [wb_regN]
      have jb' := jb.1
      have jI' := jI
      have jl' := jl
      have jv' := jv
      simp only [ixt] at jb' jI' jl' jv'
      simp [-wb_regN, -wb_regD, jb', jI', jl', jv', hko, hms, g1, hlk1, hmp]
      rw [wb_regN]
      simp [-wb_regN, -wb_regD, -wi_app, -wi_stL, ↓u1, ↓u2, ↓u3]
      rw [wi_app, app_N (v := Q2.length) (ev_rV rfl) rfl hR1 hlk (by omega)]
      simp [-wb_regN, -wb_regD, -wi_app, -wi_stL, noRp, noRp_rV, rV_app]
      rw [wi_stL]
      simp [-wb_regN, -wb_regD, -wi_app, -wi_stL, replaceAt]
      rw [wb_regN]
      simp [-wb_regN, -wb_regD, -wi_app, -wi_stL, hwb]
      rw [rnd_nrm]
      exact ⟨(Q2 ++ [t], N2 ++ [(Q2.length : Int)], b + 1), ⟨hb1, hnext.symm⟩, by simp only; omega, by simp [bx, rV_app], by rw [← hK2]⟩
end Go.Proofs.Ytdbbaopgmapmaaa
