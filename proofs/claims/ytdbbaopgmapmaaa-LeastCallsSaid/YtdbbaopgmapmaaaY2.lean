import Derived.Test.YtdbbaopgmapmaaaY1
set_option linter.unusedSimpArgs false
set_option linter.unusedVariables false
namespace Go.Proofs.Ytdbbaopgmapmaaa
open Go Go.Hm
/-! ### The least table of the program -/
def ptV (pt : List Int) (t : Int) : Int := pt.getD t.toNat 0
theorem partG_len (nx : List Int) : ∀ (f : Nat) (p : List Int) (n : Int), (partG nx f p n).length = p.length
  | 0, _, _ => rfl
  | f + 1, p, n => by
    have h := (roundK_len nx p p.length).1
    simp only [partG]
    split
    · exact h
    · rw [partG_len nx f]; exact h
theorem partM_len (nx rl : List Int) : (partM nx rl).length = rl.length := by
  unfold partM; rw [partG_len, P0_len]
def deadP (pt : List Int) (t : Int) : Bool := decide (t < 0) || decide (ptV pt t < 0)
def leastM (nx rl pt : List Int) : List Int × List Int := leX (deadP pt) (ptV pt) nx (rl.length + 1) [0] [] 0
theorem ptV_of {pt : List Int} {t : Nat} (h : t < pt.length) : ptV pt t = pt[t] := by
  unfold ptV
  rw [Int.toNat_natCast, List.getD_eq_getElem?_getD, List.getElem?_eq_getElem h]; rfl
theorem ruleL_take (rl Q : List Int) (i : Nat) (q : Int) (h : Q[i]? = some q) : ruleL rl (Q.take (i + 1)) = ruleL rl (Q.take i) ++ [rl.getD q.toNat 0] := by
  have hl := lt_of_get h
  rw [List.getElem?_eq_getElem hl] at h
  rw [List.take_succ_eq_append_getElem hl]
  unfold ruleL
  rw [List.map_append, Option.some.inj h]; rfl
theorem fold_SOk {dead : Int → Bool} {cls : Int → Int} {n : Nat} : ∀ (l : List Int) {s : List Int × List Int}, SOk cls n s.1 → (∀ t ∈ l, dead t = false → 0 ≤ t ∧ t < n) → SOk cls n (l.foldl (leS dead cls) s).1
  | [], _, h, _ => h
  | t :: l, s, h, hl => by
    rw [List.foldl_cons]
    exact fold_SOk l (h.step (hl t (List.mem_cons_self ..))) (fun u hu => hl u (List.mem_cons_of_mem _ hu))
theorem fold_mono {dead : Int → Bool} {cls : Int → Int} : ∀ (l : List Int) {s : List Int × List Int} {i : Nat} {q : Int}, s.1[i]? = some q → (l.foldl (leS dead cls) s).1[i]? = some q
  | [], _, _, _, h => h
  | t :: l, s, i, q, h => by
    rw [List.foldl_cons]
    exact fold_mono l (leS_mono h)
theorem fold_len (dead : Int → Bool) (cls : Int → Int) : ∀ (l : List Int) (s : List Int × List Int), (l.foldl (leS dead cls) s).2.length = s.2.length + l.length
  | [], _ => rfl
  | t :: l, s => by
    rw [List.foldl_cons, fold_len dead cls l, leS_len, List.length_cons]; omega
theorem getI {l : List Int} {i : Nat} {q : Int} (h : l[i]? = some q) : (ints l)[i]? = some (I q) := by rw [ints_get, h]; rfl
theorem get_of {l : List Int} {i : Nat} {q : Int} (h : l[i]? = some q) : ∃ hl : i < l.length, l[i] = q := by
  have hl := lt_of_get h
  rw [List.getElem?_eq_getElem hl] at h
  exact ⟨hl, Option.some.inj h⟩
theorem leX_done (dead : Int → Bool) (cls : Int → Int) (nx Q N : List Int) (f : Nat) : leX dead cls nx f Q N Q.length = (Q, N) := by
  cases f with
  | zero => rfl
  | succ f => simp only [leX]; rw [List.getElem?_eq_none (Nat.le_refl _)]
set_option maxRecDepth 20000 in
theorem least_code {lk lim : Nat} {H : Heap} (nx rl : List Int) (hc : chk nx rl = true) (hlk : lk ≤ H.length) :
    callW X A lk lim 12 [.agg (Dv nx rl)] H = some (.tup [.agg (Dv (leastM nx rl (partM nx rl)).2 (ruleL rl (leastM nx rl (partM nx rl)).1)), I 0], H) := by
  obtain ⟨ok, m1, _⟩ := chk_ok hc
  have hlen := ok.len
  have kc := fun (L : Nat) => dcheck_code (lk := lk) (lim := L) (H := H) nx rl (by omega) (by omega)
  rw [chkE_pos hc] at kc
  have kp := fun (L : Nat) => parts_code (lk := lk) (lim := L) (H := H) nx rl (by omega) (by omega) hlk hc
  have hpl : (partM nx rl).length = rl.length := partM_len nx rl
  refine wb_callB [1, 2, 8] rfl A12 rfl rfl ?_
  unfold t12B
  obtain ⟨pt, hpt⟩ : ∃ pt, partM nx rl = pt := ⟨_, rfl⟩
  rw [hpt] at kp hpl ⊢
  obtain ⟨res, hres⟩ : ∃ res, leastM nx rl pt = res := ⟨_, rfl⟩
  have hres2 : leX (deadP pt) (ptV pt) nx (rl.length + 1) [0] [] 0 = res := hres
  rw [hres]
  generalize hC : callW X A = C at kc kp ⊢
  have o1 := ok.one
  obtain ⟨p0, hp0⟩ : ∃ p0, pt[0]? = some p0 := ⟨pt[0]'(by omega), List.getElem?_eq_getElem (by omega)⟩
  have hp0' := getI hp0
  obtain ⟨_, hpe⟩ := get_of hp0
  have hpos : 0 < rl.length := by omega
  have hpos2 : 0 < pt.length := by omega
  let bx : AV := .box (Dv nx rl)
  simp [-wb_regN, -wb_regD]
  rw [wb_regN]
  simp [-wb_regN, -wb_regD]
  rw [wb_regN]
  simp [-wb_regN, -wb_regD, kc]
  rw [wb_regN]
  simp [-wb_regN, -wb_regD]
  rw [wb_regN]
  simp [-wb_regN, -wb_regD, kp]
  have hms : mset false [1] (I p0) (I 0) [] = some (kEntI [p0] 0) := rfl
  have hko := keyOk_i p0
  have hL0 : H ++ [.cells [I 0], .map (kEntI [p0] 0)] = LH H [p0] [0] [] [] := by unfold LH oneB; simp [ints]
  have htk0 : (H ++ [HB.cells [I 0], HB.map []]).take H.length = H := by simp
  have hlk1 : lk ≤ H.length + 1 := by omega
  refine wb_regM rfl (by decide) (inv_cons2 rfl (inv_cons2 rfl (inv_cons2 rfl (inv_nil _)))) ?_
  simp [-wb_regN, WRM, WGM, WIM, cls, rpOp, isRp, hpl, hpos, hpos2, hpe, WMakeM, Hm.get_at, Hm.set_at, Hm.set_at0, replaceAt, hko, hms, hlk1, hL0]
  rw [wb_regN]
  simp [-wb_regN]
  rw [wb_regN]
  simp [-wb_regN]
  have hs0 : SOk (ptV pt) rl.length [0] := ⟨fun q hq => by obtain rfl := List.mem_singleton.1 hq; omega, by simp⟩
  have hK0 : [p0] = [(0 : Int)].map (ptV pt) := by
    have : ptV pt ((0 : Nat) : Int) = pt[0] := ptV_of hpos2
    simp only [List.map_cons, List.map_nil]
    rw [show (0 : Int) = ((0 : Nat) : Int) from rfl, this, hpe]
  rw [hK0]
  refine wb_loop (σ := List Int × List Int × Nat × Nat) (fun s => [(1, bx), (2, .box [.e0, .e0]), (5, .sl rl.length (ints pt)), (6, .hs H.length s.1.length 0 s.1.length 1), (7, .mp (H.length + 1)), (8, .box [rV (H.length + 3) s.2.1, rV (H.length + 2) (ruleL rl (s.1.take s.2.2.1))]), (9, I s.2.2.1)])
    (fun s => LH H (s.1.map (ptV pt)) s.1 (ruleL rl (s.1.take s.2.2.1)) s.2.1)
    (fun s => SOk (ptV pt) rl.length s.1 ∧ 0 < s.1.length ∧ s.2.2.1 ≤ s.1.length ∧ s.2.1.length = 256 * s.2.2.1 ∧ leX (deadP pt) (ptV pt) nx s.2.2.2 s.1 s.2.1 s.2.2.1 = res ∧ rl.length + 1 ≤ s.2.2.2 + s.2.2.1) (fun s => s.2.2.2)
    ?_ ([0], [], 0, rl.length + 1) ⟨hs0, by simp, by simp, by simp, hres2, by simp⟩ (by simp [bx, ruleL, rV]) (by simp [ruleL])
  rintro ⟨Q, N, i, fu⟩ ⟨hs, hQ0, hi, hN, hx, hfu⟩
  simp only at hs hQ0 hi hN hx hfu
  unfold t12L2
  have hQl := hs.len
  have g0 := LH_0 H (Q.map (ptV pt)) Q (ruleL rl (Q.take i)) N
  by_cases hil : i < Q.length
  case neg =>
    obtain rfl : i = Q.length := by omega
    rw [leX_done] at hx
    subst hx
    have hRl : (ruleL rl Q).length = Q.length := by simp [ruleL]
    have hNe : N ≠ [] := fun e => by rw [e] at hN; simp at hN; omega
    have hRe : ruleL rl Q ≠ [] := fun e => by rw [e] at hRl; simp at hRl; omega
    have g2 := LH_2 H (Q.map (ptV pt)) Q N hRe
    have g3 := LH_3 H (Q.map (ptV pt)) Q hRe hNe
    have htk := LH_take H (Q.map (ptV pt)) Q (ruleL rl Q) N
    have n2 : ¬ H.length + 2 < H.length := by omega
    have n3 : ¬ H.length + 3 < H.length := by omega
    simp [bx, replaceAt, rV, hNe, hRe, g2, g3, htk, n2, n3]
  obtain ⟨q, hq⟩ : ∃ q, Q[i] = q := ⟨_, rfl⟩
  have hqQ : Q[i]? = some q := by rw [List.getElem?_eq_getElem hil, hq]
  have hqb := hs.bd q (hq ▸ List.getElem_mem hil)
  obtain ⟨q, rfl⟩ := Int.eq_ofNat_of_zero_le hqb.1
  have hqn : q < rl.length := by omega
  obtain ⟨r, hr⟩ : ∃ r, rl[q] = r := ⟨_, rfl⟩
  have hRn := ruleL_take rl Q i q hqQ
  rw [Int.toNat_natCast, List.getD_eq_getElem?_getD, List.getElem?_eq_getElem hqn, hr] at hRn
  simp only [Option.getD_some] at hRn
  have hw : IntKind.i64.wrap ((i : Int) + 1) = (i : Int) + 1 := wrap64 (by omega) (by omega)
  simp [-wb_regN, -wb_regD, bx, hil]
  rw [wb_regN]
  simp [-wb_regN, -wb_regD, hil]
  rw [wb_regN]
  simp [-wb_regN, -wb_regD, hil, g0, hq]
  rw [wb_regD rfl]
  obtain ⟨v1, v2, v3⟩ := one_rV (H.length + 2) (ruleL rl (Q.take i))
  obtain ⟨u1, u2, u3⟩ := one_rV (H.length + 3) N
  have hRl : (ruleL rl (Q.take i)).length = i := by simp [ruleL]; omega
  have hRN : ruleL rl (Q.take i) = [] → N = [] := fun e => by
    rw [e] at hRl
    simp at hRl
    exact List.eq_nil_of_length_eq_zero (by omega)
  simp [-wb_regN, -wb_regD, -wi_appD, -wi_stLD, replaceAt, hr, hqn, ↓v1, ↓v2, ↓v3]
  rw [wi_appD, app_R (v := r) (ev_rV rfl) rfl hRN hlk (by omega)]
  obtain ⟨R, hRd⟩ : ∃ R, ruleL rl (Q.take i) = R := ⟨_, rfl⟩
  rw [hRd] at hRl hRn hRN v1 v2 v3 g0 ⊢
  simp [-wb_regN, -wb_regD, -wi_appD, -wi_stLD, noRp, noRp_rV, rV_app]
  rw [wi_stLD]
  simp [-wb_regN, -wb_regD, -wi_appD, -wi_stLD, replaceAt]
  have w2 : IntKind.i64.wrap (256 * (q : Int)) = 256 * (q : Int) := wrap64 (by omega) (by omega)
  have w3 : IntKind.i64.wrap (256 * ((q : Int) + 1)) = 256 * ((q : Int) + 1) := wrap64 (by omega) (by omega)
  have w4 : IntKind.i64.wrap ((q : Int) + 1) = (q : Int) + 1 := wrap64 (by omega) (by omega)
  have e1 : (q : Int) ≤ (q : Int) + 1 := by omega
  have e2 : 256 * ((q : Int) + 1) ≤ (nx.length : Int) := by omega
  have e3 : (256 * ((q : Int) + 1)).toNat = 256 * (q + 1) := by omega
  have e4 : 0 ≤ 256 * ((q : Int) + 1) := by omega
  have e5 : 0 ≤ 256 * (q : Int) := by omega
  have e6 : (256 * (q : Int)).toNat = 256 * q := by omega
  have e7 : 256 * (q + 1) - 256 * q = 256 := by omega
  have hrow : ((ints nx).drop (256 * q)).take 256 = ints (rowV nx q) := by unfold rowV; simp [ints]
  rw [wb_regN]
  simp [-wb_regN, -wb_regD, -wi_appD, -wi_stLD, bnd, w2, w3, w4, e1, e2, e3, e4, e5, e6, e7, hrow]
  have hRq : ruleL rl (Q.take (i + 1)) = R ++ [r] := by rw [hRn]
  obtain ⟨fu, rfl⟩ : ∃ g, fu = g + 1 := ⟨fu - 1, by omega⟩
  simp only [leX, hqQ, Int.toNat_natCast] at hx
  have hrl2 : (rowV nx q).length = 256 := rowV_len ok.len hqn
  have hR1 : R ++ [r] ≠ [] := by simp
  have htb : ∀ t ∈ rowV nx q, -1 ≤ t ∧ t < rl.length := fun t ht => ok.nxb t (List.mem_of_mem_drop (List.mem_of_mem_take ht))
  have hdt : ∀ t ∈ rowV nx q, deadP pt t = false → 0 ≤ t ∧ t < rl.length := fun t ht hd => by
    unfold deadP at hd
    simp only [Bool.or_eq_false_iff, decide_eq_false_iff_not] at hd
    have := htb t ht; omega
  have hsB : ∀ b, SOk (ptV pt) rl.length (((rowV nx q).take b).foldl (leS (deadP pt) (ptV pt)) (Q, N)).1 := fun b => fold_SOk _ hs (fun t ht => hdt t (List.mem_of_mem_take ht))
  have hmB : ∀ b, (((rowV nx q).take b).foldl (leS (deadP pt) (ptV pt)) (Q, N)).1[i]? = some (q : Int) := fun b => fold_mono _ hqQ
  have hlB : ∀ b, b ≤ 256 → (((rowV nx q).take b).foldl (leS (deadP pt) (ptV pt)) (Q, N)).2.length = 256 * i + b := fun b hb => by rw [fold_len, List.length_take, hrl2]; simp only; omega
  refine wb_loop (σ := List Int × List Int × Nat) (fun s => [(1, bx), (2, .box [.e0, .e0]), (5, .sl rl.length (ints pt)), (6, .hs H.length s.1.length 0 s.1.length 1), (7, .mp (H.length + 1)), (8, .box [rV (H.length + 3) s.2.1, .hs (H.length + 2) (R.length + 1) 0 (R.length + 1) 1]), (9, I i), (56, .sl 256 (ints (rowV nx q))), (57, I 256), (58, I s.2.2)])
    (fun s => LH H (s.1.map (ptV pt)) s.1 (R ++ [r]) s.2.1)
    (fun s => s.2.2 ≤ 256 ∧ (s.1, s.2.1) = ((rowV nx q).take s.2.2).foldl (leS (deadP pt) (ptV pt)) (Q, N)) (fun s => 256 - s.2.2)
    ?_ (Q, N, 0) ⟨by simp, rfl⟩ (by simp [bx]) rfl
  rintro ⟨Q2, N2, b⟩ ⟨hb, hst⟩
  simp only at hb hst
  have hs2 := hsB b
  have hm2 := hmB b
  have hl2 := hlB b hb
  rw [← hst] at hs2 hm2 hl2
  simp only at hs2 hm2 hl2
  have hQ2l := hs2.len
  unfold t12L1
  have hwb : IntKind.i64.wrap ((b : Int) + 1) = (b : Int) + 1 := wrap64 (by omega) (by omega)
  by_cases hbl : b < 256
  case neg =>
    obtain rfl : b = 256 := by omega
    rw [List.take_of_length_le (by omega)] at hst
    rw [← hst] at hx
    have hiQ2 := lt_of_get hm2
    simp [hw]
    rw [rnd_nrm]
    have hR2 : ruleL rl (Q2.take (i + 1)) = R ++ [r] := by
      rw [← hRq]
      have hpre : ∀ j, j < i + 1 → Q2[j]? = Q[j]? := fun j hj => by
        have h1 := fold_mono (dead := deadP pt) (cls := ptV pt) (rowV nx q) (s := (Q, N)) (i := j) (List.getElem?_eq_getElem (by omega : j < Q.length))
        rw [← hst] at h1
        rw [h1, List.getElem?_eq_getElem (by omega)]
      have : Q2.take (i + 1) = Q.take (i + 1) := by
        refine List.ext_getElem? fun j => ?_
        by_cases hj : j < i + 1
        · rw [List.getElem?_take_of_lt hj, List.getElem?_take_of_lt hj, hpre j hj]
        · rw [List.getElem?_eq_none (by simp; omega), List.getElem?_eq_none (by simp; omega)]
      rw [this]
    exact ⟨(Q2, N2, i + 1, fu), ⟨hs2, by simp only; omega, hiQ2, by simp only; omega, hx, by simp only; omega⟩, by simp only; omega, by simp [bx, hR2, rV_app], by simp only [hR2]⟩
  obtain ⟨t, ht⟩ : ∃ t, (rowV nx q)[b]'(by omega) = t := ⟨_, rfl⟩
  have htm : t ∈ rowV nx q := ht ▸ List.getElem_mem (by omega)
  have htt := htb t htm
  have hb1 : b + 1 ≤ 256 := hbl
  have hbI : (b : Int) < 256 := by omega
  have hnext : ((rowV nx q).take (b + 1)).foldl (leS (deadP pt) (ptV pt)) (Q, N) = leS (deadP pt) (ptV pt) (Q2, N2) t := by
    rw [List.take_succ_eq_append_getElem (by omega), List.foldl_append, ← hst, ht]; rfl
  obtain ⟨u1, u2, u3⟩ := one_rV (H.length + 3) N2
  have hbr : b < (rowV nx q).length := by omega
  simp [-wb_regN, -wb_regD, -wb_true, -wb_false, hbl, hbI]
  rw [wb_regN]
  simp [-wb_regN, -wb_regD, -wb_true, -wb_false, hbl, hbI]
  rw [wb_true rfl, wb_skip]
  simp [-wb_regN, -wb_regD, -wb_true, -wb_false, hbl, hbI]
  rw [wb_regN]
  simp [-wb_regN, -wb_regD, -wb_true, -wb_false, hbl, hbI, ht, hbr, hrl2]
  rw [wb_regN]
  cases hd : deadP pt t with
  | true =>
    have hN1 : leS (deadP pt) (ptV pt) (Q2, N2) t = (Q2, N2 ++ [-1]) := by unfold leS; rw [hd, if_pos rfl]
    rw [hN1] at hnext
    by_cases ht0 : t < 0
    · have hdd : decide (t < 0) = true := decide_eq_true ht0
      simp [-wb_regN, -wb_regD, -wb_true, -wb_false, ht0]
      rw [wb_true rfl]
      simp [-wb_regN, -wb_regD]
      rw [wb_regN]
      simp [-wb_regN, -wb_regD, -wi_app, -wi_stL, ↓u1, ↓u2, ↓u3]
      rw [wi_app, app_N (v := -1) (ev_rV rfl) rfl hR1 hlk (by omega)]
      simp [-wb_regN, -wb_regD, -wi_app, -wi_stL, noRp, noRp_rV, rV_app]
      rw [wi_stL]
      simp [-wb_regN, -wb_regD, -wi_app, -wi_stL, replaceAt]
      rw [wb_regN]
      simp [-wb_regN, -wb_regD, -wi_app, -wi_stL, hwb]
      rw [rnd_nrm]
      exact ⟨(Q2, N2 ++ [-1], b + 1), ⟨hb1, hnext.symm⟩, by simp only; omega, by simp [bx, rV_app], rfl⟩
    · obtain ⟨t, rfl⟩ := Int.eq_ofNat_of_zero_le (by omega : 0 ≤ t)
      have htl : t < pt.length := by omega
      have htl2 : t < rl.length := by omega
      have hp := ptV_of htl
      have hpn : pt[t] < 0 := by
        unfold deadP at hd
        simp only [Bool.or_eq_true, decide_eq_true_eq] at hd
        rw [hp] at hd
        exact hd.resolve_left ht0
      obtain ⟨x, hxe⟩ : ∃ x, pt[t] = x := ⟨_, rfl⟩
      rw [hxe] at hpn
      simp [-wb_regN, -wb_regD, -wb_true, -wb_false, htl, htl2, hpl, hxe, hpn]
      rw [wb_true rfl]
      simp [-wb_regN, -wb_regD]
      rw [wb_regN]
      simp [-wb_regN, -wb_regD, -wi_app, -wi_stL, ↓u1, ↓u2, ↓u3]
      rw [wi_app, app_N (v := -1) (ev_rV rfl) rfl hR1 hlk (by omega)]
      simp [-wb_regN, -wb_regD, -wi_app, -wi_stL, noRp, noRp_rV, rV_app]
      rw [wi_stL]
      simp [-wb_regN, -wb_regD, -wi_app, -wi_stL, replaceAt]
      rw [wb_regN]
      simp [-wb_regN, -wb_regD, -wi_app, -wi_stL, hwb]
      rw [rnd_nrm]
      exact ⟨(Q2, N2 ++ [-1], b + 1), ⟨hb1, hnext.symm⟩, by simp only; omega, by simp [bx, rV_app], rfl⟩
  | false =>
    unfold deadP at hd
    simp only [Bool.or_eq_false_iff, decide_eq_false_iff_not] at hd
    obtain ⟨ht0, hpn⟩ := hd
    have hd : deadP pt t = false := by unfold deadP; simp [ht0, hpn]
    obtain ⟨t, rfl⟩ := Int.eq_ofNat_of_zero_le (by omega : 0 ≤ t)
    have htl : t < pt.length := by omega
    have htl2 : t < rl.length := by omega
    have hp := ptV_of htl
    obtain ⟨x, hxe⟩ : ∃ x, pt[t] = x := ⟨_, rfl⟩
    rw [hp, hxe] at hpn
    rw [hxe] at hp
    have hmg := mget_i x (Q2.map (ptV pt)) 0
    have hmo : mapOf (LH H (Q2.map (ptV pt)) Q2 (R ++ [r]) N2) (.mp (H.length + 1)) = some (kEntI (Q2.map (ptV pt)) 0) := by simp only [mapOf, LH_1]
    have hko := keyOk_i x
    have hxd : decide (x < 0) = false := decide_eq_false hpn
    simp [-wb_regN, -wb_regD, -wb_true, -wb_false, htl, htl2, hpl, hxe, hxd, ht0]
    rw [wb_false rfl, wb_skip]
    simp [-wb_regN, -wb_regD, -wb_true, -wb_false]
    rw [wb_regN]
    cases hix : idxV x (Q2.map (ptV pt)) 0 with
    | some k =>
      rw [hix] at hmg
      simp only [Option.map] at hmg
      have hN1 : leS (deadP pt) (ptV pt) (Q2, N2) (t : Int) = (Q2, N2 ++ [(k : Int)]) := by
        unfold leS; rw [hd, if_neg (by simp), hp]; simp only [hix]
      rw [hN1] at hnext
      simp [-wb_regN, -wb_regD, -wb_true, -wb_false, htl, htl2, hpl, hxe, hmo, hmg, hko, ht0]
      rw [wb_regN]
      simp [-wb_regN, -wb_regD]
      rw [wb_regN]
      simp [-wb_regN, -wb_regD, -wi_app, -wi_stL, ↓u1, ↓u2, ↓u3]
      rw [wi_app, app_N (v := k) (ev_rV rfl) rfl hR1 hlk (by omega)]
      simp [-wb_regN, -wb_regD, -wi_app, -wi_stL, noRp, noRp_rV, rV_app]
      rw [wi_stL]
      simp [-wb_regN, -wb_regD, -wi_app, -wi_stL, replaceAt]
      rw [wb_regN]
      simp [-wb_regN, -wb_regD, -wi_app, -wi_stL, hwb]
      rw [rnd_nrm]
      exact ⟨(Q2, N2 ++ [(k : Int)], b + 1), ⟨hb1, hnext.symm⟩, by simp only; omega, by simp [bx, rV_app], rfl⟩
    | none =>
      rw [hix] at hmg
      simp only [Option.map] at hmg
      have hN1 : leS (deadP pt) (ptV pt) (Q2, N2) (t : Int) = (Q2 ++ [(t : Int)], N2 ++ [(Q2.length : Int)]) := by
        unfold leS; rw [hd, if_neg (by simp), hp]; simp only [hix]
      rw [hN1] at hnext
      have hms := mset_i x (Q2.map (ptV pt)) 0 hix
      rw [Nat.zero_add, List.length_map] at hms
      have g1 := LH_1 H (Q2.map (ptV pt)) Q2 (R ++ [r]) N2
      have hmp := LH_map H (Q2.map (ptV pt)) (Q2.map (ptV pt) ++ [x]) Q2 (R ++ [r]) N2
      have hK2 : Q2.map (ptV pt) ++ [x] = (Q2 ++ [(t : Int)]).map (ptV pt) := by rw [List.map_append, List.map_cons, List.map_nil, hp]
      have g2 := LH_0 H (Q2.map (ptV pt) ++ [x]) Q2 (R ++ [r]) N2
      have hst2 := LH_st H (Q2.map (ptV pt) ++ [x]) Q2 (R ++ [r]) N2 t
      have hlk1 : lk ≤ H.length + 1 := by omega
      have hro : (Q2.length + 1) * 8 ≤ room := by unfold room; omega
      simp [-wb_regN, -wb_regD, -wb_true, -wb_false, htl, htl2, hpl, hxe, hmo, hmg, hko, ht0]
      rw [wb_regN]
      simp [-wb_regN, -wb_regD]
      rw [wb_regN]
      simp [-wb_regN, -wb_regD]
      rw [wb_regN]
      simp [-wb_regN, -wb_regD, htl, htl2, hpl, hxe, hko, hms, g1, hlk1, hmp]
      rw [wb_regN]
      simp [-wb_regN, -wb_regD, -wi_app]
      rw [wi_app]
      simp [-wb_regN, -wb_regD, -wi_app, srcCells, g2, hro, setH, hlk, hst2]
      rw [wb_regN]
      simp [-wb_regN, -wb_regD, -wi_app, -wi_stL, ↓u1, ↓u2, ↓u3]
      rw [wi_app, app_N (v := Q2.length) (ev_rV rfl) rfl hR1 hlk (by omega)]
      simp [-wb_regN, -wb_regD, -wi_app, -wi_stL, noRp, noRp_rV, rV_app]
      rw [wi_stL]
      simp [-wb_regN, -wb_regD, -wi_app, -wi_stL, replaceAt]
      rw [wb_regN]
      simp [-wb_regN, -wb_regD, -wi_app, -wi_stL, hwb]
      rw [rnd_nrm]
      exact ⟨(Q2 ++ [(t : Int)], N2 ++ [(Q2.length : Int)], b + 1), ⟨hb1, hnext.symm⟩, by simp only; omega, by simp [bx, rV_app], by rw [← hK2]⟩
end Go.Proofs.Ytdbbaopgmapmaaa
