import Derived.Test.YtdbbaopgmapmaaaGB
set_option linter.unusedSimpArgs false
set_option linter.unusedVariables false
namespace Go.Proofs.Ytdbbaopgmapmaaa
open Go Go.Hm
theorem P0_len (lv : List Bool) (rl : List Int) : (P0 lv rl).length = rl.length := by unfold P0; simp
theorem P0_get (lv : List Bool) (rl : List Int) {k : Nat} (h : k < rl.length) (h2 : k < lv.length) : (P0 lv rl)[k]'(by rw [P0_len]; exact h) = if lv[k] = true then rl[k] + 1 else -1 := by
  unfold P0
  simp [List.getD_eq_getElem?_getD, h, h2]
theorem liveM_len (nx rl : List Int) : (liveM nx rl).length = rl.length := by
  unfold liveM
  refine fin_ind (f := rnd (stL nx) (List.range rl.length)) (rnd_grows (fun i => stL_grows nx i) _) (fun o => o.length = rl.length) (fun o h => by rw [rndL_len]; exact h) _ _ (Nat.le_refl _) (by simp)
theorem zi257_len : zi257.length = 257 := by unfold zi257; exact List.length_replicate
theorem zi257_eq : zi257 = I 0 :: ints (List.replicate 256 0) := by unfold zi257 ints; rw [List.map_replicate, ← List.replicate_succ]
theorem zi257_rep (x : Int) : replaceAt zi257 0 [I x] = I x :: ints (List.replicate 256 0) := by
  rw [replaceAt_one _ (by rw [zi257_len]; omega), zi257_eq]; rfl
theorem zi257_all (x : Int) : replaceAt zi257 0 (I x :: ints (List.replicate 256 0)) = I x :: ints (List.replicate 256 0) := by
  have hL : (I x :: ints (List.replicate 256 0)).length = 257 := by rw [List.length_cons, ints_len, List.length_replicate]
  unfold replaceAt
  rw [hL, List.drop_of_length_le (by rw [zi257_len]; exact Nat.le_refl _), List.append_nil]; rfl
theorem box_rep (x v : Int) (q : List Int) (j : Nat) (h : j < q.length) : replaceAt (I x :: ints q) (1 + j) [I v] = I x :: ints (q.set j v) := by
  rw [replaceAt_one _ (by rw [List.length_cons, ints_len]; omega), Nat.add_comm, List.set_cons_succ, ints_set1]
set_option maxRecDepth 20000 in
theorem parts_code {lk lim : Nat} {H : Heap} (nx rl : List Int) (h1 : nx.length ≤ 1000000) (h2 : rl.length ≤ 1000000) (hlk : lk ≤ H.length) (hc : chk nx rl = true) :
    callW X A lk lim 28 [.agg (Dv nx rl)] H = some (.sl rl.length (ints (partM nx rl)), H) := by
  have kl := fun (L : Nat) => live_code (lk := lk) (lim := L) (H := H) nx rl h1 h2 hlk
  rw [if_pos hc] at kl
  refine wb_callB [1, 12] rfl A28 rfl rfl ?_
  unfold t28B
  obtain ⟨⟨ok1, ok2, ok3, ok4, ok5⟩, ok6, ok7⟩ := chk_ok hc
  obtain ⟨lv, hlv⟩ : ∃ lv, liveM nx rl = lv := ⟨_, rfl⟩
  have hll : lv.length = rl.length := by rw [← hlv, liveM_len]
  rw [hlv] at kl
  let bx : AV := .box (Dv nx rl)
  generalize hC : callW X A = C at kl ⊢
  have hro : (rl.length : Int) * 8 ≤ (room : Int) := by unfold room; omega
  have hro2 : rl.length * 8 ≤ room := by unfold room; omega
  simp [-wi_st, -wi_stL, kl, hro, hro2, ints_rep]
  obtain ⟨F, hF⟩ : ∃ F, P0 lv rl = F := ⟨_, rfl⟩
  have hFl : F.length = rl.length := by rw [← hF, P0_len]
  refine wb_loop (σ := Nat) (fun k => [(1, bx), (3, .sl rl.length (bools lv)), (4, .hs H.length rl.length 0 rl.length 1), (23, .sl rl.length (ints rl)), (24, I rl.length), (25, I k)]) (fun k => GI H (fillR F k))
    (fun k => k ≤ rl.length) (fun k => rl.length - k) ?_ 0 (by simp) (by simp [bx]) (by simp [GI, fillR_0, hFl])
  intro k hk
  unfold t28L1
  have w : IntKind.i64.wrap ((k : Int) + 1) = (k : Int) + 1 := wrap64 (by omega) (by omega)
  by_cases hkl : k < rl.length
  case pos =>
    have hkv : k < lv.length := by omega
    obtain ⟨r, hr⟩ : ∃ r, rl[k] = r := ⟨_, rfl⟩
    obtain ⟨b, hb⟩ : ∃ b, lv[k] = b := ⟨_, rfl⟩
    have hrb := ok5 r (hr ▸ List.getElem_mem hkl)
    have w2 : IntKind.i64.wrap (r + 1) = r + 1 := wrap64 (by omega) (by omega)
    have hk1 : k + 1 ≤ rl.length := hkl
    have hfl : (fillR F k).length = rl.length := by rw [fillR_len _ _ (by omega), hFl]
    have hset := fillR_set F k (by omega)
    have hFk : F[k]'(by omega) = if b = true then r + 1 else -1 := by
      subst hF
      rw [P0_get lv rl hkl hkv, hb, hr]
    rw [hFk] at hset
    have g0 := GI_0 H (fillR F k)
    have hup := GI_upd H (fillR F k) k (r + 1) (by omega)
    simp [-wi_st, -wi_stL, hkl, hr, hb, w, w2, hfl]
    rw [wi_st]
    have hgb : (bools lv)[k]? = some (Bo b) := by rw [bools_get, List.getElem?_eq_getElem hkv, hb]; rfl
    have g1 := GI_0 H ((fillR F k).set k (r + 1))
    have hfl1 : ((fillR F k).set k (r + 1)).length = rl.length := by rw [List.length_set, hfl]
    have hup1 := GI_upd H ((fillR F k).set k (r + 1)) k (-1) (by omega)
    rw [List.set_set] at hup1
    cases b with
    | true =>
      rw [if_pos rfl] at hset
      simp [-wi_st, -wi_stL, hkl, hk1, hgb, g0, hfl, setH, hlk, hup, w]
      rw [rnd_nrm]
      exact ⟨k + 1, hk1, by omega, by simp [bx], by rw [hset]⟩
    | false =>
      rw [if_neg (by simp)] at hset
      simp [-wi_st, -wi_stL, -wb_regN, hkl, hk1, hgb, g0, hfl, setH, hlk, hup, w]
      rw [wb_regN]
      simp [-wi_st, -wi_stL, -wb_regN, hkl, hgb]
      rw [wb_regN]
      simp [-wi_st, -wi_stL, -wb_regN, hkl, hgb]
      rw [wi_st]
      simp [-wi_st, -wi_stL, hkl, hk1, g1, hfl1, setH, hlk, hup1, w]
      rw [rnd_nrm]
      exact ⟨k + 1, hk1, by omega, by simp [bx], by rw [hset]⟩
  obtain rfl : k = rl.length := by omega
  rw [← hFl] at hk
  have hfin : fillR F rl.length = F := by rw [← hFl, fillR_all]
  rw [hfin]
  simp
  have hFb : ∀ x ∈ F, -1 ≤ x ∧ x ≤ 1000000 := fun x hx => by
    subst hF
    obtain ⟨i, hi, rfl⟩ := List.mem_map.1 hx
    have hi := List.mem_range.1 hi
    split
    · have := ok5 (rl.getD i 0) (by rw [List.getD_eq_getElem?_getD, List.getElem?_eq_getElem hi]; exact List.getElem_mem hi)
      omega
    · omega
  have hpm : partG nx (rl.length + 3) F (-1) = partM nx rl := by unfold partM; rw [hlv, hF]
  clear hfin hkl hk w hro hro2 kl
  refine wb_loop (σ := Heap × List Int × Int × Nat) (fun s => [(1, bx), (4, .hs s.1.length rl.length 0 rl.length 1), (7, I s.2.2.1)]) (fun s => GI s.1 s.2.1)
    (fun s => s.1.take H.length = H ∧ H.length ≤ s.1.length ∧ s.2.1.length = rl.length ∧ (∀ x ∈ s.2.1, -1 ≤ x ∧ x ≤ 1000000) ∧ partG nx s.2.2.2 s.2.1 s.2.2.1 = partM nx rl ∧ -1 ≤ s.2.2.1 ∧ s.2.2.1 ≤ rl.length ∧ (rl.length : Int) + 2 ≤ s.2.2.1 + s.2.2.2 ∧ (∀ k : Nat, (k : Int) < s.2.2.1 → ∃ j, j < s.2.1.length ∧ s.2.1.getD j 0 = (k : Int)))
    (fun s => s.2.2.2) ?_ (H, F, -1, rl.length + 3) ⟨List.take_of_length_le (Nat.le_refl _), Nat.le_refl _, hFl, hFb, hpm, by simp, by simp only; omega, by simp only; omega, fun k hk => by simp only at hk; omega⟩ (by simp [bx]) rfl
  rintro ⟨G, p, n, f⟩ ⟨hG, hGl, hpl, hpb, hpg, hn1, hn2, hnf, hocc⟩
  simp only at hG hGl hpl hpb hpg hn1 hn2 hnf hocc
  unfold t28L4
  have hro : (rl.length : Int) * 8 ≤ (room : Int) := by unfold room; omega
  have hro2 : rl.length * 8 ≤ room := by unfold room; omega
  have hlkG : lk ≤ G.length := by omega
  have hL1 := GI_len G p
  obtain ⟨r, hr⟩ : ∃ r, roundK nx p p.length = r := ⟨_, rfl⟩
  obtain ⟨rk, rq⟩ := r
  have hrl := roundK_len nx p p.length
  rw [hr] at hrl
  simp only at hrl
  have hge : n ≤ (rk.length : Int) := by
    have h := round_ge (nx := nx) (p := p) (n := n.toNat) (fun k hk => hocc k (by omega))
    rw [hr] at h
    simp only at h; omega
  have hbd : ∀ x ∈ rq, -1 ≤ x ∧ x ≤ 1000000 := fun x hx => by
    have h := round_bd (nx := nx) (p := p) (x := x) (by rw [hr]; exact hx)
    omega
  have hoc2 : ∀ k : Nat, (k : Int) < (rk.length : Int) → ∃ j, j < rq.length ∧ rq.getD j 0 = (k : Int) := fun k hk => by
    have h := round_occ (nx := nx) (p := p) k (by rw [hr]; simp only; omega)
    rw [hr] at h; exact h
  have hfs : ∃ f', f = f' + 1 := ⟨f - 1, by omega⟩
  obtain ⟨f, rfl⟩ := hfs
  simp only [partG, hr] at hpg
  have hRH : GI G p ++ [.map []] ++ [.cells (ints (List.replicate rl.length 0))] = RH G p [] (List.replicate rl.length 0) := by unfold RH GI; simp [kEnt]
  simp [-wi_st, -wi_stL, hro, hro2, ints_rep, hL1, hRH]
  have hRl : rq.length = rl.length := by rw [hrl.1, hpl]
  refine wb_loop (σ := Nat) (fun i => [(1, bx), (4, .hs G.length rl.length 0 rl.length 1), (7, I n), (8, .mp (G.length + 1)), (9, .hs (G.length + 2) rl.length 0 rl.length 1), (48, .hs G.length rl.length 0 rl.length 1), (49, I rl.length), (50, I i)]) (fun i => RH G p (roundK nx p i).1 (fillR rq i))
    (fun i => i ≤ rl.length) (fun i => rl.length - i) ?_ 0 (by simp) (by simp [bx]) (by rw [fillR_0, hRl]; rfl)
  intro i hi
  unfold t28L3
  have w : IntKind.i64.wrap ((i : Int) + 1) = (i : Int) + 1 := wrap64 (by omega) (by omega)
  obtain ⟨ks, hks⟩ : ∃ ks, (roundK nx p i).1 = ks := ⟨_, rfl⟩
  rw [hks]
  have hfl : (fillR rq i).length = rl.length := by rw [fillR_len _ _ (by omega), hRl]
  have g0 := RH_0 G p ks (fillR rq i)
  have g1 := RH_1 G p ks (fillR rq i)
  have g2 := RH_2 G p ks (fillR rq i)
  by_cases hil : i < rl.length
  case neg =>
    obtain rfl : i = rl.length := by omega
    rw [← hpl, hr] at hks
    simp only at hks
    subst hks
    have hfa : fillR rq rl.length = rq := by rw [← hRl, fillR_all]
    rw [hfa] at g0 g1 g2 hfl ⊢
    have htk : (RH G p rk rq).take H.length = H := by rw [RH_GI]; exact GI_take (by rw [List.take_append_of_le_length hGl, hG]) rq
    have hb := fun (L : Nat) => map_frz_ints H.length (RH G p rk rq) 7 rq
    have hb2 := bel_ints 0 rq
    have htk2 : (ints rq).take rl.length = ints rq := List.take_of_length_le (by rw [ints_len]; omega)
    have hml := kEnt_len rk 0
    have hmo : mapOf (RH G p rk rq) (.mp (G.length + 1)) = some (kEnt rk 0) := by simp only [mapOf, g1]
    by_cases hcn : (rk.length : Int) = n
    · rw [if_pos hcn] at hpg
      rw [hpg] at hb hb2 htk2 htk g0 g1 g2 hfl hmo ⊢
      have hng : ¬ (G.length + 2 < H.length) := by omega
      simp [g2, hmo, hml, hcn, htk, htk2, hfl, hng]
    · rw [if_neg hcn] at hpg
      simp [g2, hmo, hml, hcn]
      rw [rnd_nrm]
      refine ⟨(G ++ [.cells (ints p), .map (kEnt rk 0)], rq, rk.length, f), ⟨by rw [List.take_append_of_le_length hGl, hG], by simp only [List.length_append]; omega, hRl, hbd, hpg, by simp only; omega, by simp only; omega, by simp only; omega, ?_⟩, by simp only; omega, by simp [bx], ?_⟩
      · intro k hk
        exact hoc2 k hk
      · rw [RH_GI]
  have hi1 : i + 1 ≤ rl.length := hil
  have hip : i < p.length := by omega
  obtain ⟨x, hx⟩ : ∃ x, p[i] = x := ⟨_, rfl⟩
  have hxD : p.getD i 0 = x := by rw [List.getD_eq_getElem?_getD, List.getElem?_eq_getElem hip, hx]; rfl
  have hsucc := roundK_succ nx p i
  have hZ : ∀ v, (roundK nx p (i + 1)).2 = (roundK nx p i).2 ++ [v] → (fillR rq i).set i v = fillR rq (i + 1) := fun v e => by
    have h := roundK_at (nx := nx) (p := p) (n := p.length) hip e
    have hset := fillR_set rq i (by omega)
    have e2 : rq[i]'(by omega) = v := by
      have e3 : (roundK nx p p.length).2 = rq := by rw [hr]
      rw [← h]; simp only [e3]
    rw [e2] at hset; exact hset
  have hup := RH_upd G p ks (fillR rq i) i (-1) (by omega)
  unfold stepR at hsucc
  rw [hxD, hks] at hsucc
  have hlk2 : lk ≤ G.length + 2 := by omega
  have hpil : i < rl.length ∧ p.length = rl.length := ⟨hil, hpl⟩
  by_cases hxn : x < 0
  · rw [if_pos hxn] at hsucc
    have hz := hZ (-1) (by rw [hsucc])
    simp [-wi_st, -wi_stL, hil, hip, hpl, g0, hx]
    rw [wi_st]
    simp [-wi_st, -wi_stL, -wb_regN, hil, hi1, g2, hfl, setH, hlk2, hup, w]
    rw [wb_regN]
    simp [-wi_st, -wi_stL, -wb_regN, hxn]
    rw [wb_regN]
    simp [-wi_st, -wi_stL, -wb_regN, w]
    rw [rnd_nrm]
    exact ⟨i + 1, hi1, by omega, by simp [bx], by rw [hsucc, ← hz]⟩
  · rw [if_neg hxn] at hsucc
    simp [-wi_st, -wi_stL, hil, hip, hpl, g0, hx]
    rw [wi_st]
    simp [-wi_st, -wi_stL, -wb_regN, hil, hi1, g2, hfl, setH, hlk2, hup, w]
    rw [wb_regN]
    simp [-wi_st, -wi_stL, -wb_regN, -wb_true, -wb_false, -wb_seq]
    have hxd : decide (x < 0) = false := decide_eq_false hxn
    rw [hxd]
    rw [wb_false rfl, wb_skip, fol_nrm, wb_seq, wb_regN]
    obtain ⟨K, hK⟩ : ∃ K, ((rowV nx i).map fun t => if 0 ≤ t then p.getD t.toNat 0 else -1) = K := ⟨_, rfl⟩
    have hkey : keyS nx p i = x :: K := by unfold keyS; rw [hxD, hK]
    have hKl : K.length = 256 := by rw [← hK, List.length_map, rowV_len ok3 hil]
    have hK0 : List.replicate 256 0 = fillR K 0 := by rw [fillR_0, hKl]
    rw [hkey] at hsucc
    have z1 : zi257.length = 257 := zi257_len
    have z2 := zi257_rep x
    rw [hK0] at z2
    have z3 := zi257_all x
    rw [hK0] at z3
    have z4 : (ints (fillR K 0)).length = 256 := by rw [ints_len, fillR_len _ _ (Nat.zero_le _), hKl]
    simp [-wi_st, -wi_stL, -wb_regN, -wb_seq, -fol_nrm, z1, z2, noRp]
    rw [wi_stL]
    simp [-wi_st, -wi_stL, -wb_regN, -wb_seq, -fol_nrm, z1, z3, z4, fillR_len, hKl]
    have hrow : ((ints nx).drop (256 * i)).take 256 = ints (rowV nx i) := by unfold rowV; simp [ints]
    have w2 : IntKind.i64.wrap (256 * (i : Int)) = 256 * (i : Int) := wrap64 (by omega) (by omega)
    have w3 : IntKind.i64.wrap (256 * ((i : Int) + 1)) = 256 * ((i : Int) + 1) := wrap64 (by omega) (by omega)
    have e1 : (i : Int) ≤ (i : Int) + 1 := by omega
    have e2 : 256 * ((i : Int) + 1) ≤ (nx.length : Int) := by omega
    have e3 : (256 * ((i : Int) + 1)).toNat = 256 * (i + 1) := by omega
    have e4 : 0 ≤ 256 * ((i : Int) + 1) := by omega
    have e5 : 0 ≤ 256 * (i : Int) := by omega
    have e6 : (256 * (i : Int)).toNat = 256 * i := by omega
    have e7 : 256 * (i + 1) - 256 * i = 256 := by omega
    rw [fol_nrm, wb_seq, wb_seq, wb_regN]
    simp [-wi_st, -wi_stL, -wb_regN, -wb_seq, -fol_nrm, bx, bnd, w, w2, w3, e1, e2, e3, e4, e5, e6, e7, hrow]
    rw [fol_nrm, wb_block]
    refine wb_loop (σ := Nat) (fun j => [(1, bx), (4, .hs G.length rl.length 0 rl.length 1), (7, I n), (8, .mp (G.length + 1)), (9, .hs (G.length + 2) rl.length 0 rl.length 1), (10, I i), (12, .box (I x :: ints (fillR K j))), (48, .hs G.length rl.length 0 rl.length 1), (49, I rl.length), (50, I i), (69, .sl 256 (ints (rowV nx i))), (70, I 256), (71, I j)]) (fun _ => RH G p ks ((fillR rq i).set i (-1)))
      (fun j => j ≤ 256) (fun j => 256 - j) ?_ 0 (Nat.zero_le _) (by simp [bx]) rfl
    intro j hj
    unfold t28L2
    have w4 : IntKind.i64.wrap ((j : Int) + 1) = (j : Int) + 1 := wrap64 (by omega) (by omega)
    by_cases hjl : j < 256
    case pos =>
      have hj1 : j + 1 ≤ 256 := hjl
      have hrl2 : (rowV nx i).length = 256 := rowV_len ok3 hil
      have hjr : j < (rowV nx i).length := by omega
      obtain ⟨t, ht⟩ : ∃ t, (rowV nx i)[j] = t := ⟨_, rfl⟩
      have htb := ok4 t (List.mem_of_mem_drop (List.mem_of_mem_take (ht ▸ List.getElem_mem hjr : t ∈ rowV nx i)))
      have hKj : K[j]'(by omega) = if 0 ≤ t then p.getD t.toNat 0 else -1 := by subst hK; simp [ht]
      have hset := fillR_set K j (by omega)
      rw [hKj] at hset
      have hfj : (fillR K j).length = 256 := by rw [fillR_len _ _ (by omega), hKl]
      have hjI : (j : Int) < 256 := by omega
      have hrep := box_rep x (-1) (fillR K j) j (by omega)
      have h257 : (I x :: ints (fillR K j)).length = 257 := by rw [List.length_cons, ints_len, hfj]
      simp [-wi_st, -wi_stL, hjl, hjI, hrl2, hjr, ht]
      rw [wi_stL]
      have hj2 : 1 + j ≤ 256 := by omega
      simp [-wi_st, -wi_stL, -wb_regN, -wb_true, -wb_false, hjl, hrep, hfj, hj2]
      rw [wb_regN]
      simp [-wi_st, -wi_stL, -wb_regN, -wb_true, -wb_false]
      by_cases ht0 : 0 ≤ t
      · rw [if_pos ht0] at hset
        obtain ⟨t, rfl⟩ := Int.eq_ofNat_of_zero_le ht0
        have htp : t < p.length := by omega
        have htl : t < rl.length := by omega
        obtain ⟨y, hy⟩ : ∃ y, p[t] = y := ⟨_, rfl⟩
        have hyD : p.getD t 0 = y := by rw [List.getD_eq_getElem?_getD, List.getElem?_eq_getElem htp, hy]; rfl
        rw [Int.toNat_natCast, hyD] at hset
        have g3 := RH_0 G p ks ((fillR rq i).set i (-1))
        have hrep2 := box_rep x y ((fillR K j).set j (-1)) j (by rw [List.length_set]; omega)
        rw [List.set_set, hset] at hrep2
        have hpg2 : (ints p)[t]? = some (I y) := by rw [ints_get, List.getElem?_eq_getElem htp, hy]; rfl
        have hd : decide (0 ≤ (t : Int)) = true := decide_eq_true ht0
        simp [-wi_st, -wi_stL, -wb_regN]
        rw [wb_regN]
        simp [-wi_st, -wi_stL, -wb_regN, g3, htl, htp, hpl, hpg2, hy, hjl, hjI]
        rw [wi_stL]
        simp [-wi_st, -wi_stL, -wb_regN, hrep2, hfj, hj2]
        rw [wb_regN]
        simp [-wi_st, -wi_stL, -wb_regN, w4]
        rw [rnd_nrm]
        exact ⟨j + 1, hj1, by omega, by simp [bx], rfl⟩
      · rw [if_neg ht0] at hset
        have hd : decide (0 ≤ t) = false := decide_eq_false ht0
        rw [hd, wb_false rfl, wb_skip]
        simp [-wi_st, -wi_stL, -wb_regN, w4]
        rw [wb_regN]
        simp [-wi_st, -wi_stL, -wb_regN, w4]
        rw [rnd_nrm]
        exact ⟨j + 1, hj1, by omega, by simp [bx, hset], rfl⟩
    obtain rfl : j = 256 := by omega
    have hfa : fillR K 256 = K := by rw [← hKl, fillR_all]
    rw [hfa]
    have h257 : (I x :: ints K).length = 257 := by rw [List.length_cons, ints_len, hKl]
    have htk : (I x :: ints K).take 257 = I x :: ints K := List.take_of_length_le (by rw [h257]; exact Nat.le_refl _)
    have hks2 : ∀ k ∈ ks, k.length = 257 := by rw [← hks]; exact roundK_keys ok3 i (by omega)
    have hxK : (x :: K).length = 257 := by rw [List.length_cons, hKl]
    have hko : keyOk true ks257 (.agg (I x :: ints K)) = true := keyOk_ints hxK
    have hmg : mget true ks257 (.agg (I x :: ints K)) (kEnt ks 0) = (some ((findK (x :: K) ks 0).map fun i => I (i : Nat)) : Option (Option AV)) := mget_ents hxK ks 0 hks2
    have hmo : ∀ q, mapOf (RH G p ks q) (.mp (G.length + 1)) = some (kEnt ks 0) := fun q => by simp only [mapOf, RH_1]
    rw [wb_seq, wb_regN]
    simp [-wi_st, -wi_stL, -wb_regN]
    rw [wb_regN]
    have hq2l : ((fillR rq i).set i (-1)).length = rl.length := by rw [List.length_set, hfl]
    cases hfk : findK (x :: K) ks 0 with
    | some k =>
      rw [hfk] at hmg hsucc
      simp only [Option.map] at hmg hsucc
      have hz := hZ k (by rw [hsucc])
      have g4 := RH_2 G p ks ((fillR rq i).set i (-1))
      have hup2 := RH_upd G p ks ((fillR rq i).set i (-1)) i k (by omega)
      rw [List.set_set, hz] at hup2
      simp [-wi_st, -wi_stL, -wb_regN, h257, htk, hko, hmg, hmo]
      rw [wb_regN]
      simp [-wi_st, -wi_stL, -wb_regN]
      rw [wb_regN]
      simp [-wi_st, -wi_stL, -wb_regN, hil]
      rw [wi_st]
      simp [-wi_st, -wi_stL, -wb_regN, hil, hi1, g4, hq2l, setH, hlk2, hup2]
      rw [wb_regN]
      simp [-wi_st, -wi_stL, -wb_regN, w]
      rw [rnd_nrm]
      exact ⟨i + 1, hi1, by omega, by simp [bx], by rw [hsucc]⟩
    | none =>
      rw [hfk] at hmg hsucc
      simp only [Option.map] at hmg hsucc
      have hz := hZ ks.length (by rw [hsucc])
      have g4 := RH_2 G p (ks ++ [x :: K]) ((fillR rq i).set i (-1))
      have hup2 := RH_upd G p (ks ++ [x :: K]) ((fillR rq i).set i (-1)) i ks.length (by omega)
      rw [List.set_set, hz] at hup2
      have hms : mset true ks257 (.agg (I x :: ints K)) (I (ks.length : Int)) (kEnt ks 0) = some (kEnt (ks ++ [x :: K]) 0) := by
        have h := mset_ents hxK ks 0 hks2 hfk
        rw [Nat.zero_add] at h; exact h
      have hmp := RH_map G p ks (ks ++ [x :: K]) ((fillR rq i).set i (-1))
      have hml := kEnt_len ks 0
      have g5 := RH_1 G p ks ((fillR rq i).set i (-1))
      have hlk3 : lk ≤ G.length + 1 := by omega
      simp [-wi_st, -wi_stL, -wb_regN, h257, htk, hko, hmg, hmo]
      rw [wb_regN]
      simp [-wi_st, -wi_stL, -wb_regN]
      rw [wb_regN]
      simp [-wi_st, -wi_stL, -wb_regN, hmo, hml]
      rw [wb_regN]
      simp [-wi_st, -wi_stL, -wb_regN, h257, htk, hko, hms, g5, hlk3, hmp]
      rw [wb_regN]
      simp [-wi_st, -wi_stL, -wb_regN, hil]
      rw [wi_st]
      simp [-wi_st, -wi_stL, -wb_regN, hil, hi1, g4, hq2l, setH, hlk2, hup2]
      rw [wb_regN]
      simp [-wi_st, -wi_stL, -wb_regN, w]
      rw [rnd_nrm]
      exact ⟨i + 1, hi1, by omega, by simp [bx], by rw [hsucc]⟩
end Go.Proofs.Ytdbbaopgmapmaaa
