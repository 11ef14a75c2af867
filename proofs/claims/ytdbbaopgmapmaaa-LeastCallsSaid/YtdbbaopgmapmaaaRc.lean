import Derived.Test.YtdbbaopgmapmaaaRb
set_option linter.unusedSimpArgs false
set_option linter.unusedVariables false
namespace Go.Proofs.Ytdbbaopgmapmaaa
open Go Go.Hm
/-! ### The document's parts: the walk -/
def PH (G : Heap) (q F : List Int) : Heap := G ++ ([.cells (ints q)] ++ oneB F)
theorem PH_0 (G : Heap) (q F : List Int) : (PH G q F)[G.length]? = some (.cells (ints q)) := by unfold PH; rw [get_at0]; rfl
theorem PH_1 (G : Heap) (q : List Int) {F : List Int} (h : F ≠ []) : (PH G q F)[G.length + 1]? = some (.cells (ints F)) := by
  unfold PH oneB; rw [Hm.get_at, if_neg h]; rfl
theorem PH_low {G : Heap} {q F : List Int} {j : Nat} (h : j < G.length) : (PH G q F)[j]? = G[j]? := by unfold PH; rw [List.getElem?_append_left h]
theorem PH_upd (G : Heap) (q F : List Int) (k : Nat) (v : Int) (h : k < q.length) : (PH G q F).set G.length (.cells (replaceAt (ints q) k [I v])) = PH G (q.set k v) F := by
  rw [replaceAt_one _ (by rw [ints_len]; exact h), ints_set1]
  unfold PH; rw [set_at0]; rfl
theorem app_F {lk lim d : Nat} {a b : AO} {env : Env} {G : Heap} {q F : List Int} {v : Int} (ha : ev env a = rV (G.length + 1) F) (hb : ev env b = .sl 1 [I v]) (hlk : lk ≤ G.length) (hr : F.length ≤ 1000000) :
    exOp lk lim 0 (some d) (.app 1 8 a b) env (PH G q F) = (match put (some d) (rV (G.length + 1) (F ++ [v])) env with | some e => some (e, PH G q (F ++ [v])) | none => none) := by
  have hro : (F.length + 1) * 8 ≤ room := by unfold room; omega
  have hro1 : 8 ≤ room := by unfold room; omega
  by_cases hF : F = []
  · subst hF
    have hl : (PH G q []).length = G.length + 1 := by unfold PH oneB; simp
    have he : PH G q [] ++ [.cells [I v]] = PH G q [v] := by unfold PH oneB; simp [ints]
    simp only [exOp, ha, hb, srcCells, rV, List.nil_append, List.length_cons, List.length_nil, hl, he]
    simp [hro1]
    rw [he]
    cases noRp d env <;> rfl
  · have g := PH_1 G q hF
    have he : (PH G q F).set (G.length + 1) (.cells (ints F ++ [I v])) = PH G q (F ++ [v]) := by
      unfold PH oneB; rw [Hm.set_at, if_neg hF, if_neg (show ¬ F ++ [v] = [] from fun h => by simp at h), ints_app]; rfl
    have hl : lk ≤ G.length + 1 := by omega
    simp only [exOp, ha, hb, srcCells, rV, hF, if_false, g]
    simp [hro, setH, hl, he, ints_len]
    cases noRp d env <;> rfl
/-- The lowest one alike, among those from k on. -/
def lowV (key : List Int) (ks : List (List Int)) (k : Nat) : Int := match findK key (ks.drop k) k with
  | some j => (j : Int)
  | none => (ks.length : Int)
theorem lowV_end (key : List Int) (ks : List (List Int)) : lowV key ks ks.length = ks.length := by
  unfold lowV; rw [List.drop_length]; rfl
theorem lowV_step (key : List Int) (ks : List (List Int)) (k : Nat) (h : k < ks.length) : lowV key ks k = if key = ks[k] then (k : Int) else lowV key ks (k + 1) := by
  unfold lowV
  rw [List.drop_eq_getElem_cons h]
  simp only [findK]
  by_cases e : key = ks[k]
  · rw [if_pos e, if_pos e]
  · rw [if_neg e, if_neg e]
theorem P0Q_len (rl : List Int) : (P0Q rl).length = rl.length + 1 := by unfold P0Q; simp
theorem roundQ_step {nx p : List Int} {n i : Nat} : roundQ nx p n (i + 1) = match findK (keyQ nx p n (stI n i)) ((roundQ nx p n i).1.map fun f => keyQ nx p n (stI n f.toNat)) 0 with
  | some k => ((roundQ nx p n i).1, (roundQ nx p n i).2 ++ [(k : Int)])
  | none => ((roundQ nx p n i).1 ++ [(i : Int)], (roundQ nx p n i).2 ++ [((roundQ nx p n i).1.length : Int)]) := roundQ_succ nx p n i
theorem roundQ_take (nx p : List Int) (n : Nat) : ∀ (m i : Nat), i ≤ m → (roundQ nx p n i).2 = (roundQ nx p n m).2.take i
  | 0, i, h => by
    obtain rfl : i = 0 := by omega
    rfl
  | m + 1, i, h => by
    have l1 := (roundQ_ok nx p n m).len
    by_cases hi : i = m + 1
    · subst hi
      rw [List.take_of_length_le (by rw [(roundQ_ok nx p n (m + 1)).len]; exact Nat.le_refl _)]
    · have e : ∃ v, (roundQ nx p n (m + 1)).2 = (roundQ nx p n m).2 ++ [v] := by
        rw [roundQ_step]; split <;> exact ⟨_, rfl⟩
      obtain ⟨v, e⟩ := e
      rw [e, List.take_append_of_le_length (by omega)]
      exact roundQ_take nx p n m i (by omega)
theorem mk_mks {env : Env} {l : AO} {b n es bytes : Nat} {z : List AV} (h : ev env l = I (n : Int)) (hz : z.length = es) (hr : n * bytes ≤ room) : mkOp (.mks es bytes z l) env b = some (.hs b (n * es) 0 n es, .cells (repl n z)) := by
  simp only [mkOp, h]
  have h1 : (0 : Int) ≤ (n : Int) := by omega
  have h2 : (n : Int) * (bytes : Int) ≤ (room : Int) := by
    rw [← Int.natCast_mul]; exact Int.ofNat_le.2 hr
  rw [if_pos ⟨h1, h2, hz⟩, Int.toNat_natCast]
set_option maxRecDepth 20000 in
theorem rparts_code {lk lim : Nat} {H : Heap} (nx rl : List Int) (ok : TOk nx rl) (m1 : rl.length ≤ 512) (hlk : lk ≤ H.length) :
    callW X A lk lim 39 [.agg (Dv nx rl)] H = some (.sl (rl.length + 1) (ints (partR nx rl)), H) := by
  have ka := fun (K L : Nat) (G : Heap) (p : List Int) (b0 : Nat) (hp : p.length = rl.length + 1) (g : G[b0]? = some (.cells (ints p))) (a b : Int) (ha : InS rl a) (hb : InS rl b) => alike_code (lk := K) (lim := L) (H := G) nx rl ok hp g a b ha hb
  refine wb_callB [1] rfl A39 rfl rfl ?_
  unfold t39B
  let bx : AV := .box (Dv nx rl)
  generalize hC : callW X A = C at ka ⊢
  have w0 : IntKind.i64.wrap ((rl.length : Int) + 1) = (rl.length : Int) + 1 := wrap64 (by omega) (by omega)
  have hro : ((rl.length : Int) + 1) * 8 ≤ (room : Int) := by unfold room; omega
  have hro2 : (rl.length + 1) * 8 ≤ room := by unfold room; omega
  have t0 : ((rl.length : Int) + 1).toNat = rl.length + 1 := by omega
  have t1 : 0 ≤ (rl.length : Int) + 1 := by omega
  obtain ⟨F, hF⟩ : ∃ F, P0Q rl = F := ⟨_, rfl⟩
  have hFl : F.length = rl.length + 1 := by rw [← hF, P0Q_len]
  have hF0 : List.replicate (rl.length + 1) 0 = fillR F 0 := by rw [fillR_0, hFl]
  have hrep : repl (rl.length + 1) [I 0] = ints (fillR F 0) := by rw [ints_rep, hF0]
  simp [-wb_regN, -wb_regD]
  rw [wb_regN]
  simp [-wb_regN, -wb_regD]
  rw [wb_regN]
  simp [-wb_regN, -wb_regD]
  rw [wb_regN]
  simp [-wb_regN, -wb_regD, -wi_mks, w0]
  rw [wi_mks, mk_mks (l := .tmp 15) (z := [I 0]) (es := 1) (n := rl.length + 1) rfl rfl hro2, hrep]
  simp [-wb_regN, -wb_regD]
  rw [wb_regN]
  simp [-wb_regN, -wb_regD]
  refine wb_loop (σ := Nat) (fun k => [(1, bx), (3, I rl.length), (4, .hs H.length (rl.length + 1) 0 (rl.length + 1) 1), (5, I k)]) (fun k => GI H (fillR F k)) (fun k => k ≤ rl.length) (fun k => rl.length - k) ?_ 0 (by simp) (by simp [bx]) (by simp [GI])
  intro k hk
  unfold t39L1
  have w : IntKind.i64.wrap ((k : Int) + 1) = (k : Int) + 1 := wrap64 (by omega) (by omega)
  by_cases hkl : k < rl.length
  case pos =>
    obtain ⟨r, hr⟩ : ∃ r, rl[k] = r := ⟨_, rfl⟩
    have hrb := ok.rlb r (hr ▸ List.getElem_mem hkl)
    have w2 : IntKind.i64.wrap (r + 1) = r + 1 := wrap64 (by omega) (by omega)
    have hk1 : k + 1 ≤ rl.length := hkl
    have hk2 : k < rl.length + 1 := by omega
    have hk3 : (k : Int) < (rl.length : Int) + 1 := by omega
    have hfl : (fillR F k).length = rl.length + 1 := by rw [fillR_len _ _ (by omega), hFl]
    have hset := fillR_set F k (by omega)
    have hFk : F[k]'(by omega) = r + 1 := by
      subst hF
      unfold P0Q
      rw [List.getElem_append_left (by simpa using hkl), List.getElem_map, hr]
    rw [hFk] at hset
    have g0 := GI_0 H (fillR F k)
    have hup := GI_upd H (fillR F k) k (r + 1) (by omega)
    rw [hset] at hup
    simp [-wb_regN, -wi_st, bx]
    rw [wb_regN]
    simp [-wb_regN, -wi_st, hkl]
    rw [wb_regN]
    simp [-wb_regN, -wi_st, hkl, hr, w2, hk2, hk3]
    rw [wi_st]
    simp [-wb_regN, g0, hfl, setH, hlk, hup, hk2, hk1, hk]
    rw [wb_regN]
    simp [-wb_regN, w]
    rw [rnd_nrm]
    exact ⟨k + 1, hk1, by omega, by simp [bx], rfl⟩
  obtain rfl : k = rl.length := by omega
  have hfin : fillR F rl.length = F := by
    have h1 := fillR_set F rl.length (by omega)
    have h2 : F[rl.length]'(by omega) = 0 := by
      subst hF
      unfold P0Q
      rw [List.getElem_append_right (by simp)]; simp
    have h3 : (fillR F rl.length)[rl.length]? = some 0 := by
      unfold fillR
      rw [List.getElem?_append_right (by simp; omega), List.length_take, hFl]
      rw [show rl.length - min rl.length (rl.length + 1) = 0 by omega, show rl.length + 1 - rl.length = 1 by omega]; rfl
    have h4 : (fillR F rl.length).set rl.length 0 = fillR F rl.length := by
      have hl : rl.length < (fillR F rl.length).length := by rw [fillR_len _ _ (by omega)]; omega
      rw [List.getElem?_eq_getElem hl] at h3
      conv => lhs; rw [← Option.some.inj h3]
      exact List.set_getElem_self hl
    rw [h2, h4] at h1
    rw [h1]
    have : rl.length + 1 = F.length := hFl.symm
    rw [this, fillR_all]
  rw [hfin]
  simp [-wb_regN, bx]
  rw [wb_regN]
  simp [-wb_regN]
  rw [wb_regN]
  simp [-wb_regN]
  have hpm : partQ nx rl.length (rl.length + 3) F 0 = partR nx rl := by unfold partR; rw [hF]
  have hgt : (GI H F).take H.length = H := GI_take (List.take_of_length_le (Nat.le_refl _)) F
  refine wb_loop (σ := Heap × Nat × List Int × Nat × Nat) (fun s => [(1, bx), (3, I rl.length), (4, .hs s.2.1 (rl.length + 1) 0 (rl.length + 1) 1), (6, I s.2.2.2.1)]) (fun s => s.1)
    (fun s => s.1.take H.length = H ∧ H.length ≤ s.1.length ∧ s.1[s.2.1]? = some (.cells (ints s.2.2.1)) ∧ s.2.2.1.length = rl.length + 1 ∧ partQ nx rl.length s.2.2.2.2 s.2.2.1 s.2.2.2.1 = partR nx rl ∧ s.2.2.2.1 ≤ rl.length + 1 ∧ rl.length + 3 ≤ s.2.2.2.1 + s.2.2.2.2 ∧ (∀ k : Nat, k < s.2.2.2.1 → ∃ j, j < rl.length + 1 ∧ s.2.2.1[j]? = some (k : Int)))
    (fun s => s.2.2.2.2) ?_ (GI H F, H.length, F, 0, rl.length + 3) ⟨hgt, by rw [GI_len]; omega, GI_0 H F, hFl, hpm, by simp, by simp, fun k hk => by simp only at hk; omega⟩ (by simp [bx]) rfl
  rintro ⟨X, b, p, c, f⟩ ⟨hX, hXl, hXb, hpl, hpq, hc1, hcf, hocc⟩
  simp only at hX hXl hXb hpl hpq hc1 hcf hocc
  unfold t39L4
  obtain ⟨f, rfl⟩ : ∃ g, f = g + 1 := ⟨f - 1, by omega⟩
  have hbX := lt_of_get hXb
  have hlkX : lk ≤ X.length := by omega
  have hRQ := roundQ_ok nx p rl.length (rl.length + 1)
  have hge := roundQ_ge (nx := nx) (p := p) (n := rl.length) hocc
  simp only [partQ] at hpq
  obtain ⟨rq, hrq⟩ : ∃ r, (roundQ nx p rl.length (rl.length + 1)).2 = r := ⟨_, rfl⟩
  have hql : rq.length = rl.length + 1 := by rw [← hrq]; exact hRQ.len
  have hrep2 : repl (rl.length + 1) [I 0] = ints (fillR rq 0) := by rw [ints_rep, fillR_0, hql]
  have hPH0 : X ++ [.cells (ints (fillR rq 0))] = PH X (fillR rq 0) [] := by unfold PH oneB; simp
  simp [-wb_regN, -wi_mks]
  rw [wb_regN]
  simp [-wb_regN, -wi_mks, w0]
  rw [wi_mks, mk_mks (l := .tmp 32) (z := [I 0]) (es := 1) (n := rl.length + 1) rfl rfl hro2, hrep2]
  simp [-wb_regN, hPH0]
  rw [wb_regN]
  simp [-wb_regN]
  rw [wb_regN]
  simp [-wb_regN]
  let sp : AV := .hs b (rl.length + 1) 0 (rl.length + 1) 1
  let sn : AV := .hs X.length (rl.length + 1) 0 (rl.length + 1) 1
  refine wb_loop (σ := Nat) (fun i => [(1, bx), (3, I rl.length), (4, sp), (6, I c), (7, sn), (8, rV (X.length + 1) (roundQ nx p rl.length i).1), (9, I i)]) (fun i => PH X (fillR rq i) (roundQ nx p rl.length i).1)
    (fun i => i ≤ rl.length + 1) (fun i => rl.length + 1 - i) ?_ 0 (Nat.zero_le _) (by simp [bx, sp, sn, rV, roundQ, roundG]) rfl
  intro i hi
  unfold t39L3
  have wi : IntKind.i64.wrap ((i : Int) + 1) = (i : Int) + 1 := wrap64 (by omega) (by omega)
  have hRi := roundQ_ok nx p rl.length i
  have hfl : (fillR rq i).length = rl.length + 1 := by rw [fillR_len _ _ (by omega), hql]
  obtain ⟨K, hK⟩ : ∃ K, (roundQ nx p rl.length i).1 = K := ⟨_, rfl⟩
  have hKl := hRi.fl
  have hKb := hRi.fb
  rw [hK] at hKl hKb
  by_cases hil : i < rl.length + 1
  case neg =>
    obtain rfl : i = rl.length + 1 := by omega
    have hfa : fillR rq (rl.length + 1) = rq := by rw [← hql, fillR_all]
    rw [hfa]
    rw [hK, hrq] at hpq
    rw [hK] at hge
    have hK0 : K ≠ [] := by
      intro e
      obtain ⟨k, _, k2⟩ := hRQ.get 0 (by omega)
      have := lt_of_get k2
      rw [List.length_map, hK, e] at this
      simp at this
    have hrK : rV (X.length + 1) K = .hs (X.length + 1) K.length 0 K.length 1 := by unfold rV; rw [if_neg hK0]
    have hgt2 : ¬ ((rl.length : Int) + 1 ≤ rl.length) := by omega
    have g0 := PH_0 X rq K
    have htk : (PH X rq K).take H.length = H := by unfold PH; rw [List.take_append_of_le_length hXl, hX]
    rw [hK, hrK]
    simp [-wb_regN, sp, sn, bx]
    rw [wb_regN]
    simp [-wb_regN, hgt2]
    rw [wb_regN]
    by_cases hcn : K.length = c
    · rw [if_pos hcn] at hpq
      have hb : ((K.length : Int) == (c : Int)) = true := by rw [beq_iff_eq]; omega
      have hng : ¬ (X.length < H.length) := by omega
      have htk2 : (ints rq).take (rl.length + 1) = ints rq := List.take_of_length_le (by rw [ints_len]; omega)
      rw [hpq] at hql g0 htk htk2 ⊢
      simp [-wb_regN, hb]
      rw [wb_regN]
      simp [hng, g0, hql, htk, htk2]
    · rw [if_neg hcn] at hpq
      have hb : ((K.length : Int) == (c : Int)) = false := by rw [beq_eq_false_iff_ne]; omega
      simp [-wb_regN, hb]
      rw [wb_regN]
      simp [-wb_regN]
      rw [rnd_nrm]
      refine ⟨(PH X rq K, X.length, rq, K.length, f), ⟨htk, by simp only [PH, List.length_append]; omega, g0, hql, hpq, by simp only; omega, by simp only; omega, fun k hk => ?_⟩, by simp only; omega, by simp [bx], rfl⟩
      have := hRQ.occ k (by rw [hK]; exact hk)
      rw [hrq] at this
      exact this
  have hi1 : i + 1 ≤ rl.length + 1 := hil
  have hiI : (i : Int) ≤ rl.length := by omega
  have hiN : i ≤ rl.length := by omega
  have hiI2 : (i : Int) < (rl.length : Int) + 1 := by omega
  have ixi : ixI rl.length (stI rl.length i) = i := ixI_st (by omega)
  obtain ⟨key, hkey⟩ : ∃ key, keyQ nx p rl.length (stI rl.length i) = key := ⟨_, rfl⟩
  obtain ⟨ks, hks⟩ : ∃ ks, (K.map fun f => keyQ nx p rl.length (stI rl.length f.toNat)) = ks := ⟨_, rfl⟩
  have hksl : ks.length = K.length := by rw [← hks, List.length_map]
  have hstep := roundQ_step (nx := nx) (p := p) (n := rl.length) (i := i)
  rw [hK, hkey, hks] at hstep
  have hZ : ∀ v, (roundQ nx p rl.length (i + 1)).2 = (roundQ nx p rl.length i).2 ++ [v] → (fillR rq i).set i v = fillR rq (i + 1) := fun v e => by
    have h1 := roundQ_take nx p rl.length (rl.length + 1) (i + 1) hi1
    have hset := fillR_set rq i (by omega)
    have h2 : rq[i]? = some v := by
      have h3 := congrArg (fun l => l[i]?) h1
      simp only [e, hrq] at h3
      rw [List.getElem?_append_right (by rw [hRi.len]; exact Nat.le_refl _), hRi.len, Nat.sub_self, List.getElem?_take_of_lt (by omega)] at h3
      exact h3.symm
    rw [List.getElem?_eq_getElem (by omega)] at h2
    rw [Option.some.inj h2] at hset
    exact hset
  have g0 := PH_0 X (fillR rq i) K
  have hlow : lowV key ks 0 = match findK key ks 0 with | some j => (j : Int) | none => (K.length : Int) := by unfold lowV; rw [List.drop_zero, hksl]
  have w3 : IntKind.i64.wrap ((K.length : Int) - 1) = (K.length : Int) - 1 := wrap64 (by omega) (by omega)
  have hup0 := PH_upd X (fillR rq i) K i K.length (by omega)
  simp [-wb_regN, -wb_true, -wb_false, sp, sn, bx]
  rw [wb_regN]
  simp [-wb_regN, -wb_true, -wb_false, hiI]
  rw [wb_true rfl, wb_skip, fol_nrm, wb_seq, wb_block, wb_seq, wb_regN, hK]
  by_cases hK0 : K = []
  · subst hK0
    have hks0 : ks = [] := by rw [← hks]; rfl
    subst hks0
    simp only [findK] at hstep
    have hz := hZ ([] : List Int).length (by rw [hstep])
    rw [hz] at hup0
    simp only [List.length_nil, Int.natCast_zero] at hup0 hz
    have g1 := PH_0 X (fillR rq (i + 1)) []
    have hfl1 : (fillR rq (i + 1)).length = rl.length + 1 := by rw [fillR_len _ _ (by omega), hql]
    have hv : (fillR rq (i + 1))[i]'(by omega) = 0 := by
      have : (fillR rq (i + 1))[i]? = some 0 := by rw [← hz, List.getElem?_set_self (by omega)]
      rw [List.getElem?_eq_getElem (by omega)] at this
      exact Option.some.inj this
    simp [-wb_regN, -wi_st, rV, hiI2, hil]
    rw [wi_st]
    simp [-wb_regN, -wi_st, g0, hfl, setH, hlkX, hup0, hiI2, hil, hi1, hiN]
    have w4 : IntKind.i64.wrap (-1) = -1 := wrap64 (by omega) (by omega)
    rw [wb_regN]
    simp [-wb_regN, w4]
    refine wb_loop0 ?_
    unfold t39L2
    simp [-wb_regN]
    rw [wb_regN]
    simp [-wb_regN]
    rw [wb_regN]
    simp [-wb_regN, g1, hfl1, hv, hiI2, hil]
    rw [wb_regN]
    simp [-wb_regN, -wi_app]
    rw [wi_app, app_F (v := i) (F := []) (by rw [show rV (X.length + 1) [] = .e0 from if_pos rfl]; rfl) rfl hlkX (by simp)]
    simp [-wb_regN, rV_app, show ∀ v : Int, rV (X.length + 1) [v] = .hs (X.length + 1) 1 0 1 1 from fun v => rfl]
    rw [wb_regN]
    simp [-wb_regN, wi]
    rw [rnd_nrm]
    exact ⟨i + 1, hi1, by omega, by rw [hstep]; simp [bx, sp, sn, show ∀ v : Int, rV (X.length + 1) [v] = .hs (X.length + 1) 1 0 1 1 from fun v => rfl], by rw [hstep]; rfl⟩
  have hrK : rV (X.length + 1) K = .hs (X.length + 1) K.length 0 K.length 1 := by unfold rV; rw [if_neg hK0]
  rw [hrK]
  have hKp : 0 < K.length := List.length_pos_iff.2 hK0
  simp [-wb_regN, -wi_st, hiI2, hil]
  rw [wi_st]
  simp [-wb_regN, -wi_st, g0, hfl, setH, hlkX, hup0, hiI2, hil, hi, hiN]
  rw [wb_regN]
  simp [-wb_regN, w3]
  refine wb_loop (σ := Nat) (fun m => [(1, bx), (3, I rl.length), (4, sp), (6, I c), (7, sn), (8, .hs (X.length + 1) K.length 0 K.length 1), (9, I i), (10, I ((m : Int) - 1))]) (fun m => PH X ((fillR rq i).set i (lowV key ks m)) K)
    (fun m => m ≤ K.length) (fun m => m) ?_ K.length (Nat.le_refl _) (by simp [bx, sp, sn]) (by rw [show lowV key ks K.length = K.length by rw [← hksl]; exact lowV_end key ks])
  intro m hm
  unfold t39L2
  have gm := PH_0 X ((fillR rq i).set i (lowV key ks m)) K
  have hsl : ((fillR rq i).set i (lowV key ks m)).length = rl.length + 1 := by rw [List.length_set, hfl]
  have gF := PH_1 X ((fillR rq i).set i (lowV key ks m)) hK0
  by_cases hm0 : 0 < m
  case pos =>
    obtain ⟨j, rfl⟩ : ∃ j, m = j + 1 := ⟨m - 1, by omega⟩
    have hjK : j < K.length := by omega
    have ej : ((j + 1 : Nat) : Int) - 1 = j := by omega
    rw [ej]
    have w5 : IntKind.i64.wrap ((j : Int) - 1) = (j : Int) - 1 := wrap64 (by omega) (by omega)
    obtain ⟨fv, hfv⟩ : ∃ v, K[j] = v := ⟨_, rfl⟩
    have hfb := hKb fv (hfv ▸ List.getElem_mem hjK)
    obtain ⟨fv, rfl⟩ := Int.eq_ofNat_of_zero_le hfb.1
    have ixf : ixI rl.length (stI rl.length fv) = fv := ixI_st (by omega)
    have hksj : ks[j]'(by omega) = keyQ nx p rl.length (stI rl.length fv) := by
      subst hks
      rw [List.getElem_map, hfv, Int.toNat_natCast]
    have hlv := lowV_step key ks j (by omega)
    rw [hksj] at hlv
    have gb : (PH X ((fillR rq i).set i (lowV key ks (j + 1))) K)[b]? = some (.cells (ints p)) := by rw [PH_low hbX]; exact hXb
    have kk := fun K' L => ka K' L _ p b hpl gb (stI rl.length i) (stI rl.length fv) stI_in stI_in
    rw [ixi, ixf, hpl, hkey] at kk
    simp [-wb_regN, -wb_regD, bx, sp, sn]
    rw [wb_regN]
    simp [-wb_regN, -wb_regD]
    rw [wb_regD rfl]
    by_cases he : key = keyQ nx p rl.length (stI rl.length fv)
    · rw [if_pos he] at hlv
      have hup := PH_upd X ((fillR rq i).set i (lowV key ks (j + 1))) K i j (by omega)
      rw [List.set_set] at hup
      rw [decide_eq_true he] at kk
      generalize lowV key ks (j + 1) = lv at gm hsl gF gb kk hup ⊢
      simp [-wb_regN, -wb_regD, gF, hjK, hfv, kk]
      rw [wb_regN]
      simp [-wb_regN, -wb_regD, -wi_st, hiI2, hil]
      rw [wi_st]
      simp [-wb_regN, -wb_regD, -wi_st, gm, hfl, setH, hlkX, hup, hiI2, hil, hi, hiN]
      rw [wb_regN]
      simp [-wb_regN, w5]
      rw [rnd_nrm]
      exact ⟨j, by omega, by omega, by simp [bx, sp, sn], by rw [hlv]⟩
    · rw [if_neg he] at hlv
      rw [decide_eq_false he] at kk
      rw [← hlv] at gm hsl gF gb kk ⊢
      generalize hlg : lowV key ks j = lv at gm hsl gF gb kk ⊢
      simp [-wb_regN, -wb_regD, gF, hjK, hfv, kk]
      rw [wb_regN]
      simp [-wb_regN, w5]
      rw [rnd_nrm]
      exact ⟨j, by omega, by omega, by simp [bx, sp, sn], by rw [hlg]⟩
  obtain rfl : m = 0 := by omega
  rw [hlow] at gm hsl gF ⊢
  simp [-wb_regN, -wb_true, -wb_false, bx, sp, sn]
  rw [wb_regN]
  simp [-wb_regN, -wb_true, -wb_false]
  rw [wb_false rfl]
  simp [-wb_regN, -wb_true, -wb_false]
  rw [wb_regN]
  cases hfk : findK key ks 0 with
  | some j =>
    rw [hfk] at hstep
    simp only [hfk] at gm hsl gF ⊢
    obtain ⟨_, j2, _⟩ := findK_lt _ _ _ hfk
    have hz := hZ j (by rw [hstep])
    rw [hz] at gm hsl gF ⊢
    have hv : (fillR rq (i + 1))[i]'(by omega) = (j : Int) := by
      have : (fillR rq (i + 1))[i]? = some (j : Int) := by rw [← hz, List.getElem?_set_self (by omega)]
      rw [List.getElem?_eq_getElem (by omega)] at this
      exact Option.some.inj this
    have hne : ((j : Int) == (K.length : Int)) = false := by rw [beq_eq_false_iff_ne]; omega
    simp [-wb_regN, -wb_true, -wb_false, gm, hsl, hv, hiI2, hil, hne]
    rw [wb_false rfl]
    simp [-wb_regN]
    rw [wb_regN]
    simp [-wb_regN, wi]
    rw [rnd_nrm]
    exact ⟨i + 1, hi1, by omega, by rw [hstep]; simp [bx, sp, sn, hrK], by rw [hstep]⟩
  | none =>
    rw [hfk] at hstep
    simp only [hfk] at gm hsl gF ⊢
    have hz := hZ K.length (by rw [hstep])
    rw [hz] at gm hsl gF ⊢
    have hv : (fillR rq (i + 1))[i]'(by omega) = (K.length : Int) := by
      have : (fillR rq (i + 1))[i]? = some (K.length : Int) := by rw [← hz, List.getElem?_set_self (by omega)]
      rw [List.getElem?_eq_getElem (by omega)] at this
      exact Option.some.inj this
    simp [-wb_regN, -wb_true, -wb_false, gm, hsl, hv, hiI2, hil]
    rw [wb_true rfl, wb_regN]
    simp [-wb_regN, -wi_app]
    rw [wi_app, app_F (v := i) (F := K) (by rw [hrK]; rfl) rfl hlkX (by omega)]
    simp [-wb_regN, rV_app]
    rw [wb_regN]
    simp [-wb_regN, wi]
    rw [rnd_nrm]
    exact ⟨i + 1, hi1, by omega, by rw [hstep]; simp [bx, sp, sn, rV_app], by rw [hstep]⟩
end Go.Proofs.Ytdbbaopgmapmaaa
