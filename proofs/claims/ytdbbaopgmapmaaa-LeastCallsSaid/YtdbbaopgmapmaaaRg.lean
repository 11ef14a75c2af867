import Derived.Test.YtdbbaopgmapmaaaRf
set_option linter.unusedSimpArgs false
set_option linter.unusedVariables false
namespace Go.Proofs.Ytdbbaopgmapmaaa
open Go Go.Hm
theorem T_len {nx1 nx2 : List Int} {n1 n2 : Nat} {Q : List Stp} (_h : QOk nx1 nx2 n1 n2 Q) (k : Nat) : (T Q k).length ≤ k := by
  unfold T; rw [List.length_reverse]; exact txF_le' Q k k
where
  txF_le' (Q : List Stp) : ∀ f k, (txF Q f k).length ≤ f
    | 0, _ => Nat.le_refl _
    | f + 1, k => by
      simp only [txF]
      split
      · simp
      · split
        · simp only [List.length_cons]
          have := txF_le' Q f ‹Stp›.par
          omega
        · simp
set_option maxRecDepth 20000 in
theorem rwit_code {lk lim : Nat} {H : Heap} (nx1 rl1 nx2 rl2 : List Int) (hc1 : chk nx1 rl1 = true) (hc2 : chk nx2 rl2 = true) (hlk : lk ≤ H.length) :
    callW X A lk lim 23 [.agg (Dv nx1 rl1), .agg (Dv nx2 rl2)] H = some (txtV (witM nx1 rl1 nx2 rl2), H) := by
  obtain ⟨ok1, m1, _⟩ := chk_ok hc1
  obtain ⟨ok2, m2, _⟩ := chk_ok hc2
  have hlen1 := ok1.len
  have hlen2 := ok2.len
  have kc1 := fun (K L : Nat) => check_code (lk := K) (lim := L) (H := H) nx1 rl1 (by omega) (by omega)
  have kc2 := fun (K L : Nat) => check_code (lk := K) (lim := L) (H := H) nx2 rl2 (by omega) (by omega)
  rw [chkE_pos hc1] at kc1
  rw [chkE_pos hc2] at kc2
  have ke1 := fun (K L : Nat) (G : Heap) (s : Int) (h : s < rl1.length) => end_code (lk := K) (lim := L) (H := G) nx1 rl1 s h
  have ke2 := fun (K L : Nat) (G : Heap) (s : Int) (h : s < rl2.length) => end_code (lk := K) (lim := L) (H := G) nx2 rl2 s h
  have ka1 := fun (K L : Nat) (G : Heap) (s : Int) (h : s < rl1.length) (c : Nat) (hc : c < 256) => after_code (lk := K) (lim := L) (H := G) nx1 rl1 ok1 s h c hc
  have ka2 := fun (K L : Nat) (G : Heap) (s : Int) (h : s < rl2.length) (c : Nat) (hc : c < 256) => after_code (lk := K) (lim := L) (H := G) nx2 rl2 ok2 s h c hc
  refine wb_callB [2, 3] rfl A23 rfl rfl ?_
  unfold t23B
  generalize hC : callW X A = C at kc1 kc2 ke1 ke2 ka1 ka2 ⊢
  let s0 : Stp := ⟨0, 0, 0, 0⟩
  let P : Int → Int → Bool := fun x y => decide (rulV rl1 x ≠ rulV rl2 y)
  obtain ⟨res, hres⟩ : ∃ res, witM nx1 rl1 nx2 rl2 = res := ⟨_, rfl⟩
  have hres2 : bfs nx1 nx2 P ((rl1.length + 1) * (rl2.length + 1) + 1) [s0] 0 = res := hres
  rw [hres]
  let bx1 : AV := .box (Dv nx1 rl1)
  let bx2 : AV := .box (Dv nx2 rl2)
  have hms : mset true [1, 1] (.agg [I 0, I 0]) (I 1) [] = some (pEnt1 [s0]) := rfl
  have hko : keyOk true [1, 1] (.agg [I 0, I 0]) = true := pair_ok 0 0
  have hlk1 : lk ≤ H.length + 1 := by omega
  have hQ0 : H ++ [HB.cells [I 0, I 0, Sg []], HB.map (pEnt1 [s0])] = QH H (c3 (txt3 [s0])) (pEnt1 [s0]) := rfl
  simp [-wb_regN]
  rw [wb_regN]
  simp [-wb_regN]
  rw [wb_regN]
  simp [-wb_regN, kc1, kc2]
  rw [wb_regN]
  simp [-wb_regN, replaceAt]
  rw [wb_regN]
  simp [-wb_regN, -wi_mup, replaceAt]
  rw [wi_mup]
  simp [-wb_regN, -wi_mup, Hm.get_at, Hm.set_at, hko, hms, hlk1]
  have hQ1 : H ++ [HB.cells [AV.val (Value.int IntKind.i64 0), AV.val (Value.int IntKind.i64 0), AV.val (Value.string { data := #[] })], HB.map (pEnt1 [s0])] = QH H (c3 (txt3 [s0])) (pEnt1 [s0]) := hQ0
  rw [hQ1]
  rw [wb_regN]
  simp [-wb_regN]
  have o1 := ok1.one
  have o2 := ok2.one
  have hq0 : QOk nx1 nx2 rl1.length rl2.length [s0] := ⟨rfl, by simp, fun s hs => by obtain rfl := List.mem_singleton.1 hs; simp only [s0]; omega, fun k t hk h0 => by rw [List.getElem?_eq_none (by simp; omega)] at hk; cases hk⟩
  refine wb_loop (σ := List Stp × Nat × Nat) (fun s => [(2, bx1), (3, bx2), (6, .hs H.length (s.1.length * 3) 0 s.1.length 3), (7, .mp (H.length + 1)), (8, I s.2.1)]) (fun s => QH H (c3 (txt3 s.1)) (pEnt1 s.1))
    (fun s => QOk nx1 nx2 rl1.length rl2.length s.1 ∧ s.2.1 ≤ s.1.length ∧ bfs nx1 nx2 P s.2.2 s.1 s.2.1 = res ∧ (rl1.length + 1) * (rl2.length + 1) + 1 ≤ s.2.2 + s.2.1) (fun s => s.2.2)
    ?_ ([s0], 0, (rl1.length + 1) * (rl2.length + 1) + 1) ⟨hq0, by simp, hres2, by simp⟩ (by simp [bx1, bx2]) rfl
  rintro ⟨Q, i, fu⟩ ⟨hQ, hi, hb, hfu⟩
  simp only at hQ hi hb hfu
  unfold t23L2
  have hlen := hQ.len
  obtain ⟨fu, rfl⟩ : ∃ g, fu = g + 1 := ⟨fu - 1, by omega⟩
  have hB : (rl1.length + 1) * (rl2.length + 1) ≤ 513 * 513 := Nat.mul_le_mul (by omega) (by omega)
  have w : IntKind.i64.wrap ((i : Int) + 1) = (i : Int) + 1 := wrap64 (by omega) (by omega)
  have htk := QH_take H (c3 (txt3 Q)) (pEnt1 Q)
  by_cases hil : i < Q.length
  case neg =>
    obtain rfl : i = Q.length := by omega
    simp only [bfs] at hb
    rw [List.getElem?_eq_none (Nat.le_refl _)] at hb
    simp only at hb
    subst hb
    simp [bx1, bx2, htk, txtV]
  obtain ⟨s, hs⟩ : ∃ s, Q[i] = s := ⟨_, rfl⟩
  have hsQ : Q[i]? = some s := by rw [List.getElem?_eq_getElem hil, hs]
  have hsb := hQ.bd s (hs ▸ List.getElem_mem hil)
  have hTl := T_len hQ i
  have hL := txt3_get hsQ
  have hil3 : i < (txt3 Q).length := by rw [txt3_len]; exact hil
  have hLi : (txt3 Q)[i] = (s.a, s.b, T Q i) := by rw [List.getElem?_eq_getElem hil3] at hL; exact Option.some.inj hL
  obtain ⟨v0, v1, v2⟩ := c3_get hil3
  rw [hLi] at v0 v1 v2
  have hcl := c3_len (txt3 Q)
  rw [txt3_len] at hcl
  have g0 := QH_0 H (c3 (txt3 Q)) (pEnt1 Q)
  have l0 : i * 3 < Q.length * 3 := by omega
  have l1 : i * 3 + 1 < Q.length * 3 := by omega
  have l2 : i * 3 + 2 < Q.length * 3 := by omega
  simp only [bfs, hsQ] at hb
  have k1 := fun K L => ke1 K L (QH H (c3 (txt3 Q)) (pEnt1 Q)) s.a hsb.2.1
  have k2 := fun K L => ke2 K L (QH H (c3 (txt3 Q)) (pEnt1 Q)) s.b hsb.2.2.2
  obtain ⟨cs, hcs⟩ : ∃ cs, c3 (txt3 Q) = cs := ⟨_, rfl⟩
  rw [hcs] at v0 v1 v2 hcl g0 k1 k2 htk ⊢
  rw [List.getElem?_eq_getElem (by omega)] at v0 v1 v2
  have v0 := Option.some.inj v0
  have v1 := Option.some.inj v1
  have v2 := Option.some.inj v2
  simp only at v0 v1 v2
  simp [-wb_regN, -wb_regD, bx1, bx2]
  rw [wb_regN]
  simp [-wb_regN, -wb_regD, hil]
  rw [wb_regD rfl]
  obtain ⟨ra, hra⟩ : ∃ r, rulV rl1 s.a = r := ⟨_, rfl⟩
  obtain ⟨rb, hrb⟩ : ∃ r, rulV rl2 s.b = r := ⟨_, rfl⟩
  have hPp : P s.a s.b = decide (ra ≠ rb) := by simp only [P, hra, hrb]
  rw [hra] at k1
  rw [hrb] at k2
  by_cases hab : ra = rb
  case neg =>
    rw [hPp, if_pos (decide_eq_true hab)] at hb
    subst hb
    have e1 : (ra == rb) = false := by rw [beq_eq_false_iff_ne]; exact hab
    have e2 : (ra != rb) = true := by rw [bne_iff_ne]; exact hab
    simp [-wb_regN, -wb_regD, hil, g0, hcl, l0, l1, v0, v1, k1, k2, e1, e2]
    rw [wb_regN]
    simp [-wb_regN, hil, g0, hcl, l2, v2, htk, txtV]
    rfl
  subst hab
  rw [hPp, if_neg (by simp)] at hb
  simp [-wb_regN, -wb_regD, hil, g0, hcl, l0, l1, v0, v1, k1, k2]
  rw [wb_regN]
  simp [-wb_regN]
  refine wb_loop (σ := List Stp × Nat) (fun t => [(2, bx1), (3, bx2), (6, .hs H.length (t.1.length * 3) 0 t.1.length 3), (7, .mp (H.length + 1)), (8, I i), (9, I t.2)]) (fun t => QH H (c3 (txt3 t.1)) (pEnt1 t.1))
    (fun t => QOk nx1 nx2 rl1.length rl2.length t.1 ∧ t.2 ≤ 256 ∧ t.1 = expK nx1 nx2 s i Q t.2 ∧ t.1[i]? = some s) (fun t => 256 - t.2)
    ?_ (Q, 0) ⟨hQ, Nat.zero_le _, rfl, hsQ⟩ (by simp [bx1, bx2]) (by rw [hcs])
  rintro ⟨Q2, c⟩ ⟨hQ2, hc, hx, hi2⟩
  simp only at hQ2 hc hx hi2
  unfold t23L1
  have hil2 := lt_of_get hi2
  by_cases hcl : c < 256
  case neg =>
    obtain rfl : c = 256 := by omega
    rw [← hx] at hb
    simp [w]
    rw [rnd_nrm]
    exact ⟨(Q2, i + 1, fu), ⟨hQ2, hil2, hb, by simp only; omega⟩, by simp only; omega, by simp [bx1, bx2], rfl⟩
  have hcI : (c : Int) < 256 := by omega
  have w4 : IntKind.i64.wrap ((c : Int) + 1) = (c : Int) + 1 := wrap64 (by omega) (by omega)
  have hL := txt3_get hi2
  have hil3 : i < (txt3 Q2).length := by rw [txt3_len]; exact hil2
  have hLi : (txt3 Q2)[i] = (s.a, s.b, T Q2 i) := by rw [List.getElem?_eq_getElem hil3] at hL; exact Option.some.inj hL
  obtain ⟨v0, v1, v2⟩ := c3_get hil3
  rw [hLi] at v0 v1 v2
  have hcl3 := c3_len (txt3 Q2)
  rw [txt3_len] at hcl3
  have l0 : i * 3 < Q2.length * 3 := by omega
  have l1 : i * 3 + 1 < Q2.length * 3 := by omega
  have l2 : i * 3 + 2 < Q2.length * 3 := by omega
  have g0 := QH_0 H (c3 (txt3 Q2)) (pEnt1 Q2)
  have k1 := fun K L => ka1 K L (QH H (c3 (txt3 Q2)) (pEnt1 Q2)) s.a hsb.2.1 c hcl
  have k2 := fun K L => ka2 K L (QH H (c3 (txt3 Q2)) (pEnt1 Q2)) s.b hsb.2.2.2 c hcl
  obtain ⟨x, hxe⟩ : ∃ x, toV nx1 s.a c = x := ⟨_, rfl⟩
  obtain ⟨y, hye⟩ : ∃ y, toV nx2 s.b c = y := ⟨_, rfl⟩
  rw [hxe] at k1
  rw [hye] at k2
  have hmo : mapOf (QH H (c3 (txt3 Q2)) (pEnt1 Q2)) (.mp (H.length + 1)) = some (pEnt1 Q2) := by simp only [mapOf, QH_1]
  have hmg := mget_pair1 x y Q2
  have hko := pair_ok x y
  obtain ⟨cs, hcs⟩ : ∃ cs, c3 (txt3 Q2) = cs := ⟨_, rfl⟩
  rw [hcs] at v0 v1 v2 hcl3 g0 k1 k2 hmo ⊢
  rw [List.getElem?_eq_getElem (by omega)] at v0 v1 v2
  have v0 := Option.some.inj v0
  have v1 := Option.some.inj v1
  have v2 := Option.some.inj v2
  simp only at v0 v1 v2
  simp [-wb_regN, -wb_regD, bx1, bx2]
  rw [wb_regN]
  simp [-wb_regN, -wb_regD, hcl, hcI]
  rw [wb_regD rfl]
  simp [-wb_regN, -wb_regD, hil2, g0, hcl3, l0, l1, v0, v1, k1, k2]
  rw [wb_regN]
  by_cases hin : (x, y) ∈ Q2.map pairS
  · rw [if_pos hin] at hmg
    have hex : expK nx1 nx2 s i Q (c + 1) = Q2 := by
      rw [expK_succ, ← hx]; unfold exp1; rw [hxe, hye, if_pos hin]
    simp [-wb_regN, -wb_regD, replaceAt, hmo, hmg, hko]
    rw [wb_regN]
    simp [-wb_regN, w4]
    rw [rnd_nrm]
    exact ⟨(Q2, c + 1), ⟨hQ2, hcl, hex.symm, hi2⟩, by simp only; omega, by simp [bx1, bx2], by rw [hcs]⟩
  · rw [if_neg hin] at hmg
    let t : Stp := ⟨x, y, UInt8.ofNat c, i⟩
    have hex : expK nx1 nx2 s i Q (c + 1) = Q2 ++ [t] := by
      rw [expK_succ, ← hx]; unfold exp1; rw [hxe, hye, if_neg hin]
    have hQ3 : QOk nx1 nx2 rl1.length rl2.length (Q2 ++ [t]) := by
      have h := hQ2.exp1 ok1 ok2 hi2 hcl
      unfold exp1 at h
      rw [hxe, hye, if_neg hin] at h; exact h
    have hms := mset_pair1 x y (UInt8.ofNat c) i Q2 hin
    have g5 := QH_1 H cs (pEnt1 Q2)
    have hs1 := QH_s1 H cs (pEnt1 Q2) (pEnt1 (Q2 ++ [t]))
    have g6 := QH_0 H cs (pEnt1 (Q2 ++ [t]))
    have htx := txt3_app (chain_of hQ2) (chain_of hQ3) (by intro e; rw [e] at hil2; simp at hil2)
    have hT2 := T_len hQ2 i
    have hl2b := hQ2.len
    have hadd : abins .add ⟨⟨T Q2 i⟩⟩ ⟨#[UInt8.ofNat c]⟩ = some (Sg (T Q2 i ++ [UInt8.ofNat c])) := sg_add (by simp; omega)
    have wu : IntKind.u8.wrap (c : Int) = (c : Int) := wrapu8 (by omega) (by omega)
    have hby : bytesOf [.val (.int .u8 (c : Int))] = some [UInt8.ofNat c] := by
      have := bytesOf_bsL [UInt8.ofNat c]
      simp only [bsL, List.map_cons, List.map_nil] at this
      rw [show Ub (UInt8.ofNat c) = .val (.int .u8 (c : Int)) by unfold Ub; rw [UInt8.toNat_ofNat', Nat.mod_eq_of_lt (by omega)]] at this
      exact this
    have hcs2 : cs ++ [I x, I y, Sg (T Q2 i ++ [UInt8.ofNat c])] = c3 (txt3 (Q2 ++ [t])) := by
      rw [htx, c3_app, hcs]; rfl
    have hs0 := QH_s0 H cs (c3 (txt3 (Q2 ++ [t]))) (pEnt1 (Q2 ++ [t]))
    rw [← hcs2] at hs0
    have hro : (Q2.length + 1) * 32 ≤ room := by
      unfold room; omega
    simp [-wb_regN, -wb_regD, replaceAt, hmo, hmg, hko]
    rw [wb_regN]
    simp [-wb_regN, -wb_regD, -wi_mup, replaceAt]
    rw [wi_mup]
    simp [-wb_regN, -wb_regD, hko, hms, g5, hlk1]
    rw [hs1, wb_regD rfl]
    simp [-wb_regN, -wb_regD, -wi_appD, hil2, g6, hcl3, l2, v2, wu, hby, hadd, replaceAt]
    rw [wi_appD]
    have e3 : Q2.length * 3 + 3 = (Q2.length + 1) * 3 := by omega
    simp [-wb_regN, -wb_regD, srcCells, g6, hcl3, hro, setH, hlk]
    rw [wb_regN]
    simp [-wb_regN, w4]
    rw [rnd_nrm]
    refine ⟨(Q2 ++ [t], c + 1), ⟨hQ3, hcl, hex.symm, by simp only; rw [List.getElem?_append_left hil2]; exact hi2⟩, by simp only; omega, by simp [bx1, bx2, e3], ?_⟩
    rw [hs0, hcs2]
end Go.Proofs.Ytdbbaopgmapmaaa
