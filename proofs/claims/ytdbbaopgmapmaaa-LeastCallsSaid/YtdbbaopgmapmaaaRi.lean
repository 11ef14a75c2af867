import Derived.Test.YtdbbaopgmapmaaaRh
set_option linter.unusedSimpArgs false
set_option linter.unusedVariables false
namespace Go.Proofs.Ytdbbaopgmapmaaa
open Go Go.Hm
def sEnt (S : List P3) : List (AV × AV) := S.map fun e => (I e.1, I 1)
theorem mget_s (a : Int) : ∀ S : List P3, mget false [1] (I a) (sEnt S) = some (if a ∈ S.map (·.1) then some (I 1) else none)
  | [] => rfl
  | s :: Q => by
    have ih := mget_s a Q
    simp only [sEnt, List.map_cons, mget] at ih ⊢
    rw [eqKey_i]
    by_cases h : a = s.1
    · rw [decide_eq_true h, if_pos (by rw [List.mem_cons]; exact .inl h)]
    · rw [decide_eq_false h]
      simp only
      rw [ih]
      by_cases h2 : a ∈ Q.map (·.1)
      · rw [if_pos h2, if_pos (List.mem_cons_of_mem _ h2)]
      · rw [if_neg h2, if_neg]
        intro h3
        rcases List.mem_cons.1 h3 with h3 | h3
        · exact h h3
        · exact h2 h3
theorem mset_s (a : Int) (w : List UInt8) : ∀ S : List P3, a ∉ S.map (·.1) → mset false [1] (I a) (I 1) (sEnt S) = some (sEnt (S ++ [(a, 0, w)]))
  | [], _ => rfl
  | s :: Q, h => by
    have h1 : ¬ a = s.1 := fun e => h (by rw [List.map_cons, e]; exact List.mem_cons_self ..)
    have ih := mset_s a w Q (fun h2 => h (by rw [List.map_cons]; exact List.mem_cons_of_mem _ h2))
    simp only [sEnt, List.map_cons, List.cons_append, mset] at ih ⊢
    rw [eqKey_i, decide_eq_false h1]
    simp only
    rw [ih]
set_option maxRecDepth 20000 in
theorem rshort_code {lk lim : Nat} {H : Heap} (nx rl : List Int) (r : Int) (hc1 : chk nx rl = true) (hlk : lk ≤ H.length) :
    callW X A lk lim 24 [.agg (Dv nx rl), I r] H = some (txtV (if r < 0 then none else shortM nx rl r), H) := by
  obtain ⟨ok1, m1, _⟩ := chk_ok hc1
  have hlen1 := ok1.len
  have kc1 := fun (K L : Nat) => check_code (lk := K) (lim := L) (H := H) nx rl (by omega) (by omega)
  rw [chkE_pos hc1] at kc1
  have ka1 := fun (K L : Nat) (G : Heap) (s : Int) (h : s < rl.length) (c : Nat) (hc : c < 256) => after_code (lk := K) (lim := L) (H := G) nx rl ok1 s h c hc
  refine wb_callB [2] rfl A24 rfl rfl ?_
  unfold t24B
  generalize hC : callW X A = C at kc1 ka1 ⊢
  by_cases hr : r < 0
  · rw [if_pos hr]
    simp [kc1, hr, txtV]
  rw [if_neg hr, shortS_eq ok1 (by omega)]
  let P : Int → Bool := fun x => decide (rulV rl x = r)
  obtain ⟨res, hres⟩ : ∃ res, shortS nx rl r = res := ⟨_, rfl⟩
  have hres2 : bfsS nx P (rl.length + 1) [(0, 0, [])] 0 = res := hres
  rw [hres]
  let bx1 : AV := .box (Dv nx rl)
  let s0 : P3 := (0, 0, [])
  have hms : mset false [1] (I 0) (I 1) [] = some (sEnt [s0]) := rfl
  have hko : keyOk false [1] (I 0) = true := keyOk_i 0
  have hlk1 : lk ≤ H.length + 1 := by omega
  have hQ1 : H ++ [HB.cells [AV.val (Value.int IntKind.i64 0), AV.val (Value.int IntKind.i64 0), AV.val (Value.string { data := #[] })], HB.map (sEnt [s0])] = QH H (c3 [s0]) (sEnt [s0]) := rfl
  simp [-wb_regN]
  rw [wb_regN]
  simp [-wb_regN]
  rw [wb_regN]
  simp [-wb_regN, -wr_cons, -wr_nil]
  iterate 7 (rw [wr_cons]; simp [-wb_regN, -wr_cons, -wr_nil, kc1, hr])
  rw [wr_nil, fol_nrm, wb_false rfl, wb_skip, fol_nrm, wb_seq, wb_regN]
  simp [-wb_regN, replaceAt]
  rw [wb_regN]
  simp [-wb_regN, -wi_mup, replaceAt]
  rw [wi_mup]
  simp [-wb_regN, -wi_mup, Hm.get_at, Hm.set_at, hko, hms, hlk1]
  rw [hQ1]
  rw [wb_regN]
  simp [-wb_regN]
  have o1 := ok1.one
  have hq0 : SQ rl.length [s0] := ⟨⟨fun q hq => by obtain rfl := List.mem_singleton.1 hq; show (0 : Int) ≤ 0 ∧ (0 : Int) < rl.length; omega, by simp⟩, fun e he => by obtain rfl := List.mem_singleton.1 he; simp [s0]⟩
  refine wb_loop (σ := List P3 × Nat × Nat) (fun s => [(1, I r), (2, bx1), (6, .hs H.length (s.1.length * 3) 0 s.1.length 3), (7, .mp (H.length + 1)), (8, I s.2.1)]) (fun s => QH H (c3 s.1) (sEnt s.1))
    (fun s => SQ rl.length s.1 ∧ s.2.1 ≤ s.1.length ∧ bfsS nx P s.2.2 s.1 s.2.1 = res ∧ rl.length + 1 ≤ s.2.2 + s.2.1) (fun s => s.2.2)
    ?_ ([s0], 0, rl.length + 1) ⟨hq0, by simp, hres2, by simp⟩ (by simp [bx1]) rfl
  rintro ⟨Q, i, fu⟩ ⟨hQ, hi, hb, hfu⟩
  simp only at hQ hi hb hfu
  unfold t24L2
  have hlen := hQ.len
  obtain ⟨fu, rfl⟩ : ∃ g, fu = g + 1 := ⟨fu - 1, by omega⟩
  have w : IntKind.i64.wrap ((i : Int) + 1) = (i : Int) + 1 := wrap64 (by omega) (by omega)
  have htk := QH_take H (c3 Q) (sEnt Q)
  by_cases hil : i < Q.length
  case neg =>
    obtain rfl : i = Q.length := by omega
    simp only [bfsS] at hb
    rw [List.getElem?_eq_none (Nat.le_refl _)] at hb
    simp only at hb
    subst hb
    simp [bx1, htk, txtV]
  obtain ⟨⟨a, z, tw⟩, hs⟩ : ∃ s, Q[i] = s := ⟨_, rfl⟩
  have hsQ : Q[i]? = some (a, z, tw) := by rw [List.getElem?_eq_getElem hil, hs]
  have hsm := List.mem_of_getElem? hsQ
  have hsb := hQ.sok.bd a (List.mem_map.2 ⟨_, hsm, rfl⟩)
  have htl := (hQ.tl _ hsm).1
  simp only at htl
  obtain ⟨v0, v1, v2⟩ := c3_get hil
  rw [hs] at v0 v1 v2
  have hcl := c3_len Q
  have g0 := QH_0 H (c3 Q) (sEnt Q)
  have l0 : i * 3 < Q.length * 3 := by omega
  have l2 : i * 3 + 2 < Q.length * 3 := by omega
  simp only [bfsS, hsQ] at hb
  obtain ⟨cs, hcs⟩ : ∃ cs, c3 Q = cs := ⟨_, rfl⟩
  rw [hcs] at v0 v1 v2 hcl g0 htk ⊢
  rw [List.getElem?_eq_getElem (by omega)] at v0 v1 v2
  have v0 := Option.some.inj v0
  have v1 := Option.some.inj v1
  have v2 := Option.some.inj v2
  simp only at v0 v1 v2
  obtain ⟨a, rfl⟩ := Int.eq_ofNat_of_zero_le hsb.1
  have hal : a < rl.length := by omega
  obtain ⟨ra, hra⟩ : ∃ x, rl[a] = x := ⟨_, rfl⟩
  have hrv : rulV rl a = ra := by rw [rulV_nat hal, hra]
  have hPp : P (a : Int) = decide (ra = r) := by simp only [P, hrv]
  simp [-wb_regN, -wb_regD, bx1]
  rw [wb_regN]
  simp [-wb_regN, -wb_regD, hil]
  rw [wb_regD rfl]
  by_cases hab : ra = r
  · rw [hPp, if_pos (decide_eq_true hab)] at hb
    subst hb
    simp [-wb_regN, -wb_regD, hil, g0, hcl, l0, v0, hal, hra, hab]
    rw [wb_regN]
    simp [-wb_regN, hil, g0, hcl, l2, v2, htk, txtV]
  rw [hPp, if_neg (by simpa using hab)] at hb
  have e1 : (ra == r) = false := by rw [beq_eq_false_iff_ne]; exact hab
  simp [-wb_regN, -wb_regD, hil, g0, hcl, l0, v0, hal, hra, e1]
  rw [wb_regN]
  simp [-wb_regN]
  refine wb_loop (σ := List P3 × Nat) (fun t => [(1, I r), (2, bx1), (6, .hs H.length (t.1.length * 3) 0 t.1.length 3), (7, .mp (H.length + 1)), (8, I i), (9, I t.2)]) (fun t => QH H (c3 t.1) (sEnt t.1))
    (fun t => SQ rl.length t.1 ∧ t.2 ≤ 256 ∧ t.1 = expSK nx a tw Q t.2 ∧ t.1[i]? = some ((a : Int), z, tw) ∧ tw.length ≤ t.1.length) (fun t => 256 - t.2)
    ?_ (Q, 0) ⟨hQ, Nat.zero_le _, rfl, hsQ, htl⟩ (by simp [bx1]) (by rw [hcs])
  rintro ⟨Q2, c⟩ ⟨hQ2, hc, hx, hi2, htl2⟩
  simp only at hQ2 hc hx hi2 htl2
  unfold t24L1
  have hil2 := lt_of_get hi2
  by_cases hcl : c < 256
  case neg =>
    obtain rfl : c = 256 := by omega
    rw [← hx] at hb
    simp [w]
    rw [rnd_nrm]
    exact ⟨(Q2, i + 1, fu), ⟨hQ2, hil2, hb, by simp only; omega⟩, by simp only; omega, by simp [bx1], rfl⟩
  have hcI : (c : Int) < 256 := by omega
  have w4 : IntKind.i64.wrap ((c : Int) + 1) = (c : Int) + 1 := wrap64 (by omega) (by omega)
  have hLi : Q2[i] = ((a : Int), z, tw) := by rw [List.getElem?_eq_getElem hil2] at hi2; exact Option.some.inj hi2
  obtain ⟨v0, v1, v2⟩ := c3_get hil2
  rw [hLi] at v0 v1 v2
  have hcl3 := c3_len Q2
  have l0 : i * 3 < Q2.length * 3 := by omega
  have l2 : i * 3 + 2 < Q2.length * 3 := by omega
  have g0 := QH_0 H (c3 Q2) (sEnt Q2)
  have k1 := fun K L => ka1 K L (QH H (c3 Q2) (sEnt Q2)) a hsb.2 c hcl
  obtain ⟨x, hxe⟩ : ∃ x, toV nx a c = x := ⟨_, rfl⟩
  rw [hxe] at k1
  have hmo : mapOf (QH H (c3 Q2) (sEnt Q2)) (.mp (H.length + 1)) = some (sEnt Q2) := by simp only [mapOf, QH_1]
  have hmg := mget_s x Q2
  have hko := keyOk_i x
  obtain ⟨cs, hcs⟩ : ∃ cs, c3 Q2 = cs := ⟨_, rfl⟩
  rw [hcs] at v0 v1 v2 hcl3 g0 k1 hmo ⊢
  rw [List.getElem?_eq_getElem (by omega)] at v0 v1 v2
  have v0 := Option.some.inj v0
  have v1 := Option.some.inj v1
  have v2 := Option.some.inj v2
  simp only at v0 v1 v2
  simp [-wb_regN, -wb_regD, bx1]
  rw [wb_regN]
  simp [-wb_regN, -wb_regD, hcl, hcI]
  rw [wb_regD rfl]
  simp [-wb_regN, -wb_regD, hil2, g0, hcl3, l0, v0, k1]
  rw [wb_regN]
  simp [-wb_regN, -wb_regD, -wr_cons, -wr_nil]
  have hexp := expSK_succ nx a tw Q c
  rw [← hx] at hexp
  unfold expS at hexp
  rw [hxe] at hexp
  have hsq := hQ2.exp ok1 (a := (a : Int)) (w := tw) hsb.2 htl2 hcl
  unfold expS at hsq
  rw [hxe] at hsq
  by_cases hx0 : 0 ≤ x
  case neg =>
    rw [if_pos (.inl (by omega))] at hexp
    iterate 8 (rw [wr_cons]; simp [-wb_regN, -wb_regD, -wr_cons, -wr_nil, hx0])
    rw [wr_nil, fol_nrm, wb_false rfl, wb_skip]
    simp [-wb_regN]
    rw [wb_regN]
    simp [-wb_regN, w4]
    rw [rnd_nrm]
    exact ⟨(Q2, c + 1), ⟨hQ2, hcl, hexp.symm, hi2, htl2⟩, by simp only; omega, by simp [bx1], by rw [hcs]⟩
  by_cases hin : x ∈ Q2.map (·.1)
  · rw [if_pos hin] at hmg
    rw [if_pos (.inr hin)] at hexp
    iterate 8 (rw [wr_cons]; simp [-wb_regN, -wb_regD, -wr_cons, -wr_nil, hx0, hmo, hmg, hko])
    rw [wr_nil, fol_nrm, wb_false rfl, wb_skip]
    simp [-wb_regN]
    rw [wb_regN]
    simp [-wb_regN, w4]
    rw [rnd_nrm]
    exact ⟨(Q2, c + 1), ⟨hQ2, hcl, hexp.symm, hi2, htl2⟩, by simp only; omega, by simp [bx1], by rw [hcs]⟩
  · rw [if_neg hin] at hmg
    have hnn : ¬ (x < 0 ∨ x ∈ Q2.map (·.1)) := fun h => h.elim (by omega) hin
    rw [if_neg hnn] at hexp hsq
    let t : P3 := (x, 0, tw ++ [UInt8.ofNat c])
    have hms := mset_s x (tw ++ [UInt8.ofNat c]) Q2 hin
    have g5 := QH_1 H cs (sEnt Q2)
    have hs1 := QH_s1 H cs (sEnt Q2) (sEnt (Q2 ++ [t]))
    have g6 := QH_0 H cs (sEnt (Q2 ++ [t]))
    have hl2b := hQ2.len
    have hadd : abins .add ⟨⟨tw⟩⟩ ⟨#[UInt8.ofNat c]⟩ = some (Sg (tw ++ [UInt8.ofNat c])) := sg_add (by simp; omega)
    have wu : IntKind.u8.wrap (c : Int) = (c : Int) := wrapu8 (by omega) (by omega)
    have hby : bytesOf [.val (.int .u8 (c : Int))] = some [UInt8.ofNat c] := by
      have := bytesOf_bsL [UInt8.ofNat c]
      simp only [bsL, List.map_cons, List.map_nil] at this
      rw [show Ub (UInt8.ofNat c) = .val (.int .u8 (c : Int)) by unfold Ub; rw [UInt8.toNat_ofNat', Nat.mod_eq_of_lt (by omega)]] at this
      exact this
    have hcs2 : cs ++ [I x, I 0, Sg (tw ++ [UInt8.ofNat c])] = c3 (Q2 ++ [t]) := by
      rw [c3_app, hcs]; rfl
    have hs0 := QH_s0 H cs (c3 (Q2 ++ [t])) (sEnt (Q2 ++ [t]))
    rw [← hcs2] at hs0
    have hro : (Q2.length + 1) * 32 ≤ room := by
      unfold room; omega
    iterate 8 (rw [wr_cons]; simp [-wb_regN, -wb_regD, -wr_cons, -wr_nil, hx0, hmo, hmg, hko])
    rw [wr_nil, fol_nrm, wb_true rfl, wb_seq, wb_regN]
    simp [-wb_regN, -wb_regD, -wi_mup]
    rw [wi_mup]
    simp [-wb_regN, -wb_regD, hko, hms, g5, hlk1]
    rw [hs1, wb_regD rfl]
    simp [-wb_regN, -wb_regD, -wi_appD, hil2, g6, hcl3, l2, v2, wu, hby, hadd, replaceAt]
    rw [wi_appD]
    have e3 : Q2.length * 3 + 3 = (Q2.length + 1) * 3 := by omega
    simp [-wb_regN, -wb_regD, srcCells, g6, hcl3, hro, setH, hlk]
    rw [wb_regN]
    simp [-wb_regN, w4]
    rw [rnd_nrm]
    refine ⟨(Q2 ++ [t], c + 1), ⟨hsq, hcl, hexp.symm, by simp only; rw [List.getElem?_append_left hil2]; exact hi2, by simp only [List.length_append]; omega⟩, by simp only; omega, by simp [bx1, e3], ?_⟩
    rw [hs0, hcs2]
end Go.Proofs.Ytdbbaopgmapmaaa
