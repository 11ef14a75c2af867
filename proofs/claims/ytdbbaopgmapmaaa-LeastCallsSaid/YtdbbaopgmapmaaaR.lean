import Derived.Test.YtdbbaopgmapmaaaGD
set_option linter.unusedSimpArgs false
set_option linter.unusedVariables false
namespace Go.Proofs.Ytdbbaopgmapmaaa
open Go Go.Hm
theorem chain_of {nx1 nx2 : List Int} {n1 n2 : Nat} {Q : List Stp} (h : QOk nx1 nx2 n1 n2 Q) : ∀ k (hk : k < Q.length), k ≠ 0 → Q[k].par < k := fun k hk h0 => (h.from_ k _ (List.getElem?_eq_getElem hk) h0).1
set_option maxRecDepth 20000 in
/-- Looking for the first text: breadth first. -/
theorem first_code {lk lim : Nat} {H : Heap} {nx1 rl1 nx2 rl2 : List Int} (ok1 : TOk nx1 rl1) (ok2 : TOk nx2 rl2) (m1 : rl1.length ≤ 512) (m2 : rl2.length ≤ 512) {f : FuncId} {cap : List AV} (P : Int → Int → Bool) (hcap : cap.all argOk = true)
    (hP : ∀ (H' : Heap) (K L : Nat) (x y : Int), H'.take H.length = H → K ≤ H'.length → x < rl1.length → y < rl2.length → callW X A K L f (I x :: I y :: cap) H' = some (Bo (P x y), H')) (hlk : lk ≤ H.length) :
    callW X A lk lim 31 [.agg (Dv nx1 rl1), .agg (Dv nx2 rl2), .fn f cap] H = some (match bfs nx1 nx2 P ((rl1.length + 1) * (rl2.length + 1) + 1) [⟨0, 0, 0, 0⟩] 0 with | some l => .tup [Sg l, Bo true] | none => .tup [Sg [], Bo false], H) := by
  refine wb_callB [3, 4, 13] rfl A31 rfl rfl ?_
  unfold t31B
  let s0 : Stp := ⟨0, 0, 0, 0⟩
  have hms : mset true [1, 1] (.agg [I 0, I 0]) (Bo true) [] = some (pEnt [s0]) := rfl
  have hko : keyOk true [1, 1] (.agg [I 0, I 0]) = true := pair_ok 0 0
  simp [-wi_mup, -wb_regN]
  rw [wb_regN]
  simp [-wi_mup, -wb_regN, replaceAt]
  rw [wb_regN]
  simp [-wi_mup, -wb_regN, replaceAt]
  rw [wi_mup]
  simp [-wb_regN, hko, hms, hlk]
  rw [wb_regN]
  simp [-wb_regN]
  rw [wb_regN]
  simp [-wb_regN]
  obtain ⟨res, hres⟩ : ∃ res, bfs nx1 nx2 P ((rl1.length + 1) * (rl2.length + 1) + 1) [s0] 0 = res := ⟨_, rfl⟩
  have hres2 : bfs nx1 nx2 P ((rl1.length + 1) * (rl2.length + 1) + 1) [⟨0, 0, 0, 0⟩] 0 = res := hres
  rw [hres2]
  let bx1 : AV := .box (Dv nx1 rl1)
  let bx2 : AV := .box (Dv nx2 rl2)
  have o1 := ok1.one
  have o2 := ok2.one
  have hq0 : QOk nx1 nx2 rl1.length rl2.length [s0] := ⟨rfl, by simp, fun s hs => by obtain rfl := List.mem_singleton.1 hs; simp only [s0]; omega, fun k t hk h0 => by rw [List.getElem?_eq_none (by simp; omega)] at hk; cases hk⟩
  have hf0 : FHp H (H ++ [.map (pEnt [s0]), .cells [I 0, I 0, .val (.int .u8 0), .val (.pointer none)], .cells [.hp (H.length + 1) 4 0]]) [s0] := by
    refine ⟨by simp, by simp, by simp, by simp [qC], ⟨fun k hk => ?_, fun k hk h0 => ?_⟩⟩
    · obtain rfl : k = 0 := by simp at hk; omega
      rw [Nat.mul_zero, Nat.add_zero, Hm.get_at]; rfl
    · simp at hk; omega
  refine wb_loop (σ := Heap × List Stp × Nat × Nat) (fun s => [(2, .fn f cap), (3, bx1), (4, bx2), (8, .mp H.length), (9, .hs (H.length + 2) s.2.1.length 0 s.2.1.length 1), (10, I s.2.2.1)]) (fun s => s.1)
    (fun s => FHp H s.1 s.2.1 ∧ QOk nx1 nx2 rl1.length rl2.length s.2.1 ∧ s.2.2.1 ≤ s.2.1.length ∧ bfs nx1 nx2 P s.2.2.2 s.2.1 s.2.2.1 = res ∧ (rl1.length + 1) * (rl2.length + 1) + 1 ≤ s.2.2.2 + s.2.2.1) (fun s => s.2.2.2)
    ?_ (_, [s0], 0, (rl1.length + 1) * (rl2.length + 1) + 1) ⟨hf0, hq0, by simp, hres, by simp⟩ (by simp [bx1, bx2]) rfl
  rintro ⟨G, Q, i, fu⟩ ⟨hF, hQ, hi, hb, hfu⟩
  simp only at hF hQ hi hb hfu
  unfold t31L2
  have hlen := hQ.len
  obtain ⟨fu, rfl⟩ : ∃ g, fu = g + 1 := ⟨fu - 1, by omega⟩
  have hB : (rl1.length + 1) * (rl2.length + 1) ≤ 513 * 513 := Nat.mul_le_mul (by omega) (by omega)
  have w : IntKind.i64.wrap ((i : Int) + 1) = (i : Int) + 1 := wrap64 (by omega) (by omega)
  by_cases hil : i < Q.length
  case neg =>
    obtain rfl : i = Q.length := by omega
    simp only [bfs] at hb
    rw [List.getElem?_eq_none (Nat.le_refl _)] at hb
    simp only at hb
    subst hb
    have hlow := hF.low
    simp [bx1, bx2, hlow]
  obtain ⟨s, hs⟩ : ∃ s, Q[i] = s := ⟨_, rfl⟩
  have hsQ : Q[i]? = some s := by rw [List.getElem?_eq_getElem hil, hs]
  have hsb := hQ.bd s (hs ▸ List.getElem_mem hil)
  have kP := fun K L (hK : K ≤ G.length) => hP G K L s.a s.b hF.low hK hsb.2.1 hsb.2.2.2
  have g0 := hF.chain.at_ i hil
  rw [hs] at g0
  have g1 := hF.row
  have g2 : (qC H.length Q.length)[i]? = some (.hp (H.length + 1 + 2 * i) 4 0) := qC_get hil
  have g3 := qC_len H.length Q.length
  have hi1 : i + 1 ≤ Q.length := hil
  simp only [bfs, hsQ] at hb
  have kT := fun L => text_code (lk := lk) (lim := L) hF.chain hil (by omega) (by rw [hF.len]; omega)
  simp only [stpC] at g0
  generalize hC : callW X A = C at kP kT ⊢
  simp [-wb_regN, bx1, bx2, hil]
  rw [wb_regN]
  simp [-wb_regN, hil]
  rw [wb_regN]
  have g4 : (qC H.length Q.length)[i]'(by rw [g3]; exact hil) = .hp (H.length + 1 + 2 * i) 4 0 := by rw [List.getElem?_eq_getElem (by rw [g3]; exact hil)] at g2; exact Option.some.inj g2
  simp [-wb_regN, -wb_regD, hil, g0, g1, g4, g3]
  rw [wb_regD rfl]
  have hlG : lk ≤ G.length := by rw [hF.len]; omega
  have kP1 := fun L => kP lk L hlG
  cases hp : P s.a s.b with
  | true =>
    rw [hp] at kP1
    rw [hp, if_pos rfl] at hb
    subst hb
    have hlow := hF.low
    simp [-wb_regN, -wb_regD, g0, kP1, hcap, aok_val, -argOk]
    rw [wb_regN]
    simp [-wb_regN, kT, aok_hp, hlow]
  | false =>
    rw [hp] at kP1
    rw [hp, if_neg (by simp)] at hb
    simp [-wb_regN, -wb_regD, g0, kP1, hcap, aok_val, -argOk]
    rw [wb_regN]
    simp [-wb_regN]
    have kto1 := fun (c : Nat) (hc : c < 256) (K L : Nat) (G' : Heap) => to_code (lk := K) (lim := L) (H := G') nx1 rl1 ok1 s.a hsb.2.1 c hc
    have kto2 := fun (c : Nat) (hc : c < 256) (K L : Nat) (G' : Heap) => to_code (lk := K) (lim := L) (H := G') nx2 rl2 ok2 s.b hsb.2.2.2 c hc
    rw [hC] at kto1 kto2
    clear g4 g0 g1 g2 g3 kT
    refine wb_loop (σ := Heap × List Stp × Nat) (fun t => [(2, .fn f cap), (3, bx1), (4, bx2), (8, .mp H.length), (9, .hs (H.length + 2) t.2.1.length 0 t.2.1.length 1), (10, I i), (11, .hp (H.length + 1 + 2 * i) 4 0), (42, I t.2.2)]) (fun t => t.1)
      (fun t => FHp H t.1 t.2.1 ∧ QOk nx1 nx2 rl1.length rl2.length t.2.1 ∧ t.2.2 ≤ 256 ∧ t.2.1 = expK nx1 nx2 s i Q t.2.2 ∧ t.2.1[i]? = some s) (fun t => 256 - t.2.2)
      ?_ (G, Q, 0) ⟨hF, hQ, Nat.zero_le _, rfl, hsQ⟩ (by simp [bx1, bx2]) rfl
    rintro ⟨G2, Q2, c⟩ ⟨hF2, hQ2, hc, hx, hi2⟩
    simp only at hF2 hQ2 hc hx hi2
    unfold t31L1
    by_cases hcl : c < 256
    case neg =>
      obtain rfl : c = 256 := by omega
      rw [← hx] at hb
      have hil2 : i < Q2.length := by
        rcases Nat.lt_or_ge i Q2.length with h2 | h2
        · exact h2
        · rw [List.getElem?_eq_none h2] at hi2; cases hi2
      simp [w]
      rw [rnd_nrm]
      exact ⟨(G2, Q2, i + 1, fu), ⟨hF2, hQ2, hil2, hb, by simp only; omega⟩, by simp only; omega, by simp [bx1, bx2], rfl⟩
    have hil2 : i < Q2.length := by
      rcases Nat.lt_or_ge i Q2.length with h2 | h2
      · exact h2
      · rw [List.getElem?_eq_none h2] at hi2; cases hi2
    have hs2 : Q2[i] = s := by rw [List.getElem?_eq_getElem hil2] at hi2; exact Option.some.inj hi2
    have g0 := hF2.chain.at_ i hil2
    rw [hs2] at g0
    simp only [stpC] at g0
    have hcI : (c : Int) < 256 := by omega
    have w4 : IntKind.i64.wrap ((c : Int) + 1) = (c : Int) + 1 := wrap64 (by omega) (by omega)
    have k1 := fun K L => kto1 c hcl K L G2
    have k2 := fun K L => kto2 c hcl K L G2
    simp [-wb_regN, -wb_regD, hcl, hcI, bx1, bx2]
    rw [wb_regN]
    simp [-wb_regN, -wb_regD, hcl, hcI]
    rw [wb_regN]
    simp [-wb_regN, -wb_regD]
    rw [wb_regD rfl]
    simp [-wb_regN, -wb_regD, -wi_stLD, -wi_stL, g0, k1, k2, replaceAt, noRp]
    rw [wi_stLD]
    simp [-wb_regN, -wb_regD, -wi_stLD, -wi_stL, replaceAt]
    obtain ⟨x, hxe⟩ : ∃ x, toV nx1 s.a c = x := ⟨_, rfl⟩
    obtain ⟨y, hye⟩ : ∃ y, toV nx2 s.b c = y := ⟨_, rfl⟩
    rw [hxe, hye]
    have hmo : mapOf G2 (.mp H.length) = some (pEnt Q2) := by simp only [mapOf, hF2.map_]
    have hmg := mget_pair x y Q2
    have hko := pair_ok x y
    rw [wb_regN]
    by_cases hin : (x, y) ∈ Q2.map pairS
    · rw [if_pos hin] at hmg
      have hex : expK nx1 nx2 s i Q (c + 1) = Q2 := by
        rw [expK_succ, ← hx]; unfold exp1; rw [hxe, hye, if_pos hin]
      simp [-wb_regN, -wb_regD, hmo, hmg, hko]
      rw [wb_regN]
      simp [-wb_regN, w4]
      rw [rnd_nrm]
      exact ⟨(G2, Q2, c + 1), ⟨hF2, hQ2, hcl, hex.symm, hi2⟩, by simp only; omega, by simp [bx1, bx2], rfl⟩
    · rw [if_neg hin] at hmg
      let t : Stp := ⟨x, y, UInt8.ofNat c, i⟩
      have hex : expK nx1 nx2 s i Q (c + 1) = Q2 ++ [t] := by
        rw [expK_succ, ← hx]; unfold exp1; rw [hxe, hye, if_neg hin]
      have hQ3 : QOk nx1 nx2 rl1.length rl2.length (Q2 ++ [t]) := by
        have h := hQ2.exp1 ok1 ok2 hi2 hcl
        unfold exp1 at h
        rw [hxe, hye, if_neg hin] at h; exact h
      have hF3 := hF2.next (by intro e; rw [e] at hil2; simp at hil2) t hil2
      have hms := mset_pair x y (UInt8.ofNat c) i Q2 hin
      have g5 := hF2.map_
      simp [-wb_regN, -wb_regD, -wi_mup, hmo, hmg, hko]
      rw [wb_regN]
      simp [-wb_regN, -wb_regD, -wi_mup]
      rw [wi_mup]
      simp [-wb_regN, hko, hms, g5, hlk]
      have wu : IntKind.u8.wrap (c : Int) = (c : Int) := wrapu8 (by omega) (by omega)
      have hGl := hF2.len
      have hMl : H.length < G2.length := by omega
      rw [wb_regN]
      simp [-wb_regN, -wi_app, wu, replaceAt, hGl]
      rw [wi_app]
      have hcu : (UInt8.ofNat c).toNat = c := by simp [UInt8.toNat_ofNat, Nat.mod_eq_of_lt hcl]
      have hst : stpC H.length Q2.length t = [I x, I y, .val (.int .u8 (c : Int)), .hp (H.length + 1 + 2 * i) 4 0] := by
        unfold stpC aheadV
        rw [if_neg (by omega)]
        show [I x, I y, Ub (UInt8.ofNat c), _] = _
        rw [show Ub (UInt8.ofNat c) = .val (.int .u8 (c : Int)) by unfold Ub; rw [hcu]]
      obtain ⟨G3, hG3⟩ : ∃ G3, List.set G2 H.length (HB.map (pEnt (Q2 ++ [t]))) ++ [HB.cells [I x, I y, .val (.int .u8 (c : Int)), .hp (H.length + 1 + 2 * i) 4 0], HB.cells [.hp (H.length + 1 + 2 * Q2.length) 4 0]] = G3 := ⟨_, rfl⟩
      have g6 : G3[H.length + 2]? = some (.cells (qC H.length Q2.length)) := by
        rw [← hG3, List.getElem?_append_left (by simp; omega), List.getElem?_set_ne (by omega)]; exact hF2.row
      have g7 : G3[H.length + 1 + 2 * Q2.length + 1]? = some (.cells [.hp (H.length + 1 + 2 * Q2.length) 4 0]) := by
        rw [← hG3, List.getElem?_append_right (by simp; omega)]; simp [hGl]
      have hset : List.set G3 (H.length + 2) (HB.cells (qC H.length Q2.length ++ [.hp (H.length + 1 + 2 * Q2.length) 4 0])) = nextH H G2 Q2 t := by
        unfold nextH
        rw [← hG3, hst, qC_succ, List.append_assoc]; rfl
      have hG3' := hG3
      simp only [t] at hG3'
      rw [hG3']
      have hro : (Q2.length + 1) * 8 ≤ room := by
        have := hQ2.len
        have hB2 : (rl1.length + 1) * (rl2.length + 1) ≤ 513 * 513 := Nat.mul_le_mul (by omega) (by omega)
        unfold room; omega
      have hq2 := qC_len H.length Q2.length
      have hl3 : lk ≤ H.length + 2 := by omega
      simp [-wb_regN, srcCells, slN, g6, g7, hq2, hro, setH, hl3, hset]
      rw [wb_regN]
      simp [-wb_regN, w4]
      rw [rnd_nrm]
      exact ⟨(nextH H G2 Q2 t, Q2 ++ [t], c + 1), ⟨hF3, hQ3, hcl, hex.symm, by simp only; rw [List.getElem?_append_left hil2]; exact hi2⟩, by simp only; omega, by simp [bx1, bx2], rfl⟩
end Go.Proofs.Ytdbbaopgmapmaaa
