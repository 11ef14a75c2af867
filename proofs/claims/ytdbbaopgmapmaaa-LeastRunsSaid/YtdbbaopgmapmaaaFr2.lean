import Derived.Test.YtdbbaopgmapmaaaFr
set_option linter.unusedSimpArgs false
set_option linter.unusedVariables false
namespace Go.Proofs.Ytdbbaopgmapmaaa
open Go Go.Hm
def FH (H : Heap) (a b : List Int) : Heap := H ++ [.cells (ints a), .cells (ints b)]
theorem FH_0 (H : Heap) (a b : List Int) : (FH H a b)[H.length]? = some (.cells (ints a)) := by unfold FH; rw [get_at0]; rfl
theorem FH_1 (H : Heap) (a b : List Int) : (FH H a b)[H.length + 1]? = some (.cells (ints b)) := by unfold FH; rw [Hm.get_at]; rfl
theorem FH_s0 (H : Heap) (a b : List Int) (k : Nat) (v : Int) (h : k < a.length) : (FH H a b).set H.length (.cells (replaceAt (ints a) k [I v])) = FH H (a.set k v) b := by
  rw [replaceAt_one _ (by rw [ints_len]; exact h), ints_set1]
  unfold FH; rw [set_at0]; rfl
theorem FH_s1 (H : Heap) (a b : List Int) (k : Nat) (v : Int) (h : k < b.length) : (FH H a b).set (H.length + 1) (.cells (replaceAt (ints b) k [I v])) = FH H a (b.set k v) := by
  rw [replaceAt_one _ (by rw [ints_len]; exact h), ints_set1]
  unfold FH; rw [Hm.set_at]; rfl
theorem FH_take (H : Heap) (a b : List Int) : (FH H a b).take H.length = H := by unfold FH; rw [take_at]
set_option maxRecDepth 20000 in
theorem from_code {lk lim : Nat} {H : Heap} (nx rl : List Int) (i : Nat) (hc : chk nx rl = true) (hi : i < rl.length) (hlk : lk ≤ H.length) :
    callW X A lk lim 18 [.agg (Dv nx rl), I i] H = some (.agg (Dv (frN nx i) (frR rl i)), H) := by
  obtain ⟨ok, m1, _⟩ := chk_ok hc
  have hlen := ok.len
  have k1 := fun K L => own_code (lk := K) (lim := L) (H := H) nx (by omega) (by omega)
  have k2 := fun K L => own_code (lk := K) (lim := L) (H := H ++ [.cells (ints nx)]) rl (by omega) (by omega)
  simp only [hsV, List.append_assoc, List.cons_append, List.nil_append] at k1 k2
  refine wb_callB [2, 4, 5] rfl A18 rfl rfl ?_
  unfold t18B
  generalize callW X A = C at k1 k2 ⊢
  have hH0 : H ++ [.cells (ints nx), .cells (ints rl)] = FH H (tabI nx.length (frA nx i 0)) rl := by unfold FH; rw [frA_0]
  simp [-wb_regN, -wb_regD]
  rw [wb_regN]
  simp [-wb_regN, -wb_regD]
  rw [wb_regD rfl]
  simp [-wb_regN, -wb_regD, -wi_stLD, k1, k2, replaceAt, noRp]
  rw [wi_stLD]
  simp [-wb_regN, -wb_regD, replaceAt]
  rw [wb_regN]
  simp [-wb_regN, -wb_regD]
  rw [hH0]
  let bx : AV := .box [.hs H.length nx.length 0 nx.length 1, .hs (H.length + 1) rl.length 0 rl.length 1]
  refine wb_loop (σ := Nat) (fun b => [(1, I i), (4, .box [.e0, .e0]), (5, bx), (6, I b)]) (fun b => FH H (tabI nx.length (frA nx i b)) rl) (fun b => b ≤ 256) (fun b => 256 - b) ?_ 0 (Nat.zero_le _) (by simp [bx]) rfl
  intro b hb
  unfold t18L1
  have w1 : IntKind.i64.wrap ((b : Int) + 1) = (b : Int) + 1 := wrap64 (by omega) (by omega)
  by_cases hbl : b < 256
  case pos =>
    have hbI : (b : Int) < 256 := by omega
    have w2 : IntKind.i64.wrap (256 * (i : Int)) = 256 * (i : Int) := wrap64 (by omega) (by omega)
    have w3 : IntKind.i64.wrap (256 * (i : Int) + b) = 256 * (i : Int) + b := wrap64 (by omega) (by omega)
    have n1 : b < nx.length := by omega
    have n2 : 256 * i + b < nx.length := by omega
    have n3 : 256 * (i : Int) + b < nx.length := by omega
    have q1 : b + 1 ≤ nx.length := by omega
    have q2 : 256 * i + b + 1 ≤ nx.length := by omega
    have n4 : 0 ≤ 256 * (i : Int) + b := by omega
    have n5 : (256 * (i : Int) + b).toNat = 256 * i + b := by omega
    have g0 := FH_0 H (tabI nx.length (frA nx i b)) rl
    have v0 := tabI_ge (frA nx i b) n1
    have v1 := tabI_ge (frA nx i b) n2
    have tl := tabI_len nx.length (frA nx i b)
    have st := frA_step nx hbl hi hlen
    have s0 := FH_s0 H (tabI nx.length (frA nx i b)) rl b (frA nx i b (256 * i + b)) (by rw [tabI_len]; exact n1)
    have tl2 : ((tabI nx.length (frA nx i b)).set b (frA nx i b (256 * i + b))).length = nx.length := by rw [List.length_set, tabI_len]
    have s1 := FH_s0 H ((tabI nx.length (frA nx i b)).set b (frA nx i b (256 * i + b))) rl (256 * i + b) (frA nx i b b) (by rw [tl2]; exact n2)
    rw [st] at s1
    have g1 := FH_0 H ((tabI nx.length (frA nx i b)).set b (frA nx i b (256 * i + b))) rl
    obtain ⟨L, hL⟩ : ∃ L, tabI nx.length (frA nx i b) = L := ⟨_, rfl⟩
    simp only [hL] at g0 v0 v1 tl s0 tl2 s1 g1 ⊢
    obtain ⟨x0, hx0⟩ : ∃ x, frA nx i b b = x := ⟨_, rfl⟩
    obtain ⟨x1, hx1⟩ : ∃ x, frA nx i b (256 * i + b) = x := ⟨_, rfl⟩
    rw [hx0] at v0 s1
    rw [hx1] at v1 s0 tl2 s1 g1
    simp [-wb_regN, -wb_regD, bx]
    rw [wb_regN]
    simp [-wb_regN, -wb_regD, hbI]
    rw [wb_regD rfl]
    simp [-wb_regN, -wb_regD, -wi_stD, w2, w3, n1, n2, n3, n4, n5, g0, tl, v0, v1]
    rw [wi_stD]
    simp [-wb_regN, -wb_regD, -wi_stD, w2, w3, n1, n2, n3, n4, n5, g0, tl, setH, hlk, s0, q1, q2]
    rw [wi_stD]
    simp [-wb_regN, -wb_regD, -wi_stD, w2, w3, n1, n2, n3, n4, n5, g1, tl2, setH, hlk, s1, q1, q2]
    rw [wb_regN]
    simp [-wb_regN, w1]
    rw [rnd_nrm]
    exact ⟨b + 1, hbl, by omega, by simp [bx], rfl⟩
  obtain rfl : b = 256 := by omega
  have hr0 : 0 < rl.length := by omega
  obtain ⟨r0, hr0e⟩ : ∃ r, rl[0] = r := ⟨_, rfl⟩
  obtain ⟨ri, hrie⟩ : ∃ r, rl[i] = r := ⟨_, rfl⟩
  obtain ⟨M, hM⟩ : ∃ M, tabI nx.length (frA nx i 256) = M := ⟨_, rfl⟩
  have hMl : M.length = nx.length := by rw [← hM, tabI_len]
  rw [hM]
  have g1 := FH_1 H M rl
  have s1 := FH_s1 H M rl 0 ri hr0
  have g2 := FH_1 H M (rl.set 0 ri)
  have s2 := FH_s1 H M (rl.set 0 ri) i r0 (by rw [List.length_set]; exact hi)
  have l2 : (rl.set 0 ri).length = rl.length := List.length_set ..
  have hfr : (rl.set 0 ri).set i r0 = frR rl i := by
    unfold frR
    have e := tabI_self rl
    have e1 : rl.set 0 ri = tabI rl.length (fun j => if j = 0 then ri else rl.getD j 0) := by
      conv => lhs; rw [← e]
      exact tabI_set hr0 (fun j _ => rfl)
    rw [e1]
    refine tabI_set hi (fun j hj => ?_)
    have gd : ∀ {j : Nat} (h : j < rl.length), rl.getD j 0 = rl[j] := fun h => by rw [List.getD_eq_getElem?_getD, List.getElem?_eq_getElem h]; rfl
    unfold swN
    by_cases hj0 : j = 0
    · rw [if_pos hj0, gd hi, hrie]
      by_cases hji : j = i
      · have : i = 0 := by omega
        subst this
        rw [if_pos hji, ← hr0e, ← hrie]
      · rw [if_neg hji, if_pos hj0]
    · rw [if_neg hj0]
      by_cases hji : j = i
      · rw [if_pos hji, if_pos hji, gd hr0, hr0e]
      · rw [if_neg hji, if_neg hji, if_neg hj0]
  rw [hfr] at s2
  have hlk1 : lk ≤ H.length + 1 := by omega
  have q3 : 1 ≤ rl.length := by omega
  have q4 : i + 1 ≤ rl.length := by omega
  simp [-wb_regN, -wb_regD, bx]
  rw [wb_regN]
  simp [-wb_regN, -wb_regD]
  rw [wb_regD rfl]
  simp [-wb_regN, -wb_regD, -wi_stD, hi, hr0, g1, hr0e, hrie]
  rw [wi_stD]
  simp [-wb_regN, -wb_regD, -wi_stD, g1, setH, hlk1, s1, hr0, hi, q3, q4]
  rw [wi_stD]
  simp [-wb_regN, -wb_regD, -wi_stD, g2, l2, setH, hlk1, s2, hr0, hi, q3, q4]
  rw [wb_regN]
  simp [-wb_regN, -wb_regD]
  have hB0 : M = tabI nx.length (frB nx i 0) := by
    rw [← hM]
    exact tabI_eq fun j _ => by unfold frB; rw [if_neg (by omega)]
  rw [hB0]
  refine wb_loop (σ := Nat) (fun b => [(1, I i), (4, .box [.e0, .e0]), (5, bx), (7, I b)]) (fun b => FH H (tabI nx.length (frB nx i b)) (frR rl i)) (fun b => b ≤ nx.length) (fun b => nx.length - b) ?_ 0 (Nat.zero_le _) (by simp [bx]) rfl
  intro b hb
  unfold t18L2
  have w1 : IntKind.i64.wrap ((b : Int) + 1) = (b : Int) + 1 := wrap64 (by omega) (by omega)
  have g0 := FH_0 H (tabI nx.length (frB nx i b)) (frR rl i)
  have tl := tabI_len nx.length (frB nx i b)
  by_cases hbl : b < nx.length
  case pos =>
    have v0 := tabI_ge (frB nx i b) hbl
    have q1 : b + 1 ≤ nx.length := hbl
    obtain ⟨x, hx⟩ : ∃ x, frA nx i 256 b = x := ⟨_, rfl⟩
    have hfb : frB nx i b b = x := by unfold frB; rw [if_neg (by omega), hx]
    rw [hfb] at v0
    have hst : (tabI nx.length (frB nx i b)).set b (swI i x) = tabI nx.length (frB nx i (b + 1)) := tabI_set hbl (fun j hj => by
      unfold frB
      by_cases e : j = b
      · subst e; rw [if_pos (by omega), if_pos rfl, hx]
      · rw [if_neg e]
        by_cases h2 : j < b
        · rw [if_pos h2, if_pos (by omega)]
        · rw [if_neg h2, if_neg (by omega)])
    have hno : swI i x = x → tabI nx.length (frB nx i b) = tabI nx.length (frB nx i (b + 1)) := fun e => by
      rw [← hst, e]
      rw [← v0]
      exact (List.set_getElem_self _).symm
    have s0 := FH_s0 H (tabI nx.length (frB nx i b)) (frR rl i) b (swI i x) (by rw [tl]; exact hbl)
    rw [hst] at s0
    obtain ⟨L, hL⟩ : ∃ L, tabI nx.length (frB nx i b) = L := ⟨_, rfl⟩
    simp only [hL] at g0 v0 tl s0 hno ⊢
    simp [-wb_regN, -wb_true, -wb_false, bx]
    rw [wb_regN]
    simp [-wb_regN, -wb_true, -wb_false, hbl]
    rw [wb_true rfl, wb_skip, fol_nrm, wb_seq, wb_block, wb_seq, wb_regN]
    simp [-wb_regN, -wb_true, -wb_false, hbl, g0, tl, v0]
    by_cases hx0 : x = 0
    · subst hx0
      have e : swI i 0 = i := by unfold swI; rw [if_pos rfl]
      rw [e] at s0
      rw [wb_true rfl, wb_regN]
      simp [-wb_regN, -wi_st, hbl, tl]
      rw [wi_st]
      simp [-wb_regN, -wi_st, hbl, tl, g0, setH, hlk, s0, q1]
      rw [wb_regN]
      simp [-wb_regN, w1]
      rw [rnd_nrm]
      exact ⟨b + 1, hbl, by omega, by simp [bx], rfl⟩
    · have hb1 : (x == 0) = false := by rw [beq_eq_false_iff_ne]; exact hx0
      rw [wb_false (by rw [show (ev _ (AO.tmp 71)) = Bo (x == 0) from rfl, hb1]), wb_seq, wb_regN]
      simp [-wb_regN, -wb_true, -wb_false, hbl, g0, tl, v0]
      by_cases hxi : x = i
      · have e : swI i x = 0 := by unfold swI; rw [if_neg hx0, if_pos hxi]
        rw [e] at s0
        have hb2 : (x == (i : Int)) = true := by rw [beq_iff_eq]; exact hxi
        rw [wb_true (by rw [show (ev _ (AO.tmp 83)) = Bo (x == (i : Int)) from rfl, hb2]), wb_regN]
        simp [-wb_regN, -wi_st, hbl, tl]
        rw [wi_st]
        simp [-wb_regN, -wi_st, hbl, tl, g0, setH, hlk, s0, q1]
        rw [wb_regN]
        simp [-wb_regN, w1]
        rw [rnd_nrm]
        exact ⟨b + 1, hbl, by omega, by simp [bx], rfl⟩
      · have e : swI i x = x := by unfold swI; rw [if_neg hx0, if_neg hxi]
        have hb2 : (x == (i : Int)) = false := by rw [beq_eq_false_iff_ne]; exact hxi
        rw [wb_false (by rw [show (ev _ (AO.tmp 83)) = Bo (x == (i : Int)) from rfl, hb2]), wb_skip]
        simp [-wb_regN]
        rw [wb_regN]
        simp [-wb_regN, w1]
        rw [rnd_nrm]
        exact ⟨b + 1, hbl, by omega, by simp [bx], by rw [hno e]⟩
  obtain rfl : b = nx.length := by omega
  have hfin : tabI nx.length (frB nx i nx.length) = frN nx i := by
    unfold frN
    exact tabI_eq fun j hj => by unfold frB; rw [if_pos hj]
  rw [hfin] at g0 tl ⊢
  have hR1 := FH_1 H (frN nx i) (frR rl i)
  have hRl : (frR rl i).length = rl.length := by unfold frR; rw [tabI_len]
  have htk := FH_take H (frN nx i) (frR rl i)
  have n2 : ¬ H.length + 1 < H.length := by omega
  simp [-wb_regN, -wb_true, -wb_false, bx]
  rw [wb_regN]
  simp [-wb_regN, -wb_true, -wb_false]
  rw [wb_false rfl]
  simp [-wb_regN]
  rw [wb_regN]
  simp [-wi_stL]
  rw [wi_stL]
  simp [replaceAt, g0, hR1, tl, hRl, htk, n2]
end Go.Proofs.Ytdbbaopgmapmaaa
