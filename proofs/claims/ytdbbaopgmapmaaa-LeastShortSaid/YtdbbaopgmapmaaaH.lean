import Derived.Test.YtdbbaopgmapmaaaG
set_option linter.unusedSimpArgs false
set_option linter.unusedVariables false
namespace Go.Proofs.Ytdbbaopgmapmaaa
open Go Go.Hm

/-! ### Which states are live -/
def rowV (nx : List Int) (i : Nat) : List Int := (nx.drop (256 * i)).take 256
def liveP (o : List Bool) (t : Int) : Bool := decide (0 ≤ t) && o.getD t.toNat false
def stL (nx : List Int) (o : List Bool) (i : Nat) : List Bool := if o.getD i false = true then o else if (rowV nx i).any (liveP o) = true then o.set i true else o
def liveM (nx rl : List Int) : List Bool := fin (rnd (stL nx) (List.range rl.length)) (rl.map fun r => decide (0 ≤ r))
theorem stL_grows (nx : List Int) (i : Nat) : Grows fun o => stL nx o i := fun o => by
  simp only [stL]
  split
  · exact .inl rfl
  · split
    · rename_i h1 h2
      exact set_grows o _ h1
    · exact .inl rfl
theorem stL_len (nx : List Int) (o : List Bool) (i : Nat) : (stL nx o i).length = o.length := by
  unfold stL
  repeat' split
  all_goals simp
theorem rndL_len (nx : List Int) : ∀ (l : List Nat) (o : List Bool), (rnd (stL nx) l o).length = o.length
  | [], o => rfl
  | i :: l, o => by
    have := rndL_len nx l (stL nx o i)
    simp only [rnd, List.foldl_cons] at this ⊢
    rw [this, stL_len]
theorem rowV_len {nx : List Int} {i n : Nat} (h : nx.length = 256 * n) (hi : i < n) : (rowV nx i).length = 256 := by
  unfold rowV
  rw [List.length_take, List.length_drop]; omega
theorem c30_code {lk lim : Nat} {H : Heap} {b n : Nat} {o : List Bool} (g0 : H[b]? = some (.cells (bools o))) (g1 : H[b + 1]? = some (.cells [.hs b n 0 n 1])) (ho : o.length = n) (t : Int) (h2 : t < n) :
    callW X A lk lim 30 [I t, .hp (b + 1) 1 0] H = some (Bo (liveP o t), H) := by
  refine wb_callB [] rfl A30 rfl rfl ?_
  unfold t30B
  unfold liveP
  by_cases h : 0 ≤ t
  · obtain ⟨t, rfl⟩ := Int.eq_ofNat_of_zero_le h
    have ht : t < o.length := by omega
    have hb : t < (bools o).length := by rw [bools_len]; omega
    have hn : t < n := by omega
    rw [Int.toNat_natCast, getD_of ht]
    obtain ⟨u, hu⟩ : ∃ u, o[t] = u := ⟨_, rfl⟩
    simp [g0, g1, hn, ho, hb, hu, bools_get]
  · simp [h]
theorem posL_take (rl : List Int) (k : Nat) (h : k < rl.length) : ((rl.take k).map (fun r => decide (0 ≤ r)) ++ List.replicate (rl.length - k) false).set k (decide (0 ≤ rl[k])) = (rl.take (k + 1)).map (fun r => decide (0 ≤ r)) ++ List.replicate (rl.length - (k + 1)) false := by
  rw [List.set_append, if_neg (by simp; omega)]
  have e : rl.length - k = (rl.length - (k + 1)) + 1 := by omega
  have z : k - ((rl.take k).map fun r => decide (0 ≤ r)).length = 0 := by simp; omega
  rw [z, e, List.replicate_succ, List.set_cons_zero, List.take_succ_eq_append_getElem h, List.map_append, List.append_assoc]; rfl
def posR (rl : List Int) (k : Nat) : List Bool := (rl.take k).map (fun r => decide (0 ≤ r)) ++ List.replicate (rl.length - k) false
theorem posR_len (rl : List Int) (k : Nat) (h : k ≤ rl.length) : (posR rl k).length = rl.length := by unfold posR; simp; omega
def SL (H : Heap) (n : Nat) (o : List Bool) : Heap := H ++ [.cells (bools o), .cells [.hs H.length n 0 n 1]]
theorem SL_0 (H : Heap) (n : Nat) (o : List Bool) : (SL H n o)[H.length]? = some (.cells (bools o)) := by unfold SL; simp
theorem SL_1 (H : Heap) (n : Nat) (o : List Bool) : (SL H n o)[H.length + 1]? = some (.cells [.hs H.length n 0 n 1]) := by unfold SL; simp
theorem SL_len (H : Heap) (n : Nat) (o : List Bool) : (SL H n o).length = H.length + 2 := by unfold SL; simp
theorem SL_set (H : Heap) (n : Nat) (o o2 : List Bool) : (SL H n o).set H.length (.cells (bools o2)) = SL H n o2 := by
  unfold SL; rw [List.set_append]; simp
theorem SL_upd (H : Heap) (n : Nat) (o : List Bool) (k : Nat) (v : Bool) (h : k < o.length) : (SL H n o).set H.length (.cells (replaceAt (bools o) k [Bo v])) = SL H n (o.set k v) := by
  rw [replaceAt_one _ (by rw [bools_len]; exact h), bools_set, SL_set]
theorem SL_mk (H : Heap) (n : Nat) (o : List Bool) : H ++ [.cells (bools o)] ++ [.cells [.hs H.length n 0 n 1]] = SL H n o := by unfold SL; simp
theorem SL_take (H : Heap) (n : Nat) (o : List Bool) : (SL H n o).take H.length = H := by unfold SL; simp
theorem SL_take2 (H : Heap) (n : Nat) (o : List Bool) : (SL H n o).take (H.length + 2) = SL H n o := List.take_of_length_le (by rw [SL_len]; exact Nat.le_refl _)
set_option maxRecDepth 20000 in
theorem live_code {lk lim : Nat} {H : Heap} (nx rl : List Int) (h1 : nx.length ≤ 1000000) (h2 : rl.length ≤ 1000000) (hlk : lk ≤ H.length) :
    callW X A lk lim 13 [.agg (Dv nx rl)] H = some (if chk nx rl = true then .sl rl.length (bools (liveM nx rl)) else .e0, H) := by
  have kc := fun (L : Nat) => dcheck_code (lk := lk) (lim := L) (H := H) nx rl h1 h2
  refine wb_callB [1] rfl A13 rfl rfl ?_
  unfold t13B
  by_cases hc : chk nx rl = true
  case neg =>
    rw [if_neg hc]
    rw [chkE_neg hc] at kc
    generalize callW X A = C at kc ⊢
    simp [kc]
  rw [if_pos hc]
  rw [chkE_pos hc] at kc
  obtain ⟨⟨ok1, ok2, ok3, ok4, ok5⟩, ok6, ok7⟩ := chk_ok hc
  let bx : AV := .box (Dv nx rl)
  generalize hC : callW X A = C at kc ⊢
  have hro : (rl.length : Int) ≤ (room : Int) := by unfold room; omega
  simp [-wi_st, -wi_stL, kc, hro, bools_rep]
  rw [wi_st]
  have hlk1 : lk ≤ H.length + 1 := by omega
  simp [-wi_st, -wi_stL, setH, hlk1, set_at, Hm.get_at, get_at0]
  refine wb_loop (σ := Nat) (fun k => [(1, bx), (3, .hp (H.length + 1) 1 0), (16, .sl rl.length (ints rl)), (17, I rl.length), (18, I k)]) (fun k => SL H rl.length (posR rl k))
    (fun k => k ≤ rl.length) (fun k => rl.length - k) ?_ 0 (by simp) (by simp [bx]) (by simp [SL, posR])
  intro k hk
  unfold t13L1
  have w : IntKind.i64.wrap ((k : Int) + 1) = (k : Int) + 1 := wrap64 (by omega) (by omega)
  have g0 := SL_0 H rl.length (posR rl k)
  have g1 := SL_1 H rl.length (posR rl k)
  have hlen := SL_len H rl.length (posR rl k)
  have hbl : (bools (posR rl k)).length = rl.length := by rw [bools_len, posR_len _ _ hk]
  by_cases hkl : k < rl.length
  case pos =>
    obtain ⟨r, hr⟩ : ∃ r, rl[k] = r := ⟨_, rfl⟩
    have hk1 : k + 1 ≤ rl.length := hkl
    have hset : (posR rl k).set k (decide (0 ≤ r)) = posR rl (k + 1) := by rw [← hr]; exact posL_take rl k hkl
    simp [-wi_st, -wi_stL, hkl, hr, g0, g1, hbl, w, posR_len _ _ hk]
    rw [wi_st]
    simp [-wi_st, -wi_stL, hkl, hk1, g0, g1, hbl, w, posR_len _ _ hk, setH, hlk, SL_upd, hset]
    rw [rnd_nrm]
    exact ⟨k + 1, hk1, by omega, by simp [bx], rfl⟩
  obtain rfl : k = rl.length := by omega
  have hpos : posR rl rl.length = rl.map (fun r => decide (0 ≤ r)) := by unfold posR; simp
  rw [hpos] at g0 g1 hlen hbl ⊢
  let f := rnd (stL nx) (List.range rl.length)
  have hf : Grows f := rnd_grows (fun i => stL_grows nx i) _
  simp
  refine wb_loop (σ := List Bool × Bool) (fun s => [(1, bx), (3, .hp (H.length + 1) 1 0), (6, Bo s.2)]) (fun s => SL H rl.length s.1)
    (fun s => s.1.length = rl.length ∧ fin f s.1 = liveM nx rl ∧ (s.2 = false → f s.1 = s.1)) (fun s => cntF s.1 + if s.2 = true then 1 else 0) ?_ (rl.map (fun r => decide (0 ≤ r)), true) ⟨by simp, rfl, by simp⟩ (by simp [bx]) (by simp)
  clear w g0 g1 hlen hbl
  rintro ⟨o, more⟩ ⟨ho, hfin, hmore⟩
  simp only at ho hfin hmore
  unfold t13L3
  have g0 := SL_0 H rl.length o
  have g1 := SL_1 H rl.length o
  have htk := SL_take H rl.length o
  have hbl : (bools o).length = rl.length := by rw [bools_len]; exact ho
  cases more with
  | false =>
    have h1 : fin f o = o := by rw [fin_step hf, if_pos (hmore rfl)]
    rw [h1] at hfin
    rw [← hfin]
    have hb := frz_bools H.length (SL H rl.length o) 7 o
    have hb2 := bel_bools 0 o
    have htk2 : (bools o).take rl.length = bools o := List.take_of_length_le (by rw [bools_len]; omega)
    simp [g0, g1, hb, hb2, htk, htk2, ho]
  | true =>
    simp [g0, g1]
    refine wb_loop (σ := Nat × List Bool × Bool) (fun s => [(1, bx), (3, .hp (H.length + 1) 1 0), (6, Bo s.2.2), (31, I rl.length), (32, I s.1)]) (fun s => SL H rl.length s.2.1)
      (fun s => s.1 ≤ rl.length ∧ s.2.1 = rnd (stL nx) ((List.range rl.length).take s.1) o ∧ s.2.2 = decide (s.2.1 ≠ o)) (fun s => rl.length - s.1) ?_ (0, o, false) ⟨Nat.zero_le _, rfl, by simp⟩ (by simp [bx]) rfl
    clear g0 g1 htk hbl
    rintro ⟨i, o2, more⟩ ⟨hi, ho2, hm⟩
    simp only at hi ho2 hm
    unfold t13L2
    have w1 : IntKind.i64.wrap ((i : Int) + 1) = (i : Int) + 1 := wrap64 (by omega) (by omega)
    have hlen2 : o2.length = rl.length := by rw [ho2, rndL_len, ho]
    have g0 := SL_0 H rl.length o2
    have g1 := SL_1 H rl.length o2
    have hbl : (bools o2).length = rl.length := by rw [bools_len]; exact hlen2
    by_cases hil : i < rl.length
    case neg =>
      obtain rfl : i = rl.length := by omega
      rw [List.take_of_length_le (by simp)] at ho2
      have hfo : f o = o2 := ho2.symm
      have hstep := fin_step hf o
      rw [hfo] at hstep
      simp
      rw [rnd_nrm]
      refine ⟨(o2, more), ⟨hlen2, ?_, fun h => ?_⟩, ?_, by simp [bx], rfl⟩
      · rw [← hfin, hstep]
        by_cases he : o2 = o
        · rw [if_pos he, he, fin_step hf o, if_pos (hfo.trans he)]
        · rw [if_neg he]
      · have h : more = false := h
        rw [h] at hm
        have he : o2 = o := by simpa using hm.symm
        show f o2 = o2
        rw [he] at hfo ⊢; exact hfo
      · show cntF o2 + (if more = true then 1 else 0) < cntF o + (if true = true then 1 else 0)
        by_cases he : o2 = o
        · rw [hm]; simp [he]
        · have := hf o
          rw [hfo] at this
          rcases this with h | h
          · exact absurd h he
          · rw [hm]; simp [he]; omega
    have hil1 : i + 1 ≤ rl.length := hil
    have hil2 : i < o2.length := by omega
    have hnext : rnd (stL nx) ((List.range rl.length).take (i + 1)) o = stL nx o2 i := by rw [rnd_take _ _ _ _ (by simp; exact hil), ← ho2]; simp
    obtain ⟨v, hv⟩ : ∃ v, o2[i] = v := ⟨_, rfl⟩
    have hgD : o2.getD i false = v := by rw [getD_of hil2, hv]
    have hch : decide (stL nx o2 i ≠ o) = (decide (stL nx o2 i ≠ o2) || more) := by
      have hle := rnd_le (fun i => stL_grows nx i) ((List.range rl.length).take i) o
      rw [← ho2] at hle
      rw [hm]
      by_cases h1 : stL nx o2 i = o2
      · rw [h1]; simp
      · have h3 : cntF (stL nx o2 i) < cntF o2 := by
          rcases stL_grows nx i o2 with h | h
          · exact absurd h h1
          · exact h
        have h4 : stL nx o2 i ≠ o := fun h => by rw [h] at h3; omega
        simp [h1, h4]
    cases v with
    | true =>
      have hst : stL nx o2 i = o2 := by unfold stL; rw [if_pos hgD]
      rw [hst] at hnext hch
      simp [hil, g0, g1, hlen2, hil2, hv, w1]
      rw [rnd_nrm]
      exact ⟨(i + 1, o2, more), ⟨hil1, by simpa using hnext.symm, by simpa using hch.symm⟩, by simp only; omega, by simp [bx], rfl⟩
    | false =>
      have kr := fun L => has29_code (lk := lk) (lim := L) (H := SL H rl.length o2) (f := 30) (cap := [.hp (H.length + 1) 1 0]) (rowV nx i) (liveP o2) (by rw [rowV_len ok3 hil]; omega) rfl (fun x hx => c30_code g0 g1 hlen2 x (ok4 x (List.mem_of_mem_drop (List.mem_of_mem_take hx))).2)
      rw [rowV_len ok3 hil, hC] at kr
      have hrow : ((ints nx).drop (256 * i)).take 256 = ints (rowV nx i) := by unfold rowV; simp [ints]
      have w2 : IntKind.i64.wrap (256 * (i : Int)) = 256 * (i : Int) := wrap64 (by omega) (by omega)
      have w3 : IntKind.i64.wrap (256 * ((i : Int) + 1)) = 256 * ((i : Int) + 1) := wrap64 (by omega) (by omega)
      have e1 : (i : Int) ≤ (i : Int) + 1 := by omega
      have e2 : 256 * ((i : Int) + 1) ≤ (nx.length : Int) := by omega
      have e3 : (256 * ((i : Int) + 1)).toNat = 256 * (i + 1) := by omega
      have e4 : 0 ≤ 256 * ((i : Int) + 1) := by omega
      have e5 : 0 ≤ 256 * (i : Int) := by omega
      have e6 : (256 * (i : Int)).toNat = 256 * i := by omega
      have e7 : 256 * (i + 1) - 256 * i = 256 := by omega
      simp [-wi_st, -wi_stL, -wi_call, hil, g0, g1, hlen2, hil2, hv, w1, w2, w3, bx, bnd, e1, e2, e3, e4, e5, e6, e7]
      rw [wi_call]
      have hst : stL nx o2 i = if (rowV nx i).any (liveP o2) = true then o2.set i true else o2 := by
        unfold stL; rw [if_neg (by rw [hgD]; simp)]
      cases hany : (rowV nx i).any (liveP o2) with
      | false =>
        rw [hany] at hst kr
        rw [if_neg (by simp)] at hst
        rw [hst] at hnext hch
        simp [-wi_st, -wi_stL, aok_val, hrow, kr, w1, SL_len, SL_take2]
        rw [rnd_nrm]
        exact ⟨(i + 1, o2, more), ⟨hil1, by simpa using hnext.symm, by simpa using hch.symm⟩, by simp only; omega, by simp [bx], rfl⟩
      | true =>
        rw [hany] at hst kr
        rw [if_pos rfl] at hst
        rw [hst] at hnext hch
        have hne : o2.set i true ≠ o2 := fun h => by
          have : (o2.set i true)[i]'(by simpa using hil2) = o2[i] := by simp only [h]
          rw [List.getElem_set_self, hv] at this
          cases this
        simp [-wi_st, -wi_stL, -wb_regN, aok_val, hrow, kr, SL_len, SL_take2]
        rw [wb_regN]
        simp [-wi_st, -wi_stL, g0, g1, hil]
        rw [wi_st]
        simp [-wi_st, -wi_stL, w1, g0, g1, hil, hil1, hlen2, setH, hlk, SL_upd]
        rw [rnd_nrm]
        exact ⟨(i + 1, o2.set i true, true), ⟨hil1, by simpa using hnext.symm, by simpa [hne] using hch.symm⟩, by simp only; omega, by simp [bx], rfl⟩
end Go.Proofs.Ytdbbaopgmapmaaa
