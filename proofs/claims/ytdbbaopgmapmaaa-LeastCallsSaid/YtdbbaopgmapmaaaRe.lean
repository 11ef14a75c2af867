import Derived.Test.YtdbbaopgmapmaaaRd
set_option linter.unusedSimpArgs false
set_option linter.unusedVariables false
namespace Go.Proofs.Ytdbbaopgmapmaaa
open Go Go.Hm
/-! ### What is live, as the document has it -/
def BH (H : Heap) (o : List Bool) : Heap := H ++ [.cells (bools o)]
theorem BH_0 (H : Heap) (o : List Bool) : (BH H o)[H.length]? = some (.cells (bools o)) := by unfold BH; simp
theorem BH_take (H : Heap) (o : List Bool) : (BH H o).take H.length = H := by unfold BH; rw [take_at]
theorem BH_upd (H : Heap) (o : List Bool) (k : Nat) (v : Bool) (h : k < o.length) : (BH H o).set H.length (.cells (replaceAt (bools o) k [Bo v])) = BH H (o.set k v) := by
  rw [replaceAt_one _ (by rw [bools_len]; exact h), bools_set]
  unfold BH; rw [set_at0]; rfl
theorem bget {o : List Bool} {k : Nat} {v : Bool} (h : k < o.length) (hv : o[k] = v) : (bools o)[k]'(by rw [bools_len]; exact h) = Bo v := by
  rw [bools_ge, hv]
set_option maxRecDepth 20000 in
theorem rlive_code {lk lim : Nat} {H : Heap} (nx rl : List Int) (h1 : nx.length ≤ 1000000) (h2 : rl.length ≤ 1000000) (hlk : lk ≤ H.length) :
    callW X A lk lim 25 [.agg (Dv nx rl)] H = some (if chk nx rl = true then .sl rl.length (bools (liveM nx rl)) else .e0, H) := by
  have kc := fun (L : Nat) => check_code (lk := lk) (lim := L) (H := H) nx rl h1 h2
  refine wb_callB [1] rfl A25 rfl rfl ?_
  unfold t25B
  by_cases hc : chk nx rl = true
  case neg =>
    rw [if_neg hc]
    rw [chkE_neg hc] at kc
    generalize callW X A = C at kc ⊢
    simp [kc]
  rw [if_pos hc]
  rw [chkE_pos hc] at kc
  obtain ⟨ok, ok6, ok7⟩ := chk_ok hc
  have ok3 := ok.len
  have ok4 := ok.nxb
  let bx : AV := .box (Dv nx rl)
  generalize hC : callW X A = C at kc ⊢
  have hro : rl.length * 1 ≤ room := by unfold room; omega
  have hrep : repl rl.length [.val (.bool false)] = bools (posR rl 0) := by unfold posR; simp [repl, bools]
  have hB0 : H ++ [.cells (bools (posR rl 0))] = BH H (posR rl 0) := rfl
  simp [-wb_regN]
  rw [wb_regN]
  simp [-wb_regN]
  rw [wb_regN]
  simp [-wb_regN, kc]
  rw [wb_regN]
  simp [-wb_regN]
  rw [wb_regN]
  simp [-wb_regN, -wi_mks]
  rw [wi_mks, mk_mks (l := .tmp 16) (z := [Bo false]) (es := 1) (n := rl.length) rfl rfl hro, hrep]
  simp [-wb_regN, hB0]
  rw [wb_regN]
  simp [-wb_regN]
  let so : AV := .hs H.length rl.length 0 rl.length 1
  refine wb_loop (σ := Nat) (fun k => [(1, bx), (3, I rl.length), (4, so), (5, I k)]) (fun k => BH H (posR rl k)) (fun k => k ≤ rl.length) (fun k => rl.length - k) ?_ 0 (Nat.zero_le _) (by simp [bx, so]) rfl
  intro k hk
  unfold t25L1
  have w : IntKind.i64.wrap ((k : Int) + 1) = (k : Int) + 1 := wrap64 (by omega) (by omega)
  have g0 := BH_0 H (posR rl k)
  have hbl : (bools (posR rl k)).length = rl.length := by rw [bools_len, posR_len _ _ hk]
  by_cases hkl : k < rl.length
  case pos =>
    obtain ⟨r, hr⟩ : ∃ r, rl[k] = r := ⟨_, rfl⟩
    have hk1 : k + 1 ≤ rl.length := hkl
    have hset : (posR rl k).set k (decide (0 ≤ r)) = posR rl (k + 1) := by rw [← hr]; exact posL_take rl k hkl
    have hup := BH_upd H (posR rl k) k (decide (0 ≤ r)) (by rw [posR_len _ _ hk]; exact hkl)
    rw [hset] at hup
    have hpl := posR_len rl k hk
    simp [-wb_regN, bx, so]
    rw [wb_regN]
    simp [-wb_regN, hkl]
    rw [wb_regN]
    simp [-wb_regN, -wi_st, hkl, hr]
    rw [wi_st]
    simp [-wb_regN, -wi_st, g0, hbl, hpl, hk1, setH, hlk, hup]
    rw [wb_regN]
    simp [-wb_regN, w]
    rw [rnd_nrm]
    exact ⟨k + 1, hk1, by omega, by simp [bx, so], rfl⟩
  obtain rfl : k = rl.length := by omega
  have hpos : posR rl rl.length = rl.map (fun r => decide (0 ≤ r)) := by unfold posR; simp
  rw [hpos] at g0 hbl ⊢
  let f := rnd (stL nx) (List.range rl.length)
  have hf : Grows f := rnd_grows (fun i => stL_grows nx i) _
  simp [-wb_regN, bx, so]
  rw [wb_regN]
  simp [-wb_regN]
  rw [wb_regN]
  simp [-wb_regN]
  refine wb_loop (σ := List Bool × Bool) (fun s => [(1, bx), (3, I rl.length), (4, so), (6, Bo s.2)]) (fun s => BH H s.1)
    (fun s => s.1.length = rl.length ∧ fin f s.1 = liveM nx rl ∧ (s.2 = false → f s.1 = s.1)) (fun s => cntF s.1 + if s.2 = true then 1 else 0) ?_ (rl.map (fun r => decide (0 ≤ r)), true) ⟨by simp, rfl, by simp⟩ (by simp [bx, so]) (by simp)
  clear w g0 hbl
  rintro ⟨o, more⟩ ⟨ho, hfin, hmore⟩
  simp only at ho hfin hmore
  unfold t25L4
  have g0 := BH_0 H o
  have htk := BH_take H o
  have hbl : (bools o).length = rl.length := by rw [bools_len]; exact ho
  cases more with
  | false =>
    have h1 : fin f o = o := by rw [fin_step hf, if_pos (hmore rfl)]
    rw [h1] at hfin
    rw [← hfin]
    have hb := frz_bools H.length (BH H o) 7 o
    have hb2 := bel_bools 0 o
    have htk2 : (bools o).take rl.length = bools o := List.take_of_length_le (by rw [bools_len]; omega)
    simp [bx, so, g0, hb, hb2, htk, htk2, ho]
  | true =>
    simp [-wb_regN]
    rw [wb_regN]
    simp [-wb_regN]
    rw [wb_regN]
    simp [-wb_regN]
    rw [wb_regN]
    simp [-wb_regN]
    refine wb_loop (σ := Nat × List Bool × Bool) (fun s => [(1, bx), (3, I rl.length), (4, so), (6, Bo s.2.2), (7, I s.1)]) (fun s => BH H s.2.1)
      (fun s => s.1 ≤ rl.length ∧ s.2.1 = rnd (stL nx) ((List.range rl.length).take s.1) o ∧ s.2.2 = decide (s.2.1 ≠ o)) (fun s => rl.length - s.1) ?_ (0, o, false) ⟨Nat.zero_le _, rfl, by simp⟩ (by simp [bx, so]) rfl
    clear g0 htk hbl
    rintro ⟨i, o2, more⟩ ⟨hi, ho2, hm⟩
    simp only at hi ho2 hm
    unfold t25L3
    have w1 : IntKind.i64.wrap ((i : Int) + 1) = (i : Int) + 1 := wrap64 (by omega) (by omega)
    have hlen2 : o2.length = rl.length := by rw [ho2, rndL_len, ho]
    by_cases hil : i < rl.length
    case neg =>
      obtain rfl : i = rl.length := by omega
      rw [List.take_of_length_le (by simp)] at ho2
      have hfo : f o = o2 := ho2.symm
      have hstep := fin_step hf o
      rw [hfo] at hstep
      simp [bx, so]
      rw [rnd_nrm]
      refine ⟨(o2, more), ⟨hlen2, ?_, fun h => ?_⟩, ?_, by simp [bx, so], rfl⟩
      · rw [← hfin, hstep]
        by_cases he : o2 = o
        · rw [if_pos he, he, fin_step hf o, if_pos (hfo.trans he)]
        · rw [if_neg he]
      · have h : more = false := h
        rw [h] at hm
        have he : o2 = o := by simpa using hm.symm
        show f o2 = o2
        rw [he] at hfo ⊢; exact hfo
      · show cntF o2 + (if more = true then 1 else 0) < cntF o + (if true = true then 1 else 0)
        by_cases he : o2 = o
        · rw [hm]; simp [he]
        · have := hf o
          rw [hfo] at this
          rcases this with h | h
          · exact absurd h he
          · rw [hm]; simp [he]; omega
    have hil1 : i + 1 ≤ rl.length := hil
    have hil2 : i < o2.length := by omega
    have hnext : rnd (stL nx) ((List.range rl.length).take (i + 1)) o = stL nx o2 i := by rw [rnd_take _ _ _ _ (by simp; exact hil), ← ho2]; simp
    obtain ⟨v, hv⟩ : ∃ v, o2[i] = v := ⟨_, rfl⟩
    have hgD : o2.getD i false = v := by rw [getD_of hil2, hv]
    have hch : decide (stL nx o2 i ≠ o) = (decide (stL nx o2 i ≠ o2) || more) := by
      have hle := rnd_le (fun i => stL_grows nx i) ((List.range rl.length).take i) o
      rw [← ho2] at hle
      rw [hm]
      by_cases h1 : stL nx o2 i = o2
      · rw [h1]; simp
      · have h3 : cntF (stL nx o2 i) < cntF o2 := by
          rcases stL_grows nx i o2 with h | h
          · exact absurd h h1
          · exact h
        have h4 : stL nx o2 i ≠ o := fun h => by rw [h] at h3; omega
        simp [h1, h4]
    have hrl2 : (rowV nx i).length = 256 := rowV_len ok3 hil
    simp [-wb_regN, bx, so]
    rw [wb_regN]
    simp [-wb_regN, hil]
    rw [wb_regN]
    simp [-wb_regN]
    refine wb_loop (σ := Nat × Bool) (fun s => [(1, bx), (3, I rl.length), (4, so), (6, Bo (s.2 || more)), (7, I i), (8, I s.1)]) (fun s => BH H (if s.2 = true then o2.set i true else o2))
      (fun s => s.1 ≤ 256 ∧ s.2 = (!v && ((rowV nx i).take s.1).any (liveP o2))) (fun s => 256 - s.1) ?_ (0, false) ⟨Nat.zero_le _, by simp⟩ (by simp [bx, so]) rfl
    rintro ⟨c, fd⟩ ⟨hc1, hfd⟩
    simp only at hc1 hfd
    unfold t25L2
    have w2 : IntKind.i64.wrap ((c : Int) + 1) = (c : Int) + 1 := wrap64 (by omega) (by omega)
    obtain ⟨o3, ho3⟩ : ∃ o3, (if fd = true then o2.set i true else o2) = o3 := ⟨_, rfl⟩
    have hlen3 : o3.length = rl.length := by rw [← ho3]; split <;> simp [hlen2]
    have hv3 : o3[i]'(by omega) = (v || fd) := by
      subst ho3
      cases fd with
      | true => simp
      | false => simp [hv]
    have g0 := BH_0 H o3
    have hbl3 : (bools o3).length = rl.length := by rw [bools_len]; exact hlen3
    have hb3 := bget (by omega) hv3
    rw [ho3]
    simp [-wb_regN, -wr_cons, -wr_nil, bx, so]
    rw [wb_regN]
    simp [-wb_regN, -wr_cons, -wr_nil]
    by_cases hcl : c < 256
    case neg =>
      obtain rfl : c = 256 := by omega
      rw [List.take_of_length_le (by omega)] at hfd
      have e1 : stL nx o2 i = o3 := by
        unfold stL
        rw [hgD, ← ho3, hfd]
        cases v <;> cases (rowV nx i).any (liveP o2) <;> simp
      have e2 : (fd || more) = decide (o3 ≠ o) := by
        rw [← e1, hch, e1]
        congr 1
        rw [← ho3]
        cases fd with
        | true =>
          have hvf : v = false := by
            cases v with
            | true => simp at hfd
            | false => rfl
          symm
          rw [if_pos rfl]
          refine decide_eq_true fun h => ?_
          have := congrArg (fun l => l[i]?) h
          simp only [List.getElem?_set_self hil2, List.getElem?_eq_getElem hil2, hv, hvf] at this
          cases this
        | false => simp
      iterate 9 (rw [wr_cons]; simp [-wb_regN, -wr_cons, -wr_nil])
      rw [wr_nil, fol_nrm, wb_false rfl]
      simp [-wb_regN]
      rw [wb_regN]
      simp [-wb_regN, w1]
      rw [rnd_nrm]
      exact ⟨(i + 1, o3, fd || more), ⟨hil1, by simpa [e1] using hnext.symm, by simpa using e2⟩, by simp only; omega, by simp [bx, so], rfl⟩
    have hcI : (c : Int) < 256 := by omega
    cases hvf : (v || fd) with
    | true =>
      rw [hvf] at hb3 hv3
      have e1 : stL nx o2 i = o3 := by
        unfold stL
        rw [hgD, ← ho3]
        cases v with
        | true =>
          have : fd = false := by rw [hfd]; rfl
          rw [this]; simp
        | false =>
          have hft : fd = true := by simpa using hvf
          rw [hft] at hfd
          have hany : (rowV nx i).any (liveP o2) = true := by
            rw [Bool.not_false, Bool.true_and] at hfd
            have := hfd.symm
            rw [List.any_eq_true] at this ⊢
            obtain ⟨x, hx, hl⟩ := this
            exact ⟨x, List.mem_of_mem_take hx, hl⟩
          rw [hany, hft]; simp
      have e2 : (fd || more) = decide (o3 ≠ o) := by
        rw [← e1, hch, e1]
        congr 1
        rw [← ho3]
        cases fd with
        | true =>
          have hvf : v = false := by
            cases v with
            | true => simp at hfd
            | false => rfl
          symm
          rw [if_pos rfl]
          refine decide_eq_true fun h => ?_
          have := congrArg (fun l => l[i]?) h
          simp only [List.getElem?_set_self hil2, List.getElem?_eq_getElem hil2, hv, hvf] at this
          cases this
        | false => simp
      iterate 9 (rw [wr_cons]; simp [-wb_regN, -wr_cons, -wr_nil, hcl, hcI, g0, hil, hlen3, hb3, hbl3, hv3])
      rw [wr_nil, fol_nrm, wb_false rfl]
      simp [-wb_regN]
      rw [wb_regN]
      simp [-wb_regN, w1]
      rw [rnd_nrm]
      exact ⟨(i + 1, o3, fd || more), ⟨hil1, by simpa [e1] using hnext.symm, by simpa using e2⟩, by simp only; omega, by simp [bx, so], rfl⟩
    | false =>
      rw [hvf] at hb3 hv3
      obtain ⟨hvF, hfF⟩ : v = false ∧ fd = false := Bool.or_eq_false_iff.1 hvf
      subst hvF; subst hfF
      have ho3' : o2 = o3 := by simpa using ho3
      subst ho3'
      obtain ⟨t, ht⟩ : ∃ t, (rowV nx i)[c]'(by omega) = t := ⟨_, rfl⟩
      have hix : 256 * i + c < nx.length := by omega
      have hnt : nx[256 * i + c] = t := by
        have h1 := rowV_get ok hil hcl
        rw [List.getElem?_eq_getElem (by omega), ht] at h1
        have h3 : toV nx i c = nx[256 * i + c] := by
          unfold toV
          rw [if_neg (by omega), Int.toNat_natCast, List.getD_eq_getElem?_getD, List.getElem?_eq_getElem hix]; rfl
        rw [← h3, ← Option.some.inj h1]
      have htb := ok4 t (hnt ▸ List.getElem_mem hix)
      have w3 : IntKind.i64.wrap (256 * (i : Int)) = 256 * (i : Int) := wrap64 (by omega) (by omega)
      have w4 : IntKind.i64.wrap (256 * (i : Int) + (c : Int)) = 256 * (i : Int) + (c : Int) := wrap64 (by omega) (by omega)
      have n1 : (256 * (i : Int) + (c : Int)).toNat = 256 * i + c := by omega
      have n2 : 0 ≤ 256 * (i : Int) + (c : Int) := by omega
      have n3 : 256 * (i : Int) + (c : Int) < (nx.length : Int) := by omega
      have hnx : ((rowV nx i).take (c + 1)).any (liveP o2) = liveP o2 t := by
        rw [List.take_succ_eq_append_getElem (by omega), List.any_append, ht]
        have : ((rowV nx i).take c).any (liveP o2) = false := by simpa using hfd.symm
        rw [this]; simp
      iterate 9 (rw [wr_cons]; simp [-wb_regN, -wr_cons, -wr_nil, hcl, hcI, g0, hil, hlen3, hb3, hbl3, hv3])
      rw [wr_nil, fol_nrm, wb_true rfl, wb_skip, fol_nrm, wb_seq, wb_block, wb_seq, wb_regN]
      simp [-wb_regN, w3, w4, n1, n2, n3, hix, hnt]
      rw [wb_regN]
      simp [-wb_regN, -wr_cons, -wr_nil]
      by_cases ht0 : 0 ≤ t
      · obtain ⟨t, rfl⟩ := Int.eq_ofNat_of_zero_le ht0
        have htl : t < rl.length := by omega
        obtain ⟨y, hy⟩ : ∃ y, o2[t]'(by omega) = y := ⟨_, rfl⟩
        have hby := bget (by omega) hy
        have hlp : liveP o2 t = y := by
          unfold liveP
          rw [decide_eq_true ht0, Bool.true_and, Int.toNat_natCast, getD_of (by omega), hy]
        iterate 8 (rw [wr_cons]; simp [-wb_regN, -wr_cons, -wr_nil, g0, htl, hlen3, hby, hbl3])
        cases y with
        | true =>
          have hup := BH_upd H o2 i true (by omega)
          rw [wr_nil, fol_nrm, wb_true rfl, wb_regN]
          simp [-wb_regN, -wi_st, hil]
          rw [wi_st]
          simp [-wb_regN, -wi_st, hil, hil1, hi, hbl3, hlen3, g0, setH, hlk, hup]
          rw [wb_regN]
          simp [-wb_regN, w2]
          rw [rnd_nrm]
          exact ⟨(c + 1, true), ⟨hcl, by rw [hnx, hlp]⟩, by simp only; omega, by simp [bx, so], rfl⟩
        | false =>
          rw [wr_nil, fol_nrm, wb_false rfl, wb_skip]
          simp [-wb_regN]
          rw [wb_regN]
          simp [-wb_regN, w2]
          rw [rnd_nrm]
          exact ⟨(c + 1, false), ⟨hcl, by rw [hnx, hlp]⟩, by simp only; omega, by simp [bx, so], rfl⟩
      · have hlp : liveP o2 t = false := by unfold liveP; rw [decide_eq_false ht0]; rfl
        have htd : decide (0 ≤ t) = false := decide_eq_false ht0
        have ht1 : t < 0 := by omega
        iterate 8 (rw [wr_cons]; simp [-wb_regN, -wr_cons, -wr_nil, htd, ht0, ht1])
        rw [wr_nil, fol_nrm, wb_false rfl, wb_skip]
        simp [-wb_regN]
        rw [wb_regN]
        simp [-wb_regN, w2]
        rw [rnd_nrm]
        exact ⟨(c + 1, false), ⟨hcl, by rw [hnx, hlp]⟩, by simp only; omega, by simp [bx, so], rfl⟩
end Go.Proofs.Ytdbbaopgmapmaaa
