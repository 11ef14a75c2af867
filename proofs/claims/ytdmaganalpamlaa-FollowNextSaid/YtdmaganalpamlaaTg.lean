import Derived.Test.YtdmaganalpamlaaGO
set_option linter.unusedSimpArgs false
set_option linter.unusedVariables false
namespace Go.Proofs.Ytdmaganalpamlaa
open Go Go.Hm

set_option maxRecDepth 20000 in
theorem sameb_hs {lk lim : Nat} {H : Heap} {c : Nat} (a b : List Bool) (hc : H[c]? = some (.cells (bools b))) (hl : a.length ≤ 1000000000) (hn : a.length = b.length) : callW X A lk lim 29 [.sl a.length (bools a), .hs c b.length 0 b.length 1] H = some (Bo (decide (a = b)), H) := by
  refine wb_callB [] rfl A29 rfl rfl ?_
  unfold t29B
  generalize callW X A = C
  have hne : ((a.length : Int) != b.length) = false := by rw [hn]; simp
  simp [-wb_true, -wb_false, -wb_regN]
  rw [wb_regN]
  simp [-wb_true, -wb_false, -wb_regN]
  rw [wb_regN]
  simp [-wb_true, -wb_false, -wb_regN, hne]
  rw [wb_false rfl, wb_skip, fol_nrm, wb_seq, wb_seq, wb_regN]
  simp [-wb_true, -wb_false, -wb_regN]
  refine wb_loop (σ := Nat) (fun i => [(0, .sl a.length (bools a)), (1, .hs c b.length 0 b.length 1), (5, I i)]) (fun _ => H)
    (fun i => i ≤ a.length ∧ decide (a = b) = decide (a.drop i = b.drop i)) (fun i => a.length - i) ?_ 0 (by simp) rfl rfl
  rintro i ⟨hi, hinv⟩
  unfold t29L1
  have w : IntKind.i64.wrap ((i : Int) + 1) = (i : Int) + 1 := wrap64 (by omega) (by omega)
  by_cases hil : i < a.length
  case neg =>
    obtain rfl : i = a.length := by omega
    rw [List.drop_length, hn, List.drop_length] at hinv
    rw [hinv]
    simp [-wb_true, -wb_false, -wb_regN]
    rw [wb_regN]
    simp [-wb_true, -wb_false, -wb_regN]
    rw [wb_false rfl]
    simp
  have hil2 : i < b.length := by omega
  have hil3 : (i : Int) < a.length := by omega
  rw [List.drop_eq_getElem_cons hil, List.drop_eq_getElem_cons hil2] at hinv
  have ga := bools_getE hil
  have gb := bools_getE hil2
  generalize a[i] = x at ga hinv
  generalize b[i] = y at gb hinv
  simp [-wb_true, -wb_false, -wb_regN]
  rw [wb_regN]
  simp [-wb_true, -wb_false, -wb_regN, hil3]
  rw [wb_true rfl, wb_skip, fol_nrm, wb_seq, wb_block, wb_seq, wb_regD rfl]
  simp [-wb_true, -wb_false, -wb_regN, -wb_regD, hil, hil2, ga, gb, eqb_Bo, hc]
  by_cases hxy : x = y
  · subst hxy
    have hinv2 : a = b ↔ a.drop (i + 1) = b.drop (i + 1) := (decide_eq_decide.1 hinv).trans (by simp)
    rw [wb_false (by simp), wb_skip]
    show WB _ _ _ _ _
    rw [wb_regN]
    simp [w]
    rw [rnd_nrm]
    exact ⟨i + 1, ⟨hil, hinv2⟩, by show a.length - (i + 1) < a.length - i; omega, rfl, rfl⟩
  · have : decide (a = b) = false := by rw [hinv]; simp [hxy]
    rw [this, wb_true (by simp [hxy])]
    simp
theorem end_iff {g : Gm} (hg : GOk g) {l : List (List UInt8)} (h : FOk g l) {t : Nat} (ht : g.t = (t : Int)) : (nxB t l).getD t false = hasV l [255] := by
  rw [Bool.eq_iff_iff, nxB_get, hasV_iff]
  have ht2 := hg.t2
  constructor
  · rintro ⟨c, r, hm, e⟩
    obtain ⟨y, hy, ey⟩ := h.row _ hm
    obtain ⟨k, hk⟩ : ∃ k, g.k.toNat = k + 1 := ⟨g.k.toNat - 1, by have := hg.k1; omega⟩
    cases y with
    | nil =>
      rw [hk] at ey
      simp at ey
      rw [ey.1, ey.2] at hm
      exact hm
    | cons d y =>
      have hd := hy d (List.mem_cons_self ..)
      rw [hk] at ey
      cases ey
      omega
  · intro hm
    exact ⟨255, [], hm, by show min 255 t = t; omega⟩
def gLow (g : Gm) : Gm := ⟨g.t, g.n, 1, g.ps⟩
theorem chk_low {g : Gm} (h : chkE g = 0) : chkE (gLow g) = 0 := by
  have ok := gok_of h
  have k1 := ok.k1
  unfold chkE at h ⊢
  unfold gLow
  simp only
  split at h
  · cases h
  rename_i h1
  split at h
  · cases h
  rename_i h2
  split at h
  · cases h
  rename_i h3
  have e : (badP ⟨g.t, g.n, 1, g.ps⟩ : Pr → Bool) = badP g := rfl
  rw [if_neg (by omega), if_neg h2, if_neg (by omega), e]
  exact h
def seqA5 : Nat → AC → AC
  | n + 1, .seq _ b => seqA5 n b
  | _, a => a
def putTail5 : Nat → AC → AC → AC
  | 0, _, R => R
  | n + 1, .seq a b, R => .seq a (putTail5 n b R)
  | _, a, _ => a
def t5M : AC := seqA5 5 t5B
set_option maxRecDepth 20000 in
set_option maxRecDepth 20000 in
set_option maxHeartbeats 1000000 in
theorem n8_1 {C : Orc} {lk : Nat} {H : Heap} (hlk : lk ≤ H.length) {g : Gm} (hg : GOk g) {t : Nat} (ht : g.t = (t : Int)) {v : AV} {l : List (List UInt8)} (hv : RV v l) (hl : FOk g l) {G0 : Heap} {cs : List AV} {n i : Nat} (hvi : cs[i]? = some v) (hil : i < n) {Q : Ex → Kt} {E : Env} {m8 : Nat} {nb : List AV}
    (hE : restrict [1, 3, 4, 7, 8, 9] E = [(1, .box g.cells), (3, .sl n cs), (4, .sl m8 nb), (7, I i), (8, .hs (H.length + G0.length) (t + 1) 0 (t + 1) 1), (9, I 0)])
    (hQ : ∀ e, restrict [1, 3, 4, 7, 8] e = [(1, .box g.cells), (3, .sl n cs), (4, .sl m8 nb), (7, I i), (8, .hs (H.length + G0.length) (t + 1) 0 (t + 1) 1)] → Q (.exit 2) e (H ++ (G0 ++ [.cells (bools (nxB t l))]))) :
    WB ⟨C, lk, H.length, [1, 5]⟩ (.loop [1, 3, 4, 7, 8, 9] t8L1) Q E (H ++ (G0 ++ [.cells (bools (List.replicate (t + 1) false))])) := by
  have hsz := hl.size hg
  have ht8 := hg.t2
  have hvE : ∀ h, cs[i]'h = v := fun h => by rw [List.getElem?_eq_getElem h] at hvi; simpa using hvi
  have hic := (List.getElem?_eq_some_iff.1 hvi).1
  have hc0 : ∀ h : 0 < g.cells.length, (g.cells)[0] = I t := fun _ => by rw [← ht]; rfl
  have hcl : (g.cells).length = 4 := rfl
  have hil2 : (i : Int) < n := by omega
  refine wb_loop (σ := Nat × List Bool) (fun s => [(1, .box g.cells), (3, .sl n cs), (4, .sl m8 nb), (7, I i), (8, .hs (H.length + G0.length) (t + 1) 0 (t + 1) 1), (9, I s.1)]) (fun s => H ++ (G0 ++ [.cells (bools s.2)]))
    (fun s => s.1 ≤ l.length ∧ s.2.length = t + 1 ∧ (l.drop s.1).foldl (nxS t) s.2 = nxB t l) (fun s => l.length - s.1) ?_ (0, List.replicate (t + 1) false) ⟨Nat.zero_le _, by simp, rfl⟩ hE rfl
  rintro ⟨k, cur⟩ ⟨hk, hcur, hrem⟩
  simp only at hk hcur hrem
  unfold t8L1
  by_cases hkl : k < l.length
  case neg =>
    obtain rfl : k = l.length := by omega
    rw [List.drop_length] at hrem
    have hrem : cur = nxB t l := hrem
    subst hrem
    rcases hv with rfl | ⟨rfl, rfl⟩
    all_goals
      simp [-wb_true, -wb_false, -wb_regN]
      rw [wb_regN]
      simp [-wb_true, -wb_false, hil, hvi, hvE]
      rw [wb_false rfl]
      simp
      exact hQ _ rfl
  have hv : v = rowsV l := hv.resolve_right fun h => by rw [h.2] at hkl; simp at hkl
  subst hv
  have w1 : IntKind.i64.wrap ((k : Int) + 1) = (k : Int) + 1 := wrap64 (by omega) (by omega)
  have hkl2 : (k : Int) < l.length := by omega
  have ga := rowsB_getE hkl
  have hd := List.drop_eq_getElem_cons hkl
  obtain ⟨c, r, hx, hc⟩ := row_head hg (hl.row _ (List.getElem_mem hkl))
  rw [hx] at ga hd
  have hne := sg_eqlN (c :: r)
  obtain ⟨mm, hmm⟩ : ∃ mm, min c.toNat t = mm := ⟨_, rfl⟩
  have hmt : mm < t + 1 := by omega
  have hmt2 : (mm : Int) < (t : Int) + 1 := by omega
  have hst := bools_st (l := cur) (i := mm) (by omega)
  have hnx : nxS t cur (c :: r) = cur.set mm true := by show cur.set (min c.toNat t) true = _; rw [hmm]
  rw [hd, List.foldl_cons, hnx] at hrem
  have hcl2 : (cur.set mm true).length = t + 1 := by simpa using hcur
  have hcw : IntKind.i64.wrap (c.toNat : Int) = (c.toNat : Int) := wrap64 (by omega) (by have := c.toNat_lt; omega)
  have hgl := get_lastG H G0 (.cells (bools cur))
  have hsl := set_lastG H G0 (.cells (bools cur)) (.cells (bools (cur.set mm true)))
  have g1 : lk ≤ H.length + G0.length := by omega
  have hm1 : mm + 1 ≤ t + 1 := by omega
  have hfin : ∀ (E : Env), restrict [1, 3, 4, 7, 8, 9] E = [(1, .box g.cells), (3, .sl n cs), (4, .sl m8 nb), (7, I i), (8, .hs (H.length + G0.length) (t + 1) 0 (t + 1) 1), (9, I k)] → 
      BlkE 3 (Fol ⟨C, lk, H.length, [1, 5]⟩ (AC.regN [1, 3, 4, 7, 8, 9] [⟨some 63, none, .mv (.tmp 9), 0, false⟩, ⟨some 64, none, .bini .add (.tmp 63) (.con (.val (.int .i64 1))), 0, false⟩, ⟨some 9, none, .mv (.tmp 64), 0, false⟩])
        (Rnd [1, 3, 4, 7, 8, 9] (fun (s : Nat × List Bool) => [(1, .box g.cells), (3, .sl n cs), (4, .sl m8 nb), (7, I i), (8, .hs (H.length + G0.length) (t + 1) 0 (t + 1) 1), (9, I s.1)]) (fun s => H ++ (G0 ++ [.cells (bools s.2)]))
          (fun s => s.1 ≤ l.length ∧ s.2.length = t + 1 ∧ (l.drop s.1).foldl (nxS t) s.2 = nxB t l) (fun s => l.length - s.1) (k, cur) Q)) .nrm E (H ++ (G0 ++ [.cells (bools (cur.set mm true))])) := fun E hE => by
    show WB _ _ _ _ _
    rw [wb_regN, hE]
    simp [w1]
    rw [rnd_nrm]
    exact ⟨(k + 1, cur.set mm true), ⟨hkl, hcl2, hrem⟩, by show l.length - (k + 1) < l.length - k; omega, rfl, rfl⟩
  by_cases h255 : c = 255
  · subst h255
    have hmm2 : mm = t := by rw [← hmm]; show min 255 t = t; omega
    subst hmm2
    have hb2 : (255 : UInt8).toNat = 255 := rfl
    simp [-wb_true, -wb_false, -wb_regN]
    rw [wb_regN]
    simp [-wb_true, -wb_false, -wb_regN, hkl2, hil, hvi, hvE]
    rw [wb_true rfl, wb_skip, fol_nrm, wb_seq, wb_block, wb_seq, wb_seq, wb_regD rfl]
    simp [-wb_true, -wb_false, -wb_regN, -wb_regD, hkl, ga, hil, hvi, hvE, hne, Sg_get]
    rw [wb_false rfl, wb_skip, fol_nrm, wb_seq, wb_regN]
    simp [-wb_true, -wb_false, -wb_regN, hkl, ga, hil, hvi, hvE, Sg_get]
    rw [wb_true rfl, wb_regN]
    simp [-wb_true, -wb_false, -wb_regN, -wi_st, hcl, hc0, hmt2]
    rw [wi_st]
    simp [-wb_true, -wb_false, -wb_regN, -wi_st, hgl, hsl, hcur, hst, setH, g1, hmt, hm1]
    exact hfin _ rfl
  · have hct : (c.toNat : Int) < t := by rw [← ht]; exact hc.resolve_left h255
    have hmm2 : mm = c.toNat := by rw [← hmm]; omega
    have hne2 : ¬ (c.toNat : Int) = 255 := fun e => h255 (UInt8.toNat_inj.1 (by show c.toNat = 255; omega))
    have hne3 : ((c.toNat : Int) == 255) = false := by rw [beq_eq_false_iff_ne]; exact hne2
    subst hmm2
    have hct3 : (c.toNat : Int) < (t : Int) + 1 := by omega
    have hnt : ¬ (t : Int) ≤ (c.toNat : Int) := by omega
    simp [-wb_true, -wb_false, -wb_regN]
    rw [wb_regN]
    simp [-wb_true, -wb_false, -wb_regN, hkl2, hil, hvi, hvE]
    rw [wb_true rfl, wb_skip, fol_nrm, wb_seq, wb_block, wb_seq, wb_seq, wb_regD rfl]
    simp [-wb_true, -wb_false, -wb_regN, -wb_regD, hkl, ga, hil, hvi, hvE, hne, Sg_get, hne2, hne3, hcl, hc0, hcw, hnt, bne]
    rw [wb_false rfl, wb_skip, fol_nrm, wb_seq, wb_regN]
    simp [-wb_true, -wb_false, -wb_regN, hkl, ga, hil, hvi, hvE, Sg_get, hne3]
    rw [wb_false rfl, wb_regN]
    simp [-wb_true, -wb_false, -wb_regN, -wi_st, hkl, ga, hil, hvi, hvE, Sg_get, hct3]
    rw [wi_st]
    simp [-wb_true, -wb_false, -wb_regN, -wi_st, hgl, hsl, hcur, hst, setH, g1, hmt, hm1]
    exact hfin _ rfl
set_option maxRecDepth 20000 in
set_option maxHeartbeats 2000000 in
theorem fnext_code {lk lim : Nat} {H : Heap} (hlk : lk ≤ H.length) (g : Gm) : callW X A lk lim 8 [gV g] H = some (Bo true, H) := by
  have k9 := fun (L : Nat) => lives_at (lk := lk) (lim := L) (H := H)
  have kk := fun (L : Nat) => light_code (lk := lk) (lim := L) (H := H) g
  have hcl : (g.cells).length = 4 := rfl
  have ht4 : List.take 4 g.cells = g.cells := rfl
  refine wb_callB [1, 5] rfl A8 rfl rfl ?_
  unfold t8B
  by_cases hli : light g = true
  case neg =>
    have hli : light g = false := by simpa using hli
    rw [hli] at kk
    generalize callW X A = C at k9 kk ⊢
    simp [-wb_true, -wb_false, -wb_regN]
    rw [wb_regN]
    simp [-wb_true, -wb_false, -wb_regN, hcl]
    rw [wb_regN]
    simp [-wb_true, -wb_false, -wb_regN, k9]
    rw [wb_false rfl, wb_skip, fol_nrm, wb_seq, wb_seq, wb_regN]
    simp [-wb_true, -wb_false, -wb_regN, kk, hcl, ht4]
    rw [wb_true rfl]
    simp
  rw [hli] at kk
  obtain ⟨hl, hr⟩ := light_bd hli
  have kc := fun (L : Nat) => rcheck_code (lk := lk) (lim := L) (H := H) g hl hr
  by_cases hc : chkE g = 0
  case neg =>
    generalize chkE g = e at kc hc
    have hc2 : (e != 0) = true := by simpa using hc
    generalize callW X A = C at k9 kk kc ⊢
    simp [-wb_true, -wb_false, -wb_regN]
    rw [wb_regN]
    simp [-wb_true, -wb_false, -wb_regN, hcl]
    rw [wb_regN]
    simp [-wb_true, -wb_false, -wb_regN, k9]
    rw [wb_false rfl, wb_skip, fol_nrm, wb_seq, wb_seq, wb_regN]
    simp [-wb_true, -wb_false, -wb_regN, kk, kc, hc2, hcl, ht4]
    rw [wb_true rfl]
    simp
  rw [hc] at kc
  have ok := gok_of hc
  have hcL := chk_low hc
  have okL := gok_of hcL
  have hn1 := ok.n1
  have hn2 := ok.n2
  have ht1 := ok.t1
  have ht8 := ok.t2
  have hk1 := ok.k1
  have hfo := fol_ok ok
  obtain ⟨n, hn⟩ : ∃ n : Nat, g.n = (n : Int) := Int.eq_ofNat_of_zero_le (by omega)
  have hnn : g.n.toNat = n := by omega
  obtain ⟨t, ht⟩ : ∃ t : Nat, g.t = (t : Int) := Int.eq_ofNat_of_zero_le (by omega)
  have htt : g.t.toNat = t := by omega
  obtain ⟨v, h', ks, hh, hv⟩ := fsets_code (lk := lk) (lim := H.length) (H := H) hlk g hl hr
  rw [hh] at ks
  rw [if_pos hc] at hv
  obtain ⟨Sc, rfl, hSc⟩ := hv
  have hScn : Sc.length = n := by rw [hSc.1, hfo.len, hnn]
  have k25 := fun (L : Nat) => next_code (lk := lk) (lim := L) (H := H) hlk g hl hr
  have k25L := fun (L : Nat) => next_code (lk := lk) (lim := L) (H := H) hlk (gLow g) hl hr
  rw [if_pos hc] at k25
  rw [if_pos hcL, next_cut ok okL rfl rfl rfl (by show (1 : Int) ≤ g.k; omega)] at k25L
  have hnl : (nextM g).length = n := by unfold nextM; rw [List.length_map, hfo.len, hnn]
  have hnx : nxV (nextM g) = .sl n (bbV (nextM g)) := by
    unfold nxV
    rw [if_neg (fun e => by rw [e] at hnl; simp at hnl; omega), hnl]
  have k24 : ∀ L, callW X A lk L 24 [.sl n (bbV (nextM g)), .sl n (bbV (nextM g))] H = some (Bo true, H) := fun L => by
    have := srowsb_code (lk := lk) (lim := L) (H := H) (nextM g) (nextM g) (by omega) (fun l hl => by
      unfold nextM at hl
      obtain ⟨x, _, rfl⟩ := List.mem_map.1 hl
      rw [nxB_len]; omega)
    rw [hnx] at this
    have hz : ∀ ls : List (List Bool), decide (ls = ls) = true := fun ls => by simp
    rwa [hz] at this
  rw [hnx] at k25 k25L
  have k29 := fun (K L : Nat) (h : Heap) (c : Nat) (b : List Bool) (hb : h[c]? = some (.cells (bools b))) (hbl : b.length = t + 1) => sameb_hs (lk := K) (lim := L) (H := h) (c := c) b b hb (by omega) rfl
  have k23 := fun (K L : Nat) (G : Heap) (hK : K ≤ H.length + G.length) (m : Nat) => ends_code (lk := K) (lim := L) (H := H ++ G) (by simpa using hK) g hl hr m
  have hc0 : ∀ h : 0 < g.cells.length, (g.cells)[0] = I t := fun _ => by rw [← ht]; rfl
  have hc1 : ∀ h : 1 < g.cells.length, (g.cells)[1] = I n := fun _ => by rw [← hn]; rfl
  have wt : IntKind.i64.wrap ((t : Int) + 1) = ((t + 1 : Nat) : Int) := by rw [wrap64 (by omega) (by omega)]; omega
  have hro : (t + 1) * 1 ≤ room := by unfold room; omega
  generalize callW X A = C at *
  simp [-wb_true, -wb_false, -wb_regN]
  rw [wb_regN]
  simp [-wb_true, -wb_false, -wb_regN, hcl]
  rw [wb_regN]
  simp [-wb_true, -wb_false, -wb_regN, k9]
  rw [wb_false rfl, wb_skip, fol_nrm, wb_seq, wb_seq, wb_regN]
  simp [-wb_true, -wb_false, -wb_regN, -wb_regD, kk, kc, hcl, ht4]
  rw [wb_false rfl, wb_skip, fol_nrm, wb_seq, wb_regD rfl]
  simp [-wb_true, -wb_false, -wb_regN, -wb_regD, ks, k25, hcl, ht4]
  rw [wb_regN]
  simp [-wb_true, -wb_false, -wb_regN, -wi_stL, hcl, ht4]
  rw [wi_stL]
  simp [-wb_true, -wb_false, -wb_regN, -wi_stL, hcl, ht4, replaceAt]
  rw [wb_regN]
  have hg2 : replaceAt g.cells 2 [.val (.int .i64 1)] = (gLow g).cells := rfl
  have hcl2 : (gLow g).cells.length = 4 := rfl
  have ht42 : List.take 4 (gLow g).cells = (gLow g).cells := rfl
  simp [-wb_true, -wb_false, -wb_regN, -wi_stL, hcl]
  rw [wi_stL]
  simp [-wb_true, -wb_false, -wb_regN, -wi_stL, hcl, hg2]
  rw [wb_regN]
  simp [-wb_true, -wb_false, -wb_regN, hcl2, ht42, k25L]
  rw [wb_regN]
  simp [-wb_true, -wb_false, -wb_regN, hcl, hc1, hScn, k24]
  rw [wb_false rfl, wb_skip, fol_nrm, wb_seq, wb_seq, wb_regN]
  simp [-wb_true, -wb_false, -wb_regN]
  refine wb_loop (σ := Nat × Heap) (fun s => [(1, .box g.cells), (3, .sl n Sc), (4, .sl n (bbV (nextM g))), (7, I s.1)]) (fun s => H ++ s.2) (fun s => s.1 ≤ n) (fun s => n - s.1) ?_ (0, []) (Nat.zero_le _) rfl (by simp)
  rintro ⟨i, G⟩ hi
  simp only at hi
  unfold t8L2
  by_cases hil : i < n
  case neg =>
    obtain rfl : i = n := by omega
    simp [-wb_true, -wb_false, -wb_regN]
    rw [wb_regN]
    simp [-wb_true, -wb_false, -wb_regN, hcl, hc1]
    rw [wb_false rfl]
    simp
  have w1 : IntKind.i64.wrap ((i : Int) + 1) = (i : Int) + 1 := wrap64 (by omega) (by omega)
  have hic : i < Sc.length := by omega
  obtain ⟨v, hv, hrv⟩ := hSc.get (j := i) (by rw [← hSc.1]; exact hic)
  have hfi := hfo.get i
  have hnxi : (nextM g)[i]? = some (nxB t ((folM g).getD i [])) := by
    unfold nextM
    rw [List.getElem?_map, htt, List.getElem?_eq_getElem (by rw [← hSc.1]; exact hic), List.getD_eq_getElem?_getD, List.getElem?_eq_getElem (by rw [← hSc.1]; exact hic)]
    rfl
  have hil3 : i < (nextM g).length := by omega
  have hbg := bbV_get hil3
  have hbgE := bbV_getE hil3
  have hnE : (nextM g)[i] = nxB t ((folM g).getD i []) := by rw [List.getElem?_eq_getElem hil3] at hnxi; simpa using hnxi
  rw [hnE] at hbg hbgE
  have he := end_iff ok hfi ht
  have hem := endM_ok hc (m := i) (by omega)
  have k23i := fun K L G hK => k23 K L G hK i
  rw [hem, ← he] at k23i
  generalize (folM g).getD i [] = l at hrv hfi hnxi hbg hbgE k23i
  have hbl : (nxB t l).length = t + 1 := nxB_len t l
  rw [hbl] at hbg hbgE
  have htl : t < (nxB t l).length := by omega
  have hbt : (nxB t l)[t]? = some ((nxB t l).getD t false) := by rw [List.getD_eq_getElem?_getD, List.getElem?_eq_getElem htl]; rfl
  have hbtE : ∀ h, (bools (nxB t l))[t]'h = Bo ((nxB t l).getD t false) := fun h => by
    rw [bools_getE htl, List.getD_eq_getElem?_getD, List.getElem?_eq_getElem htl]; rfl
  have k29i := fun K L => k29 K L (H ++ (G ++ [.cells (bools (nxB t l))])) (H.length + G.length) (nxB t l) (get_lastG H G _) hbl
  rw [hbl] at k29i
  have hz : decide (nxB t l = nxB t l) = true := by simp
  rw [hz] at k29i
  have k23j := fun L => k23i (H.length + (G.length + 1)) L (G ++ [.cells (bools (nxB t l))]) (by simp)
  have hgl := get_lastG H G (.cells (bools (nxB t l)))
  have hil2 : (i : Int) < n := by omega
  simp [-wb_true, -wb_false, -wb_regN]
  rw [wb_regN]
  simp [-wb_true, -wb_false, -wb_regN, hcl, hc1, hil]
  rw [wb_true rfl, wb_skip, fol_nrm, wb_seq, wb_block, wb_seq, wb_regN]
  simp [-wb_true, -wb_false, -wb_regN, -wi_mks, hcl, hc0, wt]
  rw [wi_mks, mk_mks (l := .tmp 54) (z := [.val (.bool false)]) (es := 1) (n := t + 1) (by simp) rfl hro, repl_bools]
  simp [-wb_true, -wb_false, -wb_regN]
  rw [wb_regN]
  simp [-wb_true, -wb_false, -wb_regN]
  refine n8_1 (i := i) (m8 := n) (nb := bbV (nextM g)) hlk ok ht hrv hfi hv hil rfl ?_
  intro E hE
  rw [blk_exit, if_pos rfl]
  show WB _ _ _ _ _
  rw [wb_seq, wb_regD rfl, hE]
  generalize (nxB t l).getD t false = bt at hbt hbtE k23j
  have hcb0 : (bools (nxB t l)).length = t + 1 := by simpa using hbl
  generalize bools (nxB t l) = bb at *
  have hbel : ∀ X, belowL X g.cells = true := fun X => by simp [Gm.cells, belowL, Hm.below]
  have hcb : bb.length = t + 1 := hcb0
  have htt1 : (t : Int) < (t : Int) + 1 := by omega
  have htt2 : t < t + 1 := by omega
  simp [-wb_true, -wb_false, -wb_regN, hil, hbg, hbgE, k29i, hcl, ht4, hbel, k23j, hc0, hgl, hbtE, hcb, htt1, htt2, eqb_Bo]
  rw [wb_false rfl, wb_skip]
  show WB _ _ _ _ _
  rw [wb_regN]
  simp [w1]
  rw [rnd_nrm]
  exact ⟨(i + 1, G ++ [.cells bb]), hil, by show n - (i + 1) < n - i; omega, rfl, rfl⟩
end Go.Proofs.Ytdmaganalpamlaa
