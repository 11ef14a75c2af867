import Derived.Test.YtdmaganalpamlaaGN
import Derived.Test.YtdmaganalpamlaaGG
import Derived.Test.YtdmaganalpamlaaNm
set_option linter.unusedSimpArgs false
set_option linter.unusedVariables false
namespace Go.Proofs.Ytdmaganalpamlaa
open Go Go.Hm

def OutV (out : AV) : Prop := out = .e0 ∨ ∃ b m, out = .hs b m 0 m 1
theorem outI_v {L : Nat} {G : Heap} {out : AV} {ls : List (List Bool)} (h : OutI L G out ls) : OutV out := by
  rcases h with ⟨_, h⟩ | ⟨b, os, h, _⟩
  · exact .inl h
  · exact .inr ⟨_, _, h⟩
theorem set_lastG (H G : Heap) (x y : HB) : (H ++ (G ++ [x])).set (H.length + G.length) y = H ++ (G ++ [y]) := by
  rw [Hm.set_at, List.set_append_right _ _ (Nat.le_refl _), Nat.sub_self]; rfl
theorem get_lastG (H G : Heap) (x : HB) : (H ++ (G ++ [x]))[H.length + G.length]? = some x := by
  rw [Hm.get_at, List.getElem?_append_right (Nat.le_refl _), Nat.sub_self]; rfl
theorem bools_st {l : List Bool} {i : Nat} (h : i < l.length) : replaceAt (bools l) i [.val (.bool true)] = bools (l.set i true) := by
  unfold replaceAt
  rw [← bools_set, List.set_eq_take_append_cons_drop, if_pos (by simpa using h)]
  simp
set_option maxRecDepth 20000 in
set_option maxHeartbeats 1000000 in
theorem n25_1 {C : Orc} {lk : Nat} {H : Heap} (hlk : lk ≤ H.length) {g : Gm} (hg : GOk g) {t : Nat} (ht : g.t = (t : Int)) {out v : AV} {l : List (List UInt8)} (hv : RV v l) (hl : FOk g l) {G0 : Heap} {cs : List AV} {n i : Nat} {Q : Ex → Kt} {E : Env} (hout : OutV out)
    (hE : restrict [1, 3, 6, 10, 11, 12, 20, 21, 22] E = [(1, .box g.cells), (3, out), (6, .hs (H.length + G0.length) (t + 1) 0 (t + 1) 1), (10, .sl n cs), (11, I n), (12, I i), (20, v), (21, I l.length), (22, I 0)])
    (hQ : ∀ e, restrict [1, 3, 6, 10, 11, 12] e = [(1, .box g.cells), (3, out), (6, .hs (H.length + G0.length) (t + 1) 0 (t + 1) 1), (10, .sl n cs), (11, I n), (12, I i)] → Q (.exit 2) e (H ++ (G0 ++ [.cells (bools (nxB t l))]))) :
    WB ⟨C, lk, H.length, [1]⟩ (.loop [1, 3, 6, 10, 11, 12, 20, 21, 22] t25L1) Q E (H ++ (G0 ++ [.cells (bools (List.replicate (t + 1) false))])) := by
  have hsz := hl.size hg
  have ht8 := hg.t2
  have hc0 : ∀ h : 0 < g.cells.length, (g.cells)[0] = I t := fun _ => by rw [← ht]; rfl
  have hcl : (g.cells).length = 4 := rfl
  refine wb_loop (σ := Nat × List Bool) (fun s => [(1, .box g.cells), (3, out), (6, .hs (H.length + G0.length) (t + 1) 0 (t + 1) 1), (10, .sl n cs), (11, I n), (12, I i), (20, v), (21, I l.length), (22, I s.1)]) (fun s => H ++ (G0 ++ [.cells (bools s.2)]))
    (fun s => s.1 ≤ l.length ∧ s.2.length = t + 1 ∧ (l.drop s.1).foldl (nxS t) s.2 = nxB t l) (fun s => l.length - s.1) ?_ (0, List.replicate (t + 1) false) ⟨Nat.zero_le _, by simp, rfl⟩ hE rfl
  rintro ⟨k, cur⟩ ⟨hk, hcur, hrem⟩
  simp only at hk hcur hrem
  unfold t25L1
  by_cases hkl : k < l.length
  case neg =>
    obtain rfl : k = l.length := by omega
    rw [List.drop_length] at hrem
    have hrem : cur = nxB t l := hrem
    subst hrem
    rcases hv with rfl | ⟨rfl, rfl⟩ <;> rcases hout with rfl | ⟨ob, om, rfl⟩
    all_goals
      simp [-wb_true, -wb_false, -wb_regN]
      rw [wb_regN]
      simp [-wb_true, -wb_false]
      rw [wb_false rfl]
      simp
      exact hQ _ rfl
  have hv : v = rowsV l := hv.resolve_right fun h => by rw [h.2] at hkl; simp at hkl
  subst hv
  have w1 : IntKind.i64.wrap ((k : Int) + 1) = (k : Int) + 1 := wrap64 (by omega) (by omega)
  have hkl2 : (k : Int) < l.length := by omega
  have ga := rowsB_getE hkl
  have hd := List.drop_eq_getElem_cons hkl
  obtain ⟨c, r, hx, _⟩ := row_head hg (hl.row _ (List.getElem_mem hkl))
  rw [hx] at ga hd
  have hne := sg_neqN (c :: r)
  have hmx : mmFold false [I (t : Int)] .i64 (c.toNat : Int) = some (.i64, ((min c.toNat t : Nat) : Int)) := by
    simp [mmFold]; omega
  obtain ⟨mm, hmm⟩ : ∃ mm, min c.toNat t = mm := ⟨_, rfl⟩
  have hmt : mm < t + 1 := by omega
  have hmt2 : (mm : Int) < (t : Int) + 1 := by omega
  rw [hmm] at hmx
  have hst := bools_st (l := cur) (i := mm) (by omega)
  have hnx : nxS t cur (c :: r) = cur.set mm true := by show cur.set (min c.toNat t) true = _; rw [hmm]
  rw [hd, List.foldl_cons, hnx] at hrem
  have hcl2 : (cur.set mm true).length = t + 1 := by simpa using hcur
  have hcw : IntKind.i64.wrap (c.toNat : Int) = (c.toNat : Int) := wrap64 (by omega) (by have := c.toNat_lt; omega)
  have hgl := get_lastG H G0 (.cells (bools cur))
  have hsl := set_lastG H G0 (.cells (bools cur)) (.cells (bools (cur.set mm true)))
  have g1 : lk ≤ H.length + G0.length := by omega
  have hm1 : mm + 1 ≤ t + 1 := by omega
  have hcb : (bools cur).length = t + 1 := by simpa using hcur
  rcases hout with rfl | ⟨ob, om, rfl⟩
  all_goals
    simp [-wb_true, -wb_false, -wb_regN]
    rw [wb_regN]
    simp [-wb_true, -wb_false, -wb_regN, hkl2]
    rw [wb_true rfl, wb_skip, fol_nrm, wb_seq, wb_block, wb_seq, wb_regN]
    simp [-wb_true, -wb_false, -wb_regN, hkl, ga]
    rw [wb_regN]
    simp [-wb_true, -wb_false, -wb_regN, -wb_regD, hne]
    rw [wb_true rfl, wb_regD rfl]
    simp [-wb_true, -wb_false, -wb_regN, -wi_stD, Sg_get, hcl, hc0, hcw, hmx, hmt2]
    rw [wi_stD]
    simp [-wb_true, -wb_false, -wb_regN, -wi_stD, hgl, hsl, hcur, hst, setH, g1, hmt, hm1]
    rw [wb_regN]
    simp [w1]
    rw [rnd_nrm]
    exact ⟨(k + 1, cur.set mm true), ⟨hkl, hcl2, hrem⟩, by show l.length - (k + 1) < l.length - k; omega, rfl, rfl⟩
theorem out_first {L : Nat} {G : Heap} {l : List Bool} : OutI L (G ++ [.cells (bools l), .cells [.hs (L + G.length) l.length 0 l.length 1], .cells [.hs (L + G.length) l.length 0 l.length 1]]) (.hs (L + (G.length + 2)) 1 0 1 1) [l] := by
  refine .inr ⟨G.length + 2, [.hs (L + G.length) l.length 0 l.length 1], rfl, by simp, ?_, rfl, fun j m hj => ?_⟩
  · rw [List.getElem?_append_right (by omega), show G.length + 2 - G.length = 2 by omega]; rfl
  · cases j with
    | zero =>
      simp at hj
      subst hj
      refine ⟨G.length, rfl, ?_, by omega⟩
      rw [List.getElem?_append_right (Nat.le_refl _), Nat.sub_self]; rfl
    | succ j => simp at hj
theorem out_more {L : Nat} {G : Heap} {ls : List (List Bool)} {b : Nat} {os : List AV} {l : List Bool} (h0 : ls ≠ []) (h2 : G[b]? = some (.cells os)) (h3 : os.length = ls.length)
    (h4 : ∀ (j : Nat) l, ls[j]? = some l → ∃ bj, os[j]? = some (.hs (L + bj) l.length 0 l.length 1) ∧ G[bj]? = some (.cells (bools l)) ∧ bj ≠ b) (x : HB) :
    OutI L ((G ++ [.cells (bools l), x]).set b (.cells (os ++ [.hs (L + G.length) l.length 0 l.length 1]))) (.hs (L + b) (ls.length + 1) 0 (ls.length + 1) 1) (ls ++ [l]) := by
  have hb := (List.getElem?_eq_some_iff.1 h2).1
  refine .inr ⟨b, os ++ [.hs (L + G.length) l.length 0 l.length 1], by simp, by simp, ?_, by simp [h3], fun j m hj => ?_⟩
  · rw [List.getElem?_set_self (by simp; omega)]
  · by_cases hjl : j < ls.length
    · rw [List.getElem?_append_left hjl] at hj
      obtain ⟨bj, e1, e2, e3⟩ := h4 j m hj
      refine ⟨bj, ?_, ?_, e3⟩
      · rw [List.getElem?_append_left (by omega)]; exact e1
      · rw [List.getElem?_set_ne (Ne.symm e3), List.getElem?_append_left (List.getElem?_eq_some_iff.1 e2).1]; exact e2
    · have : j = ls.length := by
        have := (List.getElem?_eq_some_iff.1 hj).1
        simp at this
        omega
      subst this
      simp at hj
      subst hj
      refine ⟨G.length, ?_, ?_, by omega⟩
      · rw [List.getElem?_append_right (by omega), h3]; simp
      · rw [List.getElem?_set_ne (by omega), List.getElem?_append_right (Nat.le_refl _), Nat.sub_self]; rfl
theorem repl_bools (n : Nat) : repl n [.val (.bool false)] = bools (List.replicate n false) := by
  simp [repl, bools]
theorem src_hs1 {H : Heap} {b : Nat} {v : AV} (h : H[b]? = some (.cells [v])) : srcCells H (.hs b 1 0 1 1) = some (1, [v]) := by
  simp [srcCells, slCells, h, slN]
set_option maxRecDepth 20000 in
set_option maxHeartbeats 2000000 in
theorem next_code {lk lim : Nat} {H : Heap} (hlk : lk ≤ H.length) (g : Gm) (hl : g.ps.length ≤ 1000000) (hr : ∀ p ∈ g.ps, p.r.length ≤ 1000000) : callW X A lk lim 25 [gV g] H = some (if chkE g = 0 then nxV (nextM g) else .e0, H) := by
  obtain ⟨v, h', ks, hh, hv⟩ := fsets_code (lk := lk) (lim := H.length) (H := H) hlk g hl hr
  rw [hh] at ks
  have hcl : (g.cells).length = 4 := rfl
  have ht4 : List.take 4 g.cells = g.cells := rfl
  refine wb_callB [1] rfl A25 rfl rfl ?_
  unfold t25B
  by_cases hc : chkE g = 0
  case neg =>
    rw [if_neg hc] at hv ⊢
    subst hv
    generalize callW X A = C at ks ⊢
    simp [-wb_true, -wb_false, -wb_regN]
    rw [wb_regN]
    simp [-wb_true, -wb_false, -wb_regN, hcl]
    rw [wb_regN]
    simp [-wb_true, -wb_false, -wb_regN]
    rw [wb_regN]
    simp [-wb_true, -wb_false, -wb_regN, hcl, ht4, ks]
    refine wb_loop (σ := Unit) (fun _ => [(1, .box g.cells), (3, .e0), (10, .e0), (11, I 0), (12, I 0)]) (fun _ => H) (fun _ => True) (fun _ => 0) ?_ () trivial rfl rfl
    intro _ _
    unfold t25L2
    simp [-wb_true, -wb_false, -wb_regN]
    rw [wb_regN]
    simp [-wb_true, -wb_false, -wb_regN]
    rw [wb_false rfl]
    simp
  rw [if_pos hc] at hv ⊢
  obtain ⟨cs, rfl, hS⟩ := hv
  have ok := gok_of hc
  have hfo := fol_ok ok
  have hn1 := ok.n1
  have hn2 := ok.n2
  have ht1 := ok.t1
  have ht8 := ok.t2
  obtain ⟨t, ht⟩ : ∃ t : Nat, g.t = (t : Int) := Int.eq_ofNat_of_zero_le (by omega)
  have htt : g.t.toNat = t := by omega
  obtain ⟨n, hn⟩ : ∃ n, cs.length = n := ⟨_, rfl⟩
  have hnn : (nextM g).length = n := by unfold nextM; rw [List.length_map, ← hn, hS.1]
  have hn16 : n ≤ 16 := by rw [← hn, hS.1, hfo.len]; omega
  have hc0 : ∀ h : 0 < g.cells.length, (g.cells)[0] = I t := fun _ => by rw [← ht]; rfl
  have wt : IntKind.i64.wrap ((t : Int) + 1) = ((t + 1 : Nat) : Int) := by rw [wrap64 (by omega) (by omega)]; omega
  have hro : (t + 1) * 1 ≤ room := by unfold room; omega
  rw [hn] at ks
  generalize callW X A = C at ks ⊢
  simp [-wb_true, -wb_false, -wb_regN]
  rw [wb_regN]
  simp [-wb_true, -wb_false, -wb_regN, hcl]
  rw [wb_regN]
  simp [-wb_true, -wb_false, -wb_regN]
  rw [wb_regN]
  simp [-wb_true, -wb_false, -wb_regN, hcl, ht4, ks]
  refine wb_loop (σ := Nat × AV × Heap) (fun s => [(1, .box g.cells), (3, s.2.1), (10, .sl n cs), (11, I n), (12, I s.1)]) (fun s => H ++ s.2.2)
    (fun s => s.1 ≤ n ∧ OutI H.length s.2.2 s.2.1 ((nextM g).take s.1)) (fun s => n - s.1) ?_ (0, .e0, []) ⟨Nat.zero_le _, .inl ⟨rfl, rfl⟩⟩ rfl (by simp)
  rintro ⟨i, out, G⟩ ⟨hi, hO⟩
  simp only at hi hO
  unfold t25L2
  by_cases hil : i < n
  case neg =>
    obtain rfl : i = n := by omega
    rw [← hnn, List.take_length] at hO
    rcases hO with ⟨h1, rfl⟩ | ⟨b, os, rfl, h0, h2, h3, h4⟩
    · rw [h1] at hnn ⊢
      simp [-wb_true, -wb_false, -wb_regN]
      rw [wb_regN]
      simp [-wb_true, -wb_false, -wb_regN]
      rw [wb_false rfl]
      simp [nxV]
    · obtain ⟨f1, f2⟩ := frz_out (H := H) (G := G) 6 h3 h4
      have hb : ¬ H.length + b < H.length := by omega
      have hos : os.take (nextM g).length = os := List.take_of_length_le (by omega)
      rw [show nxV (nextM g) = .sl (nextM g).length (bbV (nextM g)) by unfold nxV; rw [if_neg h0]]
      simp [-wb_true, -wb_false, -wb_regN]
      rw [wb_regN]
      simp [-wb_true, -wb_false, -wb_regN]
      rw [wb_false rfl]
      simp [Hm.get_at, h2, h3, hb, hos, f1, f2]
  have hic : i < cs.length := by omega
  obtain ⟨v, hv, hrv⟩ := hS.get (j := i) (by rw [← hS.1]; exact hic)
  have hvE : ∀ h, cs[i]'h = v := fun h => by rw [List.getElem?_eq_getElem h] at hv; simpa using hv
  have hil2 : (i : Int) < n := by omega
  have w1 : IntKind.i64.wrap ((i : Int) + 1) = (i : Int) + 1 := wrap64 (by omega) (by omega)
  have hfi := hfo.get i
  have hnx : (nextM g).take (i + 1) = (nextM g).take i ++ [nxB t ((folM g).getD i [])] := by
    rw [List.take_add_one]
    congr 1
    unfold nextM
    rw [List.getElem?_map, htt, List.getElem?_eq_getElem (by rw [← hS.1]; exact hic), List.getD_eq_getElem?_getD, List.getElem?_eq_getElem (by rw [← hS.1]; exact hic)]
    rfl
  have hlv : slN v = ((folM g).getD i []).length := (rv_cells (H := []) hrv).2
  generalize (folM g).getD i [] = l at hrv hfi hnx hlv
  have hbl : (nxB t l).length = t + 1 := nxB_len t l
  have hli : ((nextM g).take i).length = i := by rw [List.length_take]; omega
  have g1 : ∀ m, lk ≤ H.length + m := fun m => by omega
  have main : ∀ E, restrict [1, 3, 6, 10, 11, 12, 20, 21, 22] E = [(1, .box g.cells), (3, out), (6, .hs (H.length + G.length) (t + 1) 0 (t + 1) 1), (10, .sl n cs), (11, I n), (12, I i), (20, v), (21, I l.length), (22, I 0)] → 
      WB ⟨C, lk, H.length, [1]⟩ (.loop [1, 3, 6, 10, 11, 12, 20, 21, 22] t25L1) (BlkE 2 (Fol ⟨C, lk, H.length, [1]⟩ (AC.regN [1, 3, 6, 10, 11, 12] [⟨some 37, none, .mv (.tmp 3), 0, false⟩, ⟨some 38, none, .mv (.tmp 6), 0, false⟩, ⟨some 39, none, .buildH 1 1 [.e0] [(0, 1, (.tmp 38))], 0, false⟩, ⟨some 40, none, .app 1 24 (.tmp 37) (.tmp 39), 0, false⟩, ⟨some 3, none, .mv (.tmp 40), 0, false⟩])
        (BlkE 1 (Fol ⟨C, lk, H.length, [1]⟩ (AC.regN [1, 3, 10, 11, 12] [⟨some 41, none, .bini .add (.tmp 12) (.con (.val (.int .i64 1))), 0, false⟩, ⟨some 12, none, .mv (.tmp 41), 0, false⟩])
          (Rnd [1, 3, 10, 11, 12] (fun s => [(1, .box g.cells), (3, s.2.1), (10, .sl n cs), (11, I n), (12, I s.1)]) (fun s => H ++ s.2.2)
            (fun s => s.1 ≤ n ∧ OutI H.length s.2.2 s.2.1 ((nextM g).take s.1)) (fun s => n - s.1) (i, out, G)
            (BlkE 0 (Fol ⟨C, lk, H.length, [1]⟩ ((AC.regN [3] [⟨some 42, none, .mv (.tmp 3), 0, false⟩, ⟨some 2, none, .mv (.tmp 42), 0, false⟩]).seq .ret) (FinT [.tmp 2] true H (nxV (nextM g), H)))))))))
        E (H ++ (G ++ [.cells (bools (List.replicate (t + 1) false))])) := fun E hE => by
    refine n25_1 (i := i) hlk ok ht hrv hfi (outI_v hO) hE ?_
    intro e he
    rw [blk_exit, if_pos rfl]
    show WB _ _ _ _ _
    rw [wb_regN, he]
    have hs1 := src_hs1 (H := H ++ (G ++ [.cells (bools (nxB t l)), .cells [.hs (H.length + G.length) (t + 1) 0 (t + 1) 1]])) (b := H.length + (G.length + 1)) (v := .hs (H.length + G.length) (t + 1) 0 (t + 1) 1) (by
        rw [Hm.get_at, List.getElem?_append_right (by omega), show G.length + 1 - G.length = 1 by omega]; rfl)
    rcases hO with ⟨hq, rfl⟩ | ⟨b, os, rfl, h0, h2, h3, h4⟩
    · have hi0 : i = 0 := by rw [hq] at hli; simpa using hli.symm
      subst hi0
      have hof := out_first (L := H.length) (G := G) (l := nxB t l)
      rw [hbl] at hof
      have r1 : (24 : Nat) ≤ room := by decide
      simp [-wb_true, -wb_false, -wb_regN, hs1, r1]
      rw [wb_regN]
      simp [-wb_true, -wb_false]
      rw [rnd_nrm]
      refine ⟨(1, .hs (H.length + (G.length + 2)) 1 0 1 1, G ++ [.cells (bools (nxB t l)), .cells [.hs (H.length + G.length) (t + 1) 0 (t + 1) 1], .cells [.hs (H.length + G.length) (t + 1) 0 (t + 1) 1]]), ⟨hil, ?_⟩, by show n - 1 < n - 0; omega, rfl, rfl⟩
      rw [Nat.zero_add] at hnx
      rw [hnx, List.take_zero, List.nil_append]
      exact hof
    · rw [hli] at h3 ⊢
      have hom := out_more (L := H.length) (l := nxB t l) h0 h2 (by rw [h3, hli]) h4 (.cells [.hs (H.length + G.length) (t + 1) 0 (t + 1) 1])
      rw [hli, hbl, ← hnx] at hom
      have hbG := (List.getElem?_eq_some_iff.1 h2).1
      have hgb : (H ++ (G ++ [HB.cells (bools (nxB t l)), .cells [.hs (H.length + G.length) (t + 1) 0 (t + 1) 1]]))[H.length + b]? = some (.cells os) := by
        rw [Hm.get_at, List.getElem?_append_left hbG]; exact h2
      have hsb := Hm.set_at H (G ++ [HB.cells (bools (nxB t l)), .cells [.hs (H.length + G.length) (t + 1) 0 (t + 1) 1]]) b (.cells (os ++ [.hs (H.length + G.length) (t + 1) 0 (t + 1) 1]))
      have r1 : (i + 1) * 24 ≤ room := by unfold room; omega
      simp [-wb_true, -wb_false, -wb_regN, hs1, hgb, h3, r1, appC, appG, setH, g1, hsb]
      rw [wb_regN]
      simp [-wb_true, -wb_false, w1]
      rw [rnd_nrm]
      exact ⟨(i + 1, .hs (H.length + b) (i + 1) 0 (i + 1) 1, _), ⟨hil, hom⟩, by show n - (i + 1) < n - i; omega, rfl, rfl⟩
  have hov := outI_v hO
  rcases rv_noRp hrv with rfl | rfl <;> rcases hov with rfl | ⟨ob, om, rfl⟩
  all_goals
    simp [-wb_true, -wb_false, -wb_regN]
    rw [wb_regN]
    simp [-wb_true, -wb_false, -wb_regN, hil2]
    rw [wb_true rfl, wb_skip, fol_nrm, wb_seq, wb_block, wb_seq, wb_regN]
    simp [-wb_true, -wb_false, -wb_regN, hil, hv, hvE]
    rw [wb_regN]
    simp [-wb_true, -wb_false, -wb_regN, -wi_mks, hcl, hc0, wt]
    rw [wi_mks, mk_mks (l := .tmp 18) (z := [.val (.bool false)]) (es := 1) (n := t + 1) rfl rfl hro, repl_bools]
    simp [-wb_true, -wb_false, -wb_regN]
    rw [wb_regN]
    simp [-wb_true, -wb_false, -wb_regN]
    refine main _ ?_
    first
    | rfl
    | (have h0 : l.length = 0 := hlv.symm
       simp [restrict, find, h0])
end Go.Proofs.Ytdmaganalpamlaa

namespace Go.Proofs.Ytdmaganalpamlaa
open Go Go.Hm

def endM (g : Gm) (left : Int) : Bool := decide (chkE g = 0 ∧ 0 ≤ left ∧ left < g.n) && hasV ((folM g).getD left.toNat []) [255]
theorem endM_ok {g : Gm} (hc : chkE g = 0) {m : Nat} (hm : (m : Int) < g.n) : endM g m = hasV ((folM g).getD m []) [255] := by
  unfold endM
  rw [decide_eq_true ⟨hc, by omega, hm⟩, Bool.true_and, Int.toNat_natCast]
theorem endM_no {g : Gm} {left : Int} (h : ¬ (chkE g = 0 ∧ 0 ≤ left ∧ left < g.n)) : endM g left = false := by
  unfold endM
  rw [decide_eq_false h, Bool.false_and]
set_option maxRecDepth 20000 in
set_option maxHeartbeats 1000000 in
theorem ends_code {lk lim : Nat} {H : Heap} (hlk : lk ≤ H.length) (g : Gm) (hl : g.ps.length ≤ 1000000) (hr : ∀ p ∈ g.ps, p.r.length ≤ 1000000) (left : Int) : callW X A lk lim 23 [gV g, I left] H = some (Bo (endM g left), H) := by
  obtain ⟨v, h', ks, hh, hv⟩ := fsets_code (lk := lk) (lim := H.length) (H := H) hlk g hl hr
  rw [hh] at ks
  have kh := fun (L : Nat) (v : AV) (l : List (List UInt8)) (hv : RV v l) h => has_code (lk := lk) (lim := L) (H := H) hv [255] h
  have hcl : (g.cells).length = 4 := rfl
  have ht4 : List.take 4 g.cells = g.cells := rfl
  refine wb_callB [2] rfl A23 rfl rfl ?_
  unfold t23B
  have hsh : v = .e0 ∨ ∃ cs, v = .sl cs.length cs := by
    split at hv
    · obtain ⟨cs, h, _⟩ := hv; exact .inr ⟨cs, h⟩
    · exact .inl hv
  by_cases h0 : 0 ≤ left
  case neg =>
    rw [endM_no (fun h => h0 h.2.1)]
    generalize callW X A = C at ks ⊢
    clear hv
    rcases hsh with rfl | ⟨cs, rfl⟩
    all_goals
      simp [-wb_true, -wb_false, -wb_regN]
      rw [wb_regN]
      simp [-wb_true, -wb_false, -wb_regN, hcl]
      rw [wb_regN]
      simp [-wb_true, -wb_false, -wb_regN, hcl, ht4, ks]
      rw [wb_regN]
      simp [h0]
  by_cases hc : chkE g = 0
  case neg =>
    rw [endM_no (fun h => hc h.1)]
    rw [if_neg hc] at hv
    subst hv
    have h1 : ¬ left < 0 := by omega
    generalize callW X A = C at ks ⊢
    simp [-wb_true, -wb_false, -wb_regN]
    rw [wb_regN]
    simp [-wb_true, -wb_false, -wb_regN, hcl]
    rw [wb_regN]
    simp [-wb_true, -wb_false, -wb_regN, hcl, ht4, ks]
    rw [wb_regN]
    simp [h0, h1]
  rw [if_pos hc] at hv
  obtain ⟨cs, rfl, hS⟩ := hv
  have ok := gok_of hc
  have hfo := fol_ok ok
  have hn1 := ok.n1
  have hcn : cs.length = g.n.toNat := by rw [hS.1, hfo.len]
  obtain ⟨m, rfl⟩ := Int.eq_ofNat_of_zero_le h0
  by_cases hm : (m : Int) < g.n
  case neg =>
    rw [endM_no (fun h => hm h.2.2)]
    have h1 : ¬ (m : Int) < cs.length := by omega
    have h2 : ¬ m < cs.length := by omega
    generalize callW X A = C at ks ⊢
    simp [-wb_true, -wb_false, -wb_regN]
    rw [wb_regN]
    simp [-wb_true, -wb_false, -wb_regN, hcl]
    rw [wb_regN]
    simp [-wb_true, -wb_false, -wb_regN, hcl, ht4, ks]
    rw [wb_regN]
    simp [h0, h1, h2]
  rw [endM_ok hc hm]
  have h2 : m < cs.length := by omega
  obtain ⟨w, hw, hrw⟩ := hS.get (j := m) (by rw [← hS.1]; exact h2)
  have hwE : ∀ h, cs[m]'h = w := fun h => by rw [List.getElem?_eq_getElem h] at hw; simpa using hw
  have kh1 := fun L => kh L w _ hrw (by have := (hfo.get m).size ok; omega)
  generalize hasV ((folM g).getD m []) [255] = b at kh1 ⊢
  generalize (folM g).getD m [] = lm at hrw kh1
  have hsg : AV.val (.string ⟨#[255]⟩) = Sg [255] := rfl
  generalize callW X A = C at ks kh1 ⊢
  rcases rv_noRp hrw with rfl | rfl
  all_goals
    simp [-wb_true, -wb_false, -wb_regN]
    rw [wb_regN]
    simp [-wb_true, -wb_false, -wb_regN, hcl]
    rw [wb_regN]
    simp [-wb_true, -wb_false, -wb_regN, hcl, ht4, ks]
    rw [wb_regN]
    simp [h2, hw, hwE, hsg, kh1]
end Go.Proofs.Ytdmaganalpamlaa
