import Derived.Test.YtpaocofhpdmjpaaOx
import Derived.Test.YtpaocofhpdmjpaaGG
set_option linter.unusedSimpArgs false
set_option linter.unusedVariables false
namespace Go.Proofs.Ytpaocofhpdmjpaa
open Go Go.Hm

/-- The grammar with one production more. -/
def gMore (g : Gm) (p : Pr) : Gm := ⟨g.t, g.n, g.k, g.ps ++ [p]⟩
def gLow (g : Gm) : Gm := ⟨g.t, g.n, 1, g.ps⟩
def newC (ps : List Pr) (p : Pr) : List AV := psZ ps ++ [I p.l, .sl p.r.length (ints p.r)]
theorem newC_len (ps : List Pr) (p : Pr) : (newC ps p).length = 2 * (ps.length + 1) := by
  simp [newC, psZ_len]; omega
theorem zro_ints (d : Nat) (r : List Int) : (ints r).map (zro d) = ints r := by
  unfold ints
  rw [List.map_map]
  refine List.map_congr_left fun x _ => ?_
  cases d <;> rfl
theorem zro_sl (d : Nat) (r : List Int) : zro (d + 1) (.sl r.length (ints r)) = .sl r.length (ints r) := by
  simp [zro, zro_ints]
theorem zro_fz (d : Nat) (r : List Int) : zro (d + 1) (fz r) = .sl r.length (ints r) := by
  unfold fz
  split
  · rename_i h; subst h; rfl
  · exact zro_sl d r
theorem zro_I (d : Nat) (n : Int) : zro d (I n) = I n := by cases d <;> rfl
theorem zro_psZ (d : Nat) : ∀ ps : List Pr, (psZ ps).map (zro (d + 1)) = psC ps
  | [] => rfl
  | p :: ps => by
    simp only [psZ, List.map_cons, zro_I, zro_fz, zro_psZ d ps, psC, Pr.cells]
    rfl
theorem zro_psC (d : Nat) : ∀ ps : List Pr, (psC ps).map (zro (d + 1)) = psC ps
  | [] => rfl
  | p :: ps => by
    simp only [psC, Pr.cells, List.map_append, List.map_cons, List.map_nil, zro_I, zro_sl, zro_psC d ps]
theorem zro_new (d : Nat) (ps : List Pr) (p : Pr) : (newC ps p).map (zro (d + 1)) = psC (ps ++ [p]) := by
  simp only [newC, List.map_append, zro_psZ, psC_app, List.map_cons, List.map_nil, zro_I, zro_sl]
  rfl
theorem mapO_app2 (f : AV → Option AV) : ∀ (a b a' b' : List AV), mapO f a = some a' → mapO f b = some b' → mapO f (a ++ b) = some (a' ++ b')
  | [], b, a', b', h, h2 => by
    simp only [mapO, Option.some.injEq] at h
    subst h; exact h2
  | x :: a, b, a', b', h, h2 => by
    simp only [mapO, List.cons_append] at h ⊢
    cases hx : f x with
    | none => rw [hx] at h; cases h
    | some y =>
      cases ha : mapO f a with
      | none => rw [hx, ha] at h; cases h
      | some a'' =>
        rw [hx, ha] at h
        simp only [Option.some.injEq] at h
        subst h
        rw [mapO_app2 f a b a'' b' ha h2]
        rfl
theorem frz_new (lim : Nat) (H : Heap) (d : Nat) (ps : List Pr) (p : Pr) : mapO (frz lim H (d + 1)) (newC ps p) = some (newC ps p) := by
  have h1 := frz_psZ lim H (d + 1) ps
  have h2 : mapO (frz lim H (d + 1)) [I p.l, .sl p.r.length (ints p.r)] = some [I p.l, .sl p.r.length (ints p.r)] := by
    simp [mapO, frz]
  exact mapO_app2 _ _ _ _ _ h1 h2
theorem bel_new (lim : Nat) (ps : List Pr) (p : Pr) : belowL lim (newC ps p) = true := by
  unfold newC
  rw [belowL_append, bel_psZ]
  simp [belowL, Hm.below, bel_ints]
theorem frz_more (g : Gm) (p : Pr) (G : Heap) : frzV 0 (.cells (newC g.ps p) :: G) (.box [I g.t, I g.n, I g.k, .hs 0 (2 * (g.ps.length + 1)) 0 (g.ps.length + 1) 2]) = .box (gMore g p).cells := by
  have h1 : mapO (frz 0 (.cells (newC g.ps p) :: G) 7) (newC g.ps p) = some (newC g.ps p) := frz_new 0 (.cells (newC g.ps p) :: G) 6 g.ps p
  have h2 := bel_new 0 g.ps p
  have h6 : (g.ps.length + 1) * 2 ≤ 2 * (g.ps.length + 1) := by omega
  have h3 := zro_new 2 g.ps p
  have h4 := newC_len g.ps p
  have h5 : (newC g.ps p).take ((g.ps.length + 1) * 2) = newC g.ps p := List.take_of_length_le (by omega)
  unfold gMore Gm.cells
  generalize newC g.ps p = cs at *
  simp [frzV, mapO, frz, h4, h5, h6, h1, h2, belowL, Hm.below, zro, h3]
theorem frz_g (g : Gm) (G : Heap) : frzV 0 G (.box g.cells) = .box g.cells := by
  unfold Gm.cells
  simp [frzV, mapO, frz, belowL, Hm.below, zro, zro_psC]

theorem sub_ok {g : Gm} {p : Pr} (h : ∀ q ∈ (gMore g p).ps, q.r.length ≤ 1000000) (hl : (gMore g p).ps.length ≤ 1000000) : g.ps.length ≤ 1000000 ∧ ∀ q ∈ g.ps, q.r.length ≤ 1000000 :=
  ⟨by simp [gMore] at hl; omega, fun q hq => h q (List.mem_append_left _ hq)⟩
theorem chk_low {g : Gm} (h : chkE g = 0) : chkE (gLow g) = 0 := by
  have ok := gok_of h
  have k1 := ok.k1
  unfold chkE at h ⊢
  unfold gLow
  simp only
  split at h
  · cases h
  rename_i h1
  split at h
  · cases h
  rename_i h2
  split at h
  · cases h
  rename_i h3
  have e : (badP ⟨g.t, g.n, 1, g.ps⟩ : Pr → Bool) = badP g := rfl
  rw [if_neg (by omega), if_neg h2, if_neg (by omega), e]
  exact h
def seqA5 : Nat → AC → AC
  | n + 1, .seq _ b => seqA5 n b
  | _, a => a
def putTail5 : Nat → AC → AC → AC
  | 0, _, R => R
  | n + 1, .seq a b, R => .seq a (putTail5 n b R)
  | _, a, _ => a
def t5M : AC := seqA5 5 t5B
set_option maxRecDepth 20000 in
set_option maxHeartbeats 2000000 in
theorem more_mid (g : Gm) (p : Pr) (G : Heap) (env : Env) (hE : restrict [2, 5] env = [(2, .box g.cells), (5, .box (gMore g p).cells)]) : WB ⟨callW X A, 0, 0, [2, 3, 5, 8]⟩ t5M (FinT [.tmp 4] true [] (Bo true, [])) env G := by
  have kg := light_code (lk := 0) (lim := 0) (H := G) (gMore g p)
  unfold t5M t5B
  simp only [seqA5]
  by_cases hli : light (gMore g p) = true
  case neg =>
    have hli : light (gMore g p) = false := by simpa using hli
    rw [hli] at kg
    generalize gMore g p = h at *
    obtain ⟨t', n', k', ps'⟩ := h
    obtain ⟨t, n, k, ps⟩ := g
    simp only [gV, Gm.cells] at *
    generalize t5L2 = lp at *
    generalize callW X A = C at *
    rw [wb_seq, wb_seq, wb_regN, hE]
    simp [kg]
  rw [hli] at kg
  obtain ⟨hl, hq⟩ := light_bd hli
  obtain ⟨hl1, hq1⟩ := sub_ok hq hl
  have kc := rcheck_code (lk := 0) (lim := 0) (H := G) g hl1 hq1
  by_cases hc : chkE g = 0
  case neg =>
    have hc2 : (chkE g != 0) = true := by simpa using hc
    generalize chkE g = e at *
    generalize gMore g p = h at *
    obtain ⟨t', n', k', ps'⟩ := h
    obtain ⟨t, n, k, ps⟩ := g
    simp only [gV, Gm.cells] at *
    generalize t5L2 = lp at *
    generalize callW X A = C at *
    rw [wb_seq, wb_seq, wb_regN, hE]
    simp [kg, kc, hc2, hc]
  have kc2 := rcheck_code (lk := 0) (lim := 0) (H := G) (gMore g p) hl hq
  by_cases hc3 : chkE (gMore g p) = 0
  case neg =>
    have hc2 : (chkE (gMore g p) != 0) = true := by simpa using hc3
    rw [hc] at kc
    generalize chkE (gMore g p) = e at *
    generalize gMore g p = h at *
    obtain ⟨t', n', k', ps'⟩ := h
    obtain ⟨t, n, k, ps⟩ := g
    simp only [gV, Gm.cells] at *
    generalize t5L2 = lp at *
    generalize callW X A = C at *
    rw [wb_seq, wb_seq, wb_regN, hE]
    simp [kg, kc, kc2, hc2, hc3]
  rw [hc] at kc
  rw [hc3] at kc2
  have ok := gok_of hc
  have ok2 := gok_of hc3
  have ok3 := gok_of (chk_low hc)
  obtain ⟨v, h', ks, hh, hv⟩ := sets_code (lk := 0) (lim := 0) (H := G) (Nat.zero_le _) g hl1 hq1
  subst hh
  rw [if_pos hc] at hv
  obtain ⟨ca, rfl, hA⟩ := hv
  obtain ⟨v, h', ks2, hh, hv⟩ := sets_code (lk := 0) (lim := 0) (H := h') (Nat.zero_le _) (gMore g p) hl hq
  subst hh
  rw [if_pos hc3] at hv
  obtain ⟨cb, rfl, hB⟩ := hv
  obtain ⟨v, h', ks3, hh, hv⟩ := sets_code (lk := 0) (lim := 0) (H := h') (Nat.zero_le _) (gLow g) hl1 hq1
  subst hh
  rw [if_pos (chk_low hc)] at hv
  obtain ⟨co, rfl, hO⟩ := hv
  have oA := sets_ok ok
  have oB := sets_ok ok2
  have oO := sets_ok ok3
  have la := oA.len
  have lb := oB.len
  have lo := oO.len
  have hn1 := ok.n1
  have hn2 := ok.n2
  have main := fun (Q : Ex → Kt) (env : Env) (t n : Nat) (k : Int) (v4 : AV) (e : (n : Int) = g.n) hE hQ => m5L2 (C := callW X A) (lk := 0) (Q := Q) (env := env) (G := h') (t := t) (n := n) (k := k) (v4 := v4) (Nat.zero_le _) hA hB hO (by omega) (by rw [lb]; show g.n.toNat = n; omega) (by rw [lo]; show g.n.toNat = n; omega) (by omega)
    (fun L v m x hv hm => has_code (lk := 0) (lim := L) (H := h') hv x hm)
    (fun K hK L v l hv hl hx => cat_code (lk := K) (lim := L) (H := h') hK 1 hv (.inl rfl) hl (by simp) hx (by simp))
    (fun L v w l m hv hw hl => same_code (lk := 0) (lim := L) (H := h') hv hw hl)
    (fun i => ⟨⟨Nat.le_trans ((oA.get i).size ok) (by decide), Nat.le_trans ((oB.get i).size ok2) (by decide)⟩, fun x hx => by have := (oA.get i).len x hx; have := ok.k2; omega⟩)
    (sets_more ok ok2 rfl rfl (fun q hq => List.mem_append_left _ hq)) (fun i => sets_cut ok ok3 rfl rfl (by have := ok.k1; show (1 : Int) ≤ g.k; omega) i) hE hQ
  have t1 := ok.t1
  have c1 : (ca.length : Int) = g.n := by rw [hA.1, la]; omega
  have c2 : (cb.length : Int) = g.n := by rw [hB.1, lb]; show (g.n.toNat : Int) = g.n; omega
  have c3 : (co.length : Int) = g.n := by rw [hO.1, lo]; show (g.n.toNat : Int) = g.n; omega
  clear hA hB hO oA oB oO la lb lo ok2 ok3 ok
  unfold gMore gLow at *
  obtain ⟨t, n, k, ps⟩ := g
  simp only [gV, Gm.cells] at *
  obtain ⟨t, rfl⟩ := Int.eq_ofNat_of_zero_le (by omega : 0 ≤ t)
  obtain ⟨n, rfl⟩ := Int.eq_ofNat_of_zero_le (by omega : 0 ≤ n)
  have main := fun Q env hE hQ => main Q env t n k (.sl ps.length (psC ps)) rfl hE hQ
  generalize psC (ps ++ [p]) = cs' at *
  generalize (ps ++ [p]).length = m' at *
  generalize t5L2 = lp at *
  generalize callW X A = C at *
  rw [wb_seq, wb_seq, wb_regN, hE]
  simp [-wb_regN, -wb_seq, kg, kc, kc2]
  rw [wb_seq, wb_regD rfl]
  simp [-wb_regN, -wb_seq, ks, ks2]
  rw [wb_seq, wb_regN]
  simp [-wb_regN, -wb_seq, -wi_stL]
  rw [wi_stL]
  simp [-wb_regN, -wb_seq, replaceAt]
  rw [wb_seq, wb_regN]
  simp [-wb_regN, -wb_seq, -wi_stL]
  rw [wi_stL]
  simp [-wb_regN, -wb_seq, replaceAt]
  rw [wb_seq, wb_regN]
  simp [-wb_regN, -wb_seq, ks3]
  rw [wb_seq, wb_seq, wb_regN]
  simp [-wb_regN, -wb_seq, c1, c2, c3]
  rw [wb_seq, wb_seq, wb_regN]
  simp [-wb_regN, -wb_seq]
  refine main _ _ (by simp) fun env' => ?_
  rw [blk_exit, if_pos rfl]
  simp
set_option maxRecDepth 20000 in
set_option maxHeartbeats 2000000 in
theorem more_code (g : Gm) (p : Pr) (hr : g.ps.length * 32 + 32 ≤ room) (hr2 : ∀ q ∈ g.ps, q.r.length * 8 ≤ room) : callW X A 0 0 5 [gV g, .agg p.cells] [] = some (Bo true, []) := by
  have k10 := lives_ok
  have k20 := own20_code (lk := 0) (lim := 0) (H := []) g (by omega) hr2 (Nat.le_refl _)
  refine wb_callB [2, 3, 5, 8] rfl A5 rfl rfl ?_
  rw [show t5B = putTail5 5 t5B t5M from rfl]
  simp only [t5B, putTail5]
  have mid := fun G env => more_mid g p G env
  have hfz := fun G => frz_more g p G
  have hfg := fun G => frz_g g G
  have fin : ∀ env, restrict [2, 5] env = [(2, .box g.cells), (5, .box [I g.t, I g.n, I g.k, .hs 0 (2 * (g.ps.length + 1)) 0 (g.ps.length + 1) 2])] → WB ⟨callW X A, 0, 0, [2, 3, 5, 8]⟩ .frz (Fol ⟨callW X A, 0, 0, [2, 3, 5, 8]⟩ t5M (FinT [.tmp 4] true [] (Bo true, []))) env [.cells (newC g.ps p)] := fun env hE => by
    rw [wb_frz]
    refine ⟨Nat.le_refl _, Nat.zero_le _, ?_⟩
    rw [fol_nrm]
    refine mid _ _ ?_
    rw [restrict_frzE, hE]
    simp only [List.map_cons, List.map_nil, hfz, hfg]
  clear mid hfz hfg
  have hnl := newC_len g.ps p
  have hzl := psZ_len g.ps
  obtain ⟨t, n, k, ps⟩ := g
  obtain ⟨pl, pr⟩ := p
  simp only [gV, Gm.cells, Pr.cells] at *
  generalize t5M = M at *
  generalize callW X A = C at *
  have hb : belowL 0 [I pl, .sl pr.length (ints pr)] = true := by simp [belowL, Hm.below, bel_ints]
  have hrp : replaceAt [AV.val (Value.int IntKind.i64 0), AV.e0] 0 [I pl, .sl pr.length (ints pr)] = [I pl, .sl pr.length (ints pr)] := rfl
  by_cases h0 : ps = []
  · subst h0
    have r32 : (32 : Nat) ≤ room := by decide
    simp [ownV, ownG, psC] at k20
    simp only [psC, List.length_nil] at *
    rw [wb_seq, wb_regN]
    simp [-wb_regN, -wb_seq]
    rw [wb_seq, wb_seq, wb_regN]
    simp [-wb_regN, -wb_seq, k10]
    rw [wb_seq, wb_regN]
    simp [-wb_regN, -wb_seq, -wi_stL, k20]
    rw [wi_stL]
    simp [-wb_regN, -wb_seq, replaceAt]
    rw [wb_seq, wb_regN]
    simp [-wb_regN, -wb_seq, -wi_stL, srcCells, slCells, slN, r32, hb, hrp]
    rw [wi_stL]
    simp [-wb_regN, -wb_seq, replaceAt]
    rw [wb_seq]
    exact fin _ (by simp)
  · have hov : ownV 0 ps = .hs 0 (2 * ps.length) 0 ps.length 2 := if_neg h0
    have hog : ownG ps = [.cells (psZ ps)] := if_neg h0
    simp only [List.length_nil, List.nil_append, hov, hog] at k20
    generalize psC ps = cp at *
    simp only [newC] at fin hnl
    have r33 : (ps.length + 1) * 32 ≤ room := by omega
    generalize psZ ps = cz at *
    rw [wb_seq, wb_regN]
    simp [-wb_regN, -wb_seq]
    rw [wb_seq, wb_seq, wb_regN]
    simp [-wb_regN, -wb_seq, k10]
    rw [wb_seq, wb_regN]
    simp [-wb_regN, -wb_seq, -wi_stL, k20]
    rw [wi_stL]
    simp [-wb_regN, -wb_seq, replaceAt]
    rw [wb_seq, wb_regN]
    simp [-wb_regN, -wb_seq, -wi_stL, srcCells, slCells, slN, r33, hzl, appC, appG, setH, hb, hrp, Nat.mul_comm ps.length 2]
    rw [wi_stL]
    simp [-wb_regN, -wb_seq, replaceAt]
    rw [wb_seq]
    exact fin _ (by simp; omega)
end Go.Proofs.Ytpaocofhpdmjpaa
