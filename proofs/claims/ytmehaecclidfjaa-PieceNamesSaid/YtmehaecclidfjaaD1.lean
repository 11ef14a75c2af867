import Derived.Test.YtmehaecclidfjaaC
set_option linter.unusedSimpArgs false
set_option linter.unusedVariables false
namespace Go.Proofs.Ytmehaecclidfjaa
open Go Go.Hm

def IsPt (v : AV) : Prop := v = .val (.pointer none) ∨ ∃ y, v = .hp y 4 0
set_option maxRecDepth 20000 in
theorem walk_nil {H H1 H3 : Heap} {b : Nat} {fs cm s : List UInt8} {a d : Nat} {v0 v1 pt : AV} {p1 p2 : Nat × Nat} {cs1 cs3 : List AV} (hpv : IsPt pt) (ha : a + d ≤ s.length) (hs : s.length ≤ 65536)
    (tab : H[b]? = some (.cells [Sg fs, Sg cm, v0, I s.length])) (kc1 : callW X A 0 0 26 [.hp b 4 0, I ((a : Int) + d)] H = some (.hp p1.1 4 p1.2, H1)) (r1 : H1[p1.1]? = some (.cells cs1)) (r2 : cs1.length = 4) (r3 : cs1[p1.2]? = some pt)
    (kc2 : callW X A 0 0 26 [.hp b 4 0, I a] H1 = some (.hp p2.1 4 p2.2, H3)) (s1 : H3[p2.1]? = some (.cells cs3)) (s2 : cs3.length = 4) (s4 : p2.2 < cs3.length)
    (u3 : (H3.set p2.1 (.cells (cs3.set p2.2 pt)))[b]? = some (.cells [Sg fs, Sg cm, v1, I s.length])) :
    callW X A 0 0 12 [.hp b 4 0, I a, I d, Sg []] H = some (I 0, (H3.set p2.1 (.cells (cs3.set p2.2 pt))).set b (.cells [Sg fs, Sg cm, v1, I ((s.length - d : Nat) : Int)])) := by
  have g1 : ¬ (a : Int) < 0 := by omega
  have g2 : ¬ (d : Int) < 0 := by omega
  have g3 : ¬ (s.length : Int) < a := by omega
  have g4 : ¬ (s.length : Int) - a < d := by omega
  have g5 : ¬ (65536 : Int) < (s.length : Int) - d := by omega
  have w1 : IntKind.i64.wrap ((s.length : Int) - a) = (s.length : Int) - a := wrap64 (by omega) (by omega)
  have w2 : IntKind.i64.wrap ((s.length : Int) - d) = (s.length : Int) - d := wrap64 (by omega) (by omega)
  have w4 : IntKind.i64.wrap ((a : Int) + d) = (a : Int) + d := wrap64 (by omega) (by omega)
  have s5 : p2.2 ≤ 3 := by omega
  have w5 : IntKind.i64.wrap (-(d : Int)) = -(d : Int) := wrap64 (by omega) (by omega)
  have w6 : IntKind.i64.wrap ((s.length : Int) + -(d : Int)) = ((s.length - d : Nat) : Int) := by rw [wrap64 (by omega) (by omega)]; omega
  have rp := replaceAt_one pt s4
  refine wb_callB [] rfl A12 rfl rfl ?_
  unfold t12B
  generalize callW X A = C at kc1 kc2 ⊢
  rcases hpv with rfl | ⟨y, rfl⟩
  all_goals
    simp [-wi_st, -wi_call, eqPtr, isPtr, g1, g2, g3, g4, tab, w1, w2, g5, Sg_size, w4]
    rw [wi_call]
    simp [-wi_st, -wi_call, kc1, r1, r2, r3, sg_neqN]
    rw [wi_call]
    simp [-wi_st, kc2]
    rw [wi_st]
    simp [-wi_st, s1, s2, s5, setH, rp]
    simp [-wi_st, u3, Sg_size, w5, w6]
    rw [wi_st]
    simp [setH, u3, replaceAt]
set_option maxRecDepth 20000 in
theorem walk_ins {H H1 H1' H2 H3 : Heap} {b : Nat} {fs cm s x : List UInt8} {a d : Nat} {v0 v1 v2 pt : AV} {p1 p2 : Nat × Nat} {cs1 cs3 : List AV} (hpv : IsPt pt) (ha : a + d ≤ s.length) (hs : s.length ≤ 65536) (hx : ¬ x = []) (hg : s.length - d + x.length ≤ 65536) (hz : cm.length + x.length ≤ 1000000000000000)
    (tab : H[b]? = some (.cells [Sg fs, Sg cm, v0, I s.length])) (kc1 : callW X A 0 0 26 [.hp b 4 0, I ((a : Int) + d)] H = some (.hp p1.1 4 p1.2, H1)) (r1 : H1[p1.1]? = some (.cells cs1)) (r2 : cs1.length = 4) (r3 : cs1[p1.2]? = some pt)
    (tb1 : H1[b]? = some (.cells [Sg fs, Sg cm, v2, I s.length])) (hH1' : H1 ++ [.cells [Bo true, I cm.length, I ((cm.length : Int) + x.length), pt]] = H1') (tb1' : H1'[b]? = some (.cells [Sg fs, Sg cm, v2, I s.length]))
    (hH2 : H1'.set b (.cells [Sg fs, Sg (cm ++ x), v2, I s.length]) = H2)
    (kc2 : callW X A 0 0 26 [.hp b 4 0, I a] H2 = some (.hp p2.1 4 p2.2, H3)) (s1 : H3[p2.1]? = some (.cells cs3)) (s2 : cs3.length = 4) (s4 : p2.2 < cs3.length)
    (u3 : (H3.set p2.1 (.cells (cs3.set p2.2 (.hp H1.length 4 0))))[b]? = some (.cells [Sg fs, Sg (cm ++ x), v1, I s.length])) :
    callW X A 0 0 12 [.hp b 4 0, I a, I d, Sg x] H = some (I 0, (H3.set p2.1 (.cells (cs3.set p2.2 (.hp H1.length 4 0)))).set b (.cells [Sg fs, Sg (cm ++ x), v1, I ((s.length - d + x.length : Nat) : Int)])) := by
  have g1 : ¬ (a : Int) < 0 := by omega
  have g2 : ¬ (d : Int) < 0 := by omega
  have g3 : ¬ (s.length : Int) < a := by omega
  have g4 : ¬ (s.length : Int) - a < d := by omega
  have g5 : ¬ (65536 : Int) < (s.length : Int) - d + x.length := by omega
  have w1 : IntKind.i64.wrap ((s.length : Int) - a) = (s.length : Int) - a := wrap64 (by omega) (by omega)
  have w2 : IntKind.i64.wrap ((s.length : Int) - d) = (s.length : Int) - d := wrap64 (by omega) (by omega)
  have w3 : IntKind.i64.wrap ((s.length : Int) - d + x.length) = (s.length : Int) - d + x.length := wrap64 (by omega) (by omega)
  have w4 : IntKind.i64.wrap ((a : Int) + d) = (a : Int) + d := wrap64 (by omega) (by omega)
  have s5 : p2.2 ≤ 3 := by omega
  have w5 : IntKind.i64.wrap ((x.length : Int) - d) = (x.length : Int) - d := wrap64 (by omega) (by omega)
  have w6 : IntKind.i64.wrap ((s.length : Int) + ((x.length : Int) - d)) = ((s.length - d + x.length : Nat) : Int) := by rw [wrap64 (by omega) (by omega)]; omega
  have w7 : IntKind.i64.wrap ((cm.length : Int) + x.length) = (cm.length : Int) + x.length := wrap64 (by omega) (by omega)
  have sa := sg_add (a := cm) (b := x) hz
  have nx : abins .neq ⟨⟨x⟩⟩ ⟨#[]⟩ = some (.val (.bool true)) := by
    rw [sg_neqN]
    simp [hx]
  have rp := replaceAt_one (.hp H1.length 4 0) s4
  refine wb_callB [] rfl A12 rfl rfl ?_
  unfold t12B
  generalize callW X A = C at kc1 kc2 ⊢
  rcases hpv with rfl | ⟨y, rfl⟩
  all_goals
    simp [-wi_st, -wi_call, eqPtr, isPtr, g1, g2, g3, g4, tab, w1, w2, w3, g5, Sg_size, w4]
    rw [wi_call]
    simp [-wi_st, -wi_call, -wb_regN, kc1, r1, r2, r3]
    rw [wb_regN]
    simp [-wb_true, -wb_false, -wb_regD, nx]
    rw [wb_true rfl, wb_seq]
    refine wb_regM rfl (by decide) (inv_cons2 rfl (inv_cons2 rfl (inv_cons2 rfl (inv_cons2 rfl (inv_cons2 rfl (inv_cons2 rfl (inv_nil _))))))) ?_
    simp [-wi_st, -wi_call, -wb_regN, WRM, WGM, WIM, cls, rpOp, isRp, replaceAt, tb1, Sg_size, w7, find, hH1']
    rw [wb_regN]
    simp [-wi_st, -wi_call, -wb_regN, tb1', sa]
    rw [wi_st]
    simp [-wi_st, -wi_call, -wb_regN, tb1', setH, replaceAt, hH2]
    rw [wb_regN]
    simp [-wi_st, -wi_call, -wb_regN]
    rw [wi_call]
    simp [-wi_st, -wb_regN, kc2]
    rw [wi_st]
    simp [-wi_st, -wb_regN, s1, s2, s5, setH, rp]
    rw [wb_regN]
    simp [-wi_st, -wb_regN, u3, Sg_size, w5, w6]
    rw [wi_st]
    simp [setH, u3, replaceAt]
end Go.Proofs.Ytmehaecclidfjaa
