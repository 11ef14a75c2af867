import Derived.Test.YtgbpioccaenjaaaWh
set_option linter.unusedSimpArgs false
set_option linter.unusedVariables false
namespace Go.Proofs.Ytgbpioccaenjaaa
open Go Go.Hm

def Nz (v : AV) : Prop := v = .e0 ∨ ∃ m cs, v = .sl m cs
theorem nz_rv {v : AV} {l : List (List UInt8)} (h : RV v l) : Nz v := by
 rcases h with rfl | ⟨rfl, _⟩
 ·exact .inr ⟨_, _, rfl⟩
 ·exact .inl rfl
theorem nz_tv {v : AV} {S : Ss} (h : TV v S) : Nz v := by
 rcases h with ⟨rfl, _⟩ | ⟨cs, rfl, _⟩
 ·exact .inl rfl
 ·exact .inr ⟨_, _, rfl⟩
abbrev B3 : List Nat := [2, 7, 8, 10, 11, 18]
section
variable {C : Orc} {Q : Ex → Kt} {E : Env} {t n k : Int} {m : Nat} {cs : List AV} {nf : Nat} {Fc Gc : List AV} {row : List UInt8}
set_option maxRecDepth 20000 in
theorem r39 {l a b : Nat} {x : List UInt8} {e : Int} {tv : AV} {f5 f6 : AV} (htv : Nz tv) (h5 : Nz f5) (h6 : Nz f6)
  (hE : restrict [1, 2, 5, 6] E = [(1, Sg row), (2, .box [I t, I n, I k, .sl m cs]), (5, f5), (6, f6)])
  (kb : C 0 0 13 [.agg [I t, I n, I k, .sl m cs]] [] = some (.tup [.agg [tv], .agg [I l, I a, I b, Sg x], I e], []))
  (hQ : ∀ E', restrict [1, 2, 5, 6, 7, 8, 9] E' = [(1, Sg row), (2, .box [I t, I n, I k, .sl m cs]), (5, f5), (6, f6), (7, .box [tv]), (8, .box [I l, I a, I b, Sg x]), (9, I e)] → Q .nrm E' []) :
  WB ⟨C, 0, 0, B3⟩ (.regN [1, 2, 5, 6] [ ⟨some 39, none, .ldA (some 2) 4 (.tmp 2), 0, false⟩,⟨some 40, none, .call 13 [(.tmp 39)], 0, false⟩,⟨some 38, none, .mv (.tmp 40), 0, false⟩,⟨some 41, none, .ext (.tmp 38) 0, 0, false⟩,⟨some 42, none, .ext (.tmp 38) 1, 0, false⟩,⟨some 43, none, .ext (.tmp 38) 2, 0, false⟩,⟨some 7, none, .allocR [.e0], 0, false⟩,⟨some 8, none, .allocR [(.val (.int .i64 0)), (.val (.int .i64 0)), (.val (.int .i64 0)), (.val (.string ⟨#[]⟩))], 0, false⟩,⟨none, none, .st (some 7) 1 (.tmp 7) (.tmp 41), 0, false⟩,⟨none, none, .st (some 8) 4 (.tmp 8) (.tmp 42), 0, false⟩,⟨some 9, none, .mv (.tmp 43), 0, false⟩]) Q E [] := by
 rw [wb_regN, hE]
 rcases htv with rfl | ⟨m1, c1, rfl⟩ <;> rcases h5 with rfl | ⟨m2, c2, rfl⟩ <;> rcases h6 with rfl | ⟨m3, c3, rfl⟩
 all_goals
  simp [kb, replaceAt]
  refine hQ _ ?_
  rfl
set_option maxRecDepth 20000 in
theorem r34 {Fv Gv : AV} (h5 : Nz Fv) (h6 : Nz Gv)
  (hE : restrict [1, 2] E = [(1, Sg row), (2, .box [I t, I n, I k, .sl m cs])])
  (k1 : C 0 0 11 [.agg [I t, I n, I k, .sl m cs]] [] = some (Fv, [])) (k2 : C 0 0 12 [.agg [I t, I n, I k, .sl m cs]] [] = some (Gv, []))
  (hQ : ∀ E', restrict [1, 2, 5, 6] E' = [(1, Sg row), (2, .box [I t, I n, I k, .sl m cs]), (5, Fv), (6, Gv)] → Q .nrm E' []) :
  WB ⟨C, 0, 0, B3⟩ (.regD [1, 2] 0 [ ⟨some 34, none, .ldA (some 2) 4 (.tmp 2), 0, false⟩,⟨some 35, none, .call 11 [(.tmp 34)], 0, true⟩,⟨some 36, none, .ldA (some 2) 4 (.tmp 2), 0, false⟩,⟨some 37, none, .call 12 [(.tmp 36)], 0, true⟩,⟨some 5, none, .mv (.tmp 35), 0, false⟩,⟨some 6, none, .mv (.tmp 37), 0, false⟩]) Q E [] := by
 rw [wb_regD rfl, hE]
 rcases h5 with rfl | ⟨m2, c2, rfl⟩ <;> rcases h6 with rfl | ⟨m3, c3, rfl⟩
 all_goals
  simp [k1, k2]
  refine hQ _ ?_
  rfl
set_option maxRecDepth 20000 in
theorem r46b {l a b : Nat} {x : List UInt8} {h7 : List AV} {e : Int} (ha : a < m) (hb : b < m)
  (hE : restrict [2, 5, 6, 7, 8, 9] E = [(2, .box [I t, I n, I k, .sl m cs]), (5, .sl nf Fc), (6, .sl Gc.length Gc), (7, .box h7), (8, .box [I l, I a, I b, Sg x]), (9, I e)])
  (hQ : ∀ E', find E' 69 = Bo false → restrict [2, 5, 6, 7, 8, 9] E' = [(2, .box [I t, I n, I k, .sl m cs]), (5, .sl nf Fc), (6, .sl Gc.length Gc), (7, .box h7), (8, .box [I l, I a, I b, Sg x]), (9, I e)] → Q .nrm E' []) :
  WB ⟨C, 0, 0, B3⟩ (.regN [2, 5, 6, 7, 8, 9] [ ⟨some 46, none, .fldA 1 (.tmp 8), 0, false⟩,⟨some 47, none, .ld1 (some 8) (.tmp 46), 0, false⟩,⟨some 48, none, .bini .lss (.tmp 47) (.con (.val (.int .i64 0))), 0, false⟩,⟨some 49, none, .mv (.tmp 48), 0, false⟩,⟨some 50, some (49, false), .fldA 1 (.tmp 8), 0, false⟩,⟨some 51, some (49, false), .ld1 (some 8) (.tmp 50), 0, false⟩,⟨some 52, some (49, false), .fldA 3 (.tmp 2), 0, false⟩,⟨some 53, some (49, false), .ld1 (some 2) (.tmp 52), 0, false⟩,⟨some 54, some (49, false), .len false (.tmp 53), 0, false⟩,⟨some 55, some (49, false), .bini .geq (.tmp 51) (.tmp 54), 0, false⟩,⟨some 56, none, .pick (.tmp 49) (.con (.val (.bool true))) (.tmp 55), 0, false⟩,⟨some 57, none, .mv (.tmp 56), 0, false⟩,⟨some 58, some (57, false), .fldA 2 (.tmp 8), 0, false⟩,⟨some 59, some (57, false), .ld1 (some 8) (.tmp 58), 0, false⟩,⟨some 60, some (57, false), .bini .lss (.tmp 59) (.con (.val (.int .i64 0))), 0, false⟩,⟨some 61, none, .pick (.tmp 57) (.con (.val (.bool true))) (.tmp 60), 0, false⟩,⟨some 62, none, .mv (.tmp 61), 0, false⟩,⟨some 63, some (62, false), .fldA 2 (.tmp 8), 0, false⟩,⟨some 64, some (62, false), .ld1 (some 8) (.tmp 63), 0, false⟩,⟨some 65, some (62, false), .fldA 3 (.tmp 2), 0, false⟩,⟨some 66, some (62, false), .ld1 (some 2) (.tmp 65), 0, false⟩,⟨some 67, some (62, false), .len false (.tmp 66), 0, false⟩,⟨some 68, some (62, false), .bini .geq (.tmp 64) (.tmp 67), 0, false⟩,⟨some 69, none, .pick (.tmp 62) (.con (.val (.bool true))) (.tmp 68), 0, false⟩]) Q E [] := by
 have ha1 : ¬ (a : Int) < 0 := by omega
 have hb1 : ¬ (b : Int) < 0 := by omega
 have ha2 : ¬ m ≤ a := by omega
 have hb2 : ¬ m ≤ b := by omega
 rw [wb_regN, hE]
 simp [ha1, hb1, ha2, hb2]
 refine hQ _ ?_ ?_
 ·rfl
 ·rfl
set_option maxRecDepth 20000 in
theorem r70 {l a b : Nat} {x : List UInt8} {h7 : List AV} {e : Int} {ps : List Pr} (ha : a < ps.length) (hb : b < ps.length)
  (hE : restrict [2, 5, 6, 7, 8, 9] E = [(2, .box [I t, I n, I k, .sl ps.length (psC ps)]), (5, .sl nf Fc), (6, .sl Gc.length Gc), (7, .box h7), (8, .box [I l, I a, I b, Sg x]), (9, I e)])
  (hQ : ∀ E', restrict [2, 5, 6, 7, 8, 9, 10, 11] E' = [(2, .box [I t, I n, I k, .sl ps.length (psC ps)]), (5, .sl nf Fc), (6, .sl Gc.length Gc), (7, .box h7), (8, .box [I l, I a, I b, Sg x]), (9, I e), (10, .box ps[a].cells), (11, .box ps[b].cells)] → Q .nrm E' []) :
  WB ⟨C, 0, 0, B3⟩ (.regD [2, 5, 6, 7, 8, 9] 0 [ ⟨some 70, none, .fldA 3 (.tmp 2), 0, false⟩,⟨some 71, none, .ld1 (some 2) (.tmp 70), 0, false⟩,⟨some 72, none, .fldA 1 (.tmp 8), 0, false⟩,⟨some 73, none, .ld1 (some 8) (.tmp 72), 0, false⟩,⟨some 74, none, .ixA 2 (.tmp 71) (.tmp 73), 0, false⟩,⟨some 75, none, .ldA none 2 (.tmp 74), 0, false⟩,⟨some 76, none, .fldA 3 (.tmp 2), 0, false⟩,⟨some 77, none, .ld1 (some 2) (.tmp 76), 0, false⟩,⟨some 78, none, .fldA 2 (.tmp 8), 0, false⟩,⟨some 79, none, .ld1 (some 8) (.tmp 78), 0, false⟩,⟨some 80, none, .ixA 2 (.tmp 77) (.tmp 79), 0, false⟩,⟨some 81, none, .ldA none 2 (.tmp 80), 0, false⟩,⟨some 10, none, .allocR [(.val (.int .i64 0)), .e0], 0, false⟩,⟨some 11, none, .allocR [(.val (.int .i64 0)), .e0], 0, false⟩,⟨none, none, .st (some 10) 2 (.tmp 10) (.tmp 75), 0, false⟩,⟨none, none, .st (some 11) 2 (.tmp 11) (.tmp 81), 0, false⟩]) Q E [] := by
 have hsa := psC_sub ha
 have hsb := psC_sub hb
 have hll := psC_len ps
 have h2a : a * 2 + 2 ≤ 2 * ps.length := by omega
 have h2b : b * 2 + 2 ≤ 2 * ps.length := by omega
 generalize ps[a] = p at hsa hQ
 generalize ps[b] = q at hsb hQ
 simp only [Pr.cells] at hsa hsb
 rw [wb_regD rfl, hE]
 simp [ha, hb, hsa, hsb, hll, h2a, h2b, replaceAt]
 refine hQ _ ?_
 rfl
set_option maxRecDepth 20000 in
theorem r82 {c8 c7 : List AV} {e : Int} {pl : Nat} {pr : List Int} {c11 : List AV} {oV vV cV : AV} (ho : Nz oV) (hv : Nz vV) (hc : Nz cV)
  (hE : restrict [2, 5, 6, 7, 8, 9, 10, 11] E = [(2, .box [I t, I n, I k, .sl m cs]), (5, .sl nf Fc), (6, .sl Gc.length Gc), (7, .box c7), (8, .box c8), (9, I e), (10, .box [I pl, .sl pr.length (ints pr)]), (11, .box c11)])
  (ko : C 0 0 15 [.agg [I t, I n, I k, .sl m cs], .sl nf Fc, .sl pr.length (ints pr)] [] = some (oV, [])) (hg : Gc[pl]? = some vV)
  (kc : C 0 0 14 [I k, oV, vV] [] = some (cV, []))
  (hQ : ∀ E', restrict [2, 5, 6, 7, 8, 9, 10, 11, 12] E' = [(2, .box [I t, I n, I k, .sl m cs]), (5, .sl nf Fc), (6, .sl Gc.length Gc), (7, .box c7), (8, .box c8), (9, I e), (10, .box [I pl, .sl pr.length (ints pr)]), (11, .box c11), (12, cV)] → Q .nrm E' []) :
  WB ⟨C, 0, 0, B3⟩ (.regD [2, 5, 6, 7, 8, 9, 10, 11] 0 [ ⟨some 82, none, .fldA 2 (.tmp 2), 0, false⟩,⟨some 83, none, .ld1 (some 2) (.tmp 82), 0, false⟩,⟨some 84, none, .ldA (some 2) 4 (.tmp 2), 0, false⟩,⟨some 85, none, .mv (.tmp 5), 0, false⟩,⟨some 86, none, .fldA 1 (.tmp 10), 0, false⟩,⟨some 87, none, .ld1 (some 10) (.tmp 86), 0, false⟩,⟨some 88, none, .call 15 [(.tmp 84), (.tmp 85), (.tmp 87)], 0, false⟩,⟨some 89, none, .mv (.tmp 6), 0, false⟩,⟨some 90, none, .fldA 0 (.tmp 10), 0, false⟩,⟨some 91, none, .ld1 (some 10) (.tmp 90), 0, false⟩,⟨some 92, none, .ixA 1 (.tmp 89) (.tmp 91), 0, false⟩,⟨some 93, none, .ld1 none (.tmp 92), 0, false⟩,⟨some 94, none, .call 14 [(.tmp 83), (.tmp 88), (.tmp 93)], 0, true⟩,⟨some 12, none, .mv (.tmp 94), 0, false⟩]) Q E [] := by
 have hpn : pl < Gc.length := (List.getElem?_eq_some_iff.1 hg).1
 have hvE : ∀ h, Gc[pl]'h = vV := fun h => (List.getElem?_eq_some_iff.1 hg).2
 rw [wb_regD rfl, hE]
 rcases ho with rfl | ⟨m2, c2, rfl⟩ <;> rcases hv with rfl | ⟨m3, c3, rfl⟩ <;> rcases hc with rfl | ⟨m4, c4, rfl⟩
 all_goals
  simp [ko, kc, hpn, hvE]
  refine hQ _ ?_
  rfl
set_option maxRecDepth 20000 in
theorem r95 {c8 c7 : List AV} {e : Int} {pl : Nat} {pr : List Int} {c10 : List AV} {oV vV cV dV : AV} (hd : Nz dV) (ho : Nz oV) (hv : Nz vV) (hc : Nz cV)
  (hE : restrict [2, 5, 6, 7, 8, 9, 10, 11, 12] E = [(2, .box [I t, I n, I k, .sl m cs]), (5, .sl nf Fc), (6, .sl Gc.length Gc), (7, .box c7), (8, .box c8), (9, I e), (10, .box c10), (11, .box [I pl, .sl pr.length (ints pr)]), (12, dV)])
  (ko : C 0 0 15 [.agg [I t, I n, I k, .sl m cs], .sl nf Fc, .sl pr.length (ints pr)] [] = some (oV, [])) (hg : Gc[pl]? = some vV)
  (kc : C 0 0 14 [I k, oV, vV] [] = some (cV, []))
  (hQ : ∀ E', restrict [7, 8, 9, 10, 11, 12, 13] E' = [(7, .box c7), (8, .box c8), (9, I e), (10, .box c10), (11, .box [I pl, .sl pr.length (ints pr)]), (12, dV), (13, cV)] → Q .nrm E' []) :
  WB ⟨C, 0, 0, B3⟩ (.regD [2, 5, 6, 7, 8, 9, 10, 11, 12] 0 [ ⟨some 95, none, .fldA 2 (.tmp 2), 0, false⟩,⟨some 96, none, .ld1 (some 2) (.tmp 95), 0, false⟩,⟨some 97, none, .ldA (some 2) 4 (.tmp 2), 0, false⟩,⟨some 98, none, .mv (.tmp 5), 0, false⟩,⟨some 99, none, .fldA 1 (.tmp 11), 0, false⟩,⟨some 100, none, .ld1 (some 11) (.tmp 99), 0, false⟩,⟨some 101, none, .call 15 [(.tmp 97), (.tmp 98), (.tmp 100)], 0, false⟩,⟨some 102, none, .mv (.tmp 6), 0, false⟩,⟨some 103, none, .fldA 0 (.tmp 11), 0, false⟩,⟨some 104, none, .ld1 (some 11) (.tmp 103), 0, false⟩,⟨some 105, none, .ixA 1 (.tmp 102) (.tmp 104), 0, false⟩,⟨some 106, none, .ld1 none (.tmp 105), 0, false⟩,⟨some 107, none, .call 14 [(.tmp 96), (.tmp 101), (.tmp 106)], 0, true⟩,⟨some 13, none, .mv (.tmp 107), 0, false⟩]) Q E [] := by
 have hpn : pl < Gc.length := (List.getElem?_eq_some_iff.1 hg).1
 have hvE : ∀ h, Gc[pl]'h = vV := fun h => (List.getElem?_eq_some_iff.1 hg).2
 rw [wb_regD rfl, hE]
 rcases hd with rfl | ⟨m5, c5, rfl⟩ <;> rcases ho with rfl | ⟨m2, c2, rfl⟩ <;> rcases hv with rfl | ⟨m3, c3, rfl⟩ <;> rcases hc with rfl | ⟨m4, c4, rfl⟩
 all_goals
  simp [ko, kc, hpn, hvE]
  refine hQ _ ?_
  rfl
set_option maxRecDepth 20000 in
theorem r108 {l a b : Nat} {x : List UInt8} {tv dV cV : AV} {v1 v2 : AV} (hab : a < b) (htv : tv = .e0 ∨ ∃ c, tv = .sl 0 c) (hd : Nz dV) (hc : Nz cV)
  (hE : restrict [7, 8, 9, 10, 11, 12, 13] E = [(7, .box [tv]), (8, .box [I l, I a, I b, Sg x]), (9, I 9), (10, .box [I l, v1]), (11, .box [I l, v2]), (12, dV), (13, cV)])
  (h1 : C 0 0 16 [dV, Sg x] [] = some (Bo true, [])) (h2 : C 0 0 16 [cV, Sg x] [] = some (Bo true, []))
  (hQ : ∀ E', find E' 4 = Bo true → Q .nrm E' []) :
  WB ⟨C, 0, 0, B3⟩ (.regN [7, 8, 9, 10, 11, 12, 13] [ ⟨some 108, none, .mv (.tmp 9), 0, false⟩,⟨some 109, none, .bini .eql (.tmp 108) (.con (.val (.int .i64 9))), 0, false⟩,⟨some 110, none, .mv (.tmp 109), 0, false⟩,⟨some 111, some (110, true), .fldA 1 (.tmp 8), 0, false⟩,⟨some 112, some (110, true), .ld1 (some 8) (.tmp 111), 0, false⟩,⟨some 113, some (110, true), .fldA 2 (.tmp 8), 0, false⟩,⟨some 114, some (110, true), .ld1 (some 8) (.tmp 113), 0, false⟩,⟨some 115, some (110, true), .bini .lss (.tmp 112) (.tmp 114), 0, false⟩,⟨some 116, none, .pick (.tmp 110) (.tmp 115) (.con (.val (.bool false))), 0, false⟩,⟨some 117, none, .mv (.tmp 116), 0, false⟩,⟨some 118, some (117, true), .fldA 0 (.tmp 10), 0, false⟩,⟨some 119, some (117, true), .ld1 (some 10) (.tmp 118), 0, false⟩,⟨some 120, some (117, true), .fldA 0 (.tmp 8), 0, false⟩,⟨some 121, some (117, true), .ld1 (some 8) (.tmp 120), 0, false⟩,⟨some 122, some (117, true), .bini .eql (.tmp 119) (.tmp 121), 0, false⟩,⟨some 123, none, .pick (.tmp 117) (.tmp 122) (.con (.val (.bool false))), 0, false⟩,⟨some 124, none, .mv (.tmp 123), 0, false⟩,⟨some 125, some (124, true), .fldA 0 (.tmp 11), 0, false⟩,⟨some 126, some (124, true), .ld1 (some 11) (.tmp 125), 0, false⟩,⟨some 127, some (124, true), .fldA 0 (.tmp 8), 0, false⟩,⟨some 128, some (124, true), .ld1 (some 8) (.tmp 127), 0, false⟩,⟨some 129, some (124, true), .bini .eql (.tmp 126) (.tmp 128), 0, false⟩,⟨some 130, none, .pick (.tmp 124) (.tmp 129) (.con (.val (.bool false))), 0, false⟩,⟨some 131, none, .mv (.tmp 130), 0, false⟩,⟨some 132, some (131, true), .mv (.tmp 12), 0, false⟩,⟨some 133, some (131, true), .fldA 3 (.tmp 8), 0, false⟩,⟨some 134, some (131, true), .ld1 (some 8) (.tmp 133), 0, false⟩,⟨some 135, some (131, true), .call 16 [(.tmp 132), (.tmp 134)], 0, false⟩,⟨some 136, none, .pick (.tmp 131) (.tmp 135) (.con (.val (.bool false))), 0, false⟩,⟨some 137, none, .mv (.tmp 136), 0, false⟩,⟨some 138, some (137, true), .mv (.tmp 13), 0, false⟩,⟨some 139, some (137, true), .fldA 3 (.tmp 8), 0, false⟩,⟨some 140, some (137, true), .ld1 (some 8) (.tmp 139), 0, false⟩,⟨some 141, some (137, true), .call 16 [(.tmp 138), (.tmp 140)], 0, false⟩,⟨some 142, none, .pick (.tmp 137) (.tmp 141) (.con (.val (.bool false))), 0, false⟩,⟨some 143, none, .mv (.tmp 142), 0, false⟩,⟨some 144, some (143, true), .fldA 0 (.tmp 7), 0, false⟩,⟨some 145, some (143, true), .ld1 (some 7) (.tmp 144), 0, false⟩,⟨some 146, some (143, true), .len false (.tmp 145), 0, false⟩,⟨some 147, some (143, true), .bini .eql (.tmp 146) (.con (.val (.int .i64 0))), 0, false⟩,⟨some 148, none, .pick (.tmp 143) (.tmp 147) (.con (.val (.bool false))), 0, false⟩,⟨some 4, none, .mv (.tmp 148), 0, false⟩]) Q E [] := by
 have hab1 : (a : Int) < b := by omega
 rw [wb_regN, hE]
 rcases hd with rfl | ⟨m5, c5, rfl⟩ <;> rcases hc with rfl | ⟨m4, c4, rfl⟩ <;> rcases htv with rfl | ⟨m3, rfl⟩
 all_goals
  simp [h1, h2, hab1, hab]
  refine hQ _ ?_
  rfl
end
end Go.Proofs.Ytgbpioccaenjaaa

namespace Go.Proofs.Ytgbpioccaenjaaa
open Go Go.Hm

theorem wantM_bd (g : Gm) (left : Int) (row : List UInt8) : ∀ m, 0 ≤ (wantM g left row m).2 ∧ (wantM g left row m).2 ≤ m
 | 0 => by simp [wantM]
 | m + 1 => by
  have := wantM_bd g left row m
  rw [wantM_succ]
  unfold stepW
  split
  ·simp only; omega
  ·omega
theorem ev_bo {E : Env} {n : Nat} {b : Bool} (h : find E n = Bo b) : ev E (.tmp n) = Bo b := by
 show (match find E n with | .box _ => AV.rp n 0 | v => v) = _
 rw [h]
section
variable {C : Orc} {Q : Ex → Kt} {E : Env} {t k : Int} {n : Nat} {ps : List Pr} {nf : Nat} {Fc Gc : List AV} {row : List UInt8} {h7 : List AV}
set_option maxRecDepth 20000 in
theorem r162 {left : Nat} {w1 w2 : Int} {i : Nat} (hi : i < ps.length)
  (hE : restrict [1, 2, 5, 6, 7, 14, 15, 16, 17] E = [(1, Sg row), (2, .box [I t, I n, I k, .sl ps.length (psC ps)]), (5, .sl nf Fc), (6, .sl Gc.length Gc), (7, .box h7), (14, I left), (15, I w1), (16, I w2), (17, I i)])
  (hQ : ∀ E', restrict [1, 2, 5, 6, 7, 14, 15, 16, 17, 18] E' = [(1, Sg row), (2, .box [I t, I n, I k, .sl ps.length (psC ps)]), (5, .sl nf Fc), (6, .sl Gc.length Gc), (7, .box h7), (14, I left), (15, I w1), (16, I w2), (17, I i), (18, .box ps[i].cells)] → Q .nrm E' []) :
  WB ⟨C, 0, 0, B3⟩ (.regN [1, 2, 5, 6, 7, 14, 15, 16, 17] [ ⟨some 162, none, .fldA 3 (.tmp 2), 0, false⟩,⟨some 163, none, .ld1 (some 2) (.tmp 162), 0, false⟩,⟨some 164, none, .mv (.tmp 17), 0, false⟩,⟨some 165, none, .ixA 2 (.tmp 163) (.tmp 164), 0, false⟩,⟨some 166, none, .ldA none 2 (.tmp 165), 0, false⟩,⟨some 18, none, .allocR [(.val (.int .i64 0)), .e0], 0, false⟩,⟨none, none, .st (some 18) 2 (.tmp 18) (.tmp 166), 0, false⟩]) Q E [] := by
 have hs := psC_sub hi
 have hll := psC_len ps
 have h2 : i * 2 + 2 ≤ 2 * ps.length := by omega
 generalize ps[i] = p at hs hQ
 simp only [Pr.cells] at hs
 rw [wb_regN, hE]
 simp [hi, hs, hll, h2, replaceAt]
 refine hQ _ ?_
 rfl
set_option maxRecDepth 20000 in
theorem r167 {m : Nat} {cs : List AV} {left pl : Nat} {w1 w2 : Int} {i : Nat} {pr : List Int} {oV vV cV : AV} {b : Bool} (ho : Nz oV) (hv : Nz vV) (hc : Nz cV)
  (hE : restrict [1, 2, 5, 6, 7, 14, 15, 16, 17, 18] E = [(1, Sg row), (2, .box [I t, I n, I k, .sl m cs]), (5, .sl nf Fc), (6, .sl Gc.length Gc), (7, .box h7), (14, I left), (15, I w1), (16, I w2), (17, I i), (18, .box [I pl, .sl pr.length (ints pr)])])
  (ko : C 0 0 15 [.agg [I t, I n, I k, .sl m cs], .sl nf Fc, .sl pr.length (ints pr)] [] = some (oV, [])) (hg : Gc[pl]? = some vV)
  (kc : C 0 0 14 [I k, oV, vV] [] = some (cV, [])) (kh : C 0 0 16 [cV, Sg row] [] = some (Bo b, []))
  (hQ : ∀ E', find E' 186 = Bo (decide (pl = left) && b) → restrict [1, 2, 5, 6, 7, 14, 16, 17] E' = [(1, Sg row), (2, .box [I t, I n, I k, .sl m cs]), (5, .sl nf Fc), (6, .sl Gc.length Gc), (7, .box h7), (14, I left), (16, I w2), (17, I i)] →
   restrict [1, 2, 5, 6, 7, 14, 15, 16, 17] E' = [(1, Sg row), (2, .box [I t, I n, I k, .sl m cs]), (5, .sl nf Fc), (6, .sl Gc.length Gc), (7, .box h7), (14, I left), (15, I w1), (16, I w2), (17, I i)] → Q .nrm E' []) :
  WB ⟨C, 0, 0, B3⟩ (.regD [1, 2, 5, 6, 7, 14, 15, 16, 17, 18] 0 [ ⟨some 167, none, .fldA 0 (.tmp 18), 0, false⟩,⟨some 168, none, .ld1 (some 18) (.tmp 167), 0, false⟩,⟨some 169, none, .mv (.tmp 14), 0, false⟩,⟨some 170, none, .bini .eql (.tmp 168) (.tmp 169), 0, false⟩,⟨some 171, none, .mv (.tmp 170), 0, false⟩,⟨some 172, some (171, true), .fldA 2 (.tmp 2), 0, false⟩,⟨some 173, some (171, true), .ld1 (some 2) (.tmp 172), 0, false⟩,⟨some 174, some (171, true), .ldA (some 2) 4 (.tmp 2), 0, false⟩,⟨some 175, some (171, true), .mv (.tmp 5), 0, false⟩,⟨some 176, some (171, true), .fldA 1 (.tmp 18), 0, false⟩,⟨some 177, some (171, true), .ld1 (some 18) (.tmp 176), 0, false⟩,⟨some 178, some (171, true), .call 15 [(.tmp 174), (.tmp 175), (.tmp 177)], 0, false⟩,⟨some 179, some (171, true), .mv (.tmp 6), 0, false⟩,⟨some 180, some (171, true), .mv (.tmp 14), 0, false⟩,⟨some 181, some (171, true), .ixA 1 (.tmp 179) (.tmp 180), 0, false⟩,⟨some 182, some (171, true), .ld1 none (.tmp 181), 0, false⟩,⟨some 183, some (171, true), .call 14 [(.tmp 173), (.tmp 178), (.tmp 182)], 0, true⟩,⟨some 184, some (171, true), .mv (.tmp 1), 0, false⟩,⟨some 185, some (171, true), .call 16 [(.tmp 183), (.tmp 184)], 0, true⟩,⟨some 186, none, .pick (.tmp 171) (.tmp 185) (.con (.val (.bool false))), 0, false⟩]) Q E [] := by
 have hpn : pl < Gc.length := (List.getElem?_eq_some_iff.1 hg).1
 have hvE : ∀ h, Gc[pl]'h = vV := fun h => (List.getElem?_eq_some_iff.1 hg).2
 rw [wb_regD rfl, hE]
 by_cases hp : pl = left
 ·subst hp
  simp only [decide_true, Bool.true_and] at hQ
  rcases ho with rfl | ⟨m2, c2, rfl⟩ <;> rcases hv with rfl | ⟨m3, c3, rfl⟩ <;> rcases hc with rfl | ⟨m4, c4, rfl⟩
  all_goals
   simp [ko, kc, kh, hpn, hvE]
   refine hQ _ ?_ ?_ ?_
   ·rfl
   ·rfl
   ·rfl
 ·have hp2 : ((pl : Int) == (left : Int)) = false := by rw [beq_eq_false_iff_ne]; omega
  rw [decide_eq_false hp] at hQ
  simp only [Bool.false_and] at hQ
  simp [hp2, hp]
  refine hQ _ ?_ ?_ ?_
  ·rfl
  ·rfl
  ·rfl
structure K3 (C : Orc) (g : Gm) (nf : Nat) (Fc Gc : List AV) (tv : AV) : Prop where
 each : ∀ p ∈ g.ps, ∃ oV vV cV, Nz oV ∧ Nz vV ∧ Nz cV ∧ C 0 0 15 [gV g, .sl nf Fc, .sl p.r.length (ints p.r)] [] = some (oV, []) ∧ Gc[p.l.toNat]? = some vV ∧ C 0 0 14 [I g.k, oV, vV] [] = some (cV, []) ∧ ∀ x, C 0 0 16 [cV, Sg x] [] = some (Bo (hasV (lookP g p) x), [])
def e1V (t k : Int) (n : Nat) (ps : List Pr) (nf : Nat) (Fc Gc h7 : List AV) (row : List UInt8) (left : Nat) (w : Int × Int) : Env := [(1, Sg row), (2, .box [I t, I n, I k, .sl ps.length (psC ps)]), (5, .sl nf Fc), (6, .sl Gc.length Gc), (7, .box h7), (14, I left), (15, I w.1), (16, I w.2)]
set_option maxRecDepth 20000 in
theorem l1_code {left : Nat} {tv : AV} (ok : GOk ⟨t, n, k, ps⟩) (kk : K3 C ⟨t, n, k, ps⟩ nf Fc Gc tv)
  (hE : restrict [1, 2, 5, 6, 7, 14, 15, 16, 17] E = e1V t k n ps nf Fc Gc h7 row left (-1, 0) ++ [(17, I 0)])
  (hQ : ∀ E', restrict [1, 2, 5, 6, 7, 14, 15, 16] E' = e1V t k n ps nf Fc Gc h7 row left (wantM ⟨t, n, k, ps⟩ left row ps.length) → Q .nrm E' []) :
  WB ⟨C, 0, 0, B3⟩ (.block 2 (.loop [1, 2, 5, 6, 7, 14, 15, 16, 17] t3L1)) Q E [] := by
 have l2 := ok.l2
 simp only at l2
 rw [wb_block]
 refine wb_loop (σ := Nat) (fun i => e1V t k n ps nf Fc Gc h7 row left (wantM ⟨t, n, k, ps⟩ left row i) ++ [(17, I i)]) (fun _ => []) (fun i => i ≤ ps.length) (fun i => ps.length - i) ?_ 0 (Nat.zero_le _) hE rfl
 intro i hi
 have hbd := wantM_bd ⟨t, n, k, ps⟩ left row i
 unfold t3L1
 have w1 : IntKind.i64.wrap ((i : Int) + 1) = (i : Int) + 1 := wrap64 (by omega) (by omega)
 rw [wb_seq, wb_seq, wb_regN]
 by_cases hil : i < ps.length
 case neg =>
  obtain rfl : i = ps.length := by omega
  unfold e1V
  unfold e1V at hQ
  generalize wantM ⟨t, n, k, ps⟩ left row ps.length = w at hQ ⊢
  simp
  refine hQ _ ?_
  rfl
 have hsucc := wantM_succ ⟨t, n, k, ps⟩ left row i
 obtain ⟨oV, vV, cV, ho, hv, hc, ko, hg, kc, kh⟩ := kk.each _ (List.getElem_mem hil)
 have kh := kh row
 have hcn : cnd ⟨t, n, k, ps⟩ left row i = (decide (ps[i].l.toNat = left) && hasV (lookP ⟨t, n, k, ps⟩ ps[i]) row) := by
  unfold cnd
  have h1 : (ps.getD i ⟨0, []⟩) = ps[i] := by rw [List.getD_eq_getElem?_getD, List.getElem?_eq_getElem hil]; rfl
  rw [show (Gm.mk t n k ps).ps = ps from rfl, h1, look_get ⟨t, n, k, ps⟩ hil]
  congr 1
  have := (ok.p _ (List.getElem_mem hil)).l0
  simp only [decide_eq_decide]
  omega
 unfold stepW at hsucc
 rw [hcn] at hsucc
 have hpl0 := (ok.p _ (List.getElem_mem hil)).l0
 simp only at hpl0 ko hg kc
 generalize hasV (lookP ⟨t, n, k, ps⟩ ps[i]) row = b at kh hsucc
 generalize hw' : wantM ⟨t, n, k, ps⟩ left row (i + 1) = w' at hsucc
 generalize wantM ⟨t, n, k, ps⟩ left row i = w at hsucc hbd ⊢
 obtain ⟨wa, wb⟩ := w
 simp only at hbd hsucc
 have hs1 : (decide (ps[i].l.toNat = left) && b) = true → w' = ((i : Int), wb + 1) := fun h => by rw [hsucc, if_pos h]
 have hs2 : (decide (ps[i].l.toNat = left) && b) = false → w' = (wa, wb) := fun h => by rw [hsucc, if_neg (by rw [h]; simp)]
 clear hsucc
 have w2 : IntKind.i64.wrap (wb + 1) = wb + 1 := wrap64 (by omega) (by omega)
 unfold e1V
 simp [-wb_true, -wb_false, -wb_regN, -wb_regD, hil]
 rw [wb_true rfl, wb_skip, fol_nrm, wb_seq, wb_block, wb_seq]
 refine r162 hil (w1 := wa) (w2 := wb) (left := left) (n := n) (row := row) (Fc := Fc) (Gc := Gc) (nf := nf) (h7 := h7) (t := t) (k := k) (by simp) fun E1 h1 => ?_
 rw [fol_nrm, wb_seq]
 generalize ps[i] = p at ko hg hpl0 h1 hs1 hs2
 obtain ⟨pl, pr⟩ := p
 simp only at hpl0 hs1 hs2 hg ko
 obtain ⟨pl, rfl⟩ := Int.eq_ofNat_of_zero_le hpl0
 simp only [Int.toNat_natCast] at hs1 hs2 hg
 refine r167 ho hv hc h1 ko hg kc kh fun E2 h2 h3 h4 => ?_
 rw [fol_nrm]
 cases hb : (decide (pl = left) && b) with
 | true =>
  rw [hb] at h2
  have hs1 := hs1 hb
  clear hs2
  subst hs1
  rw [wb_true (ev_bo h2), wb_regN, h3]
  simp [w1, w2, rnd_nrm]
  exact ⟨i + 1, by omega, by omega, by rw [hw'], by rw [hw'], by simp⟩
 | false =>
  rw [hb] at h2
  have hs2 := hs2 hb
  clear hs1
  subst hs2
  rw [wb_false (ev_bo h2), wb_skip]
  simp [-wb_regN]
  rw [wb_regN, h4]
  simp [w1, w2, rnd_nrm]
  exact ⟨i + 1, by omega, by omega, by rw [hw'], by rw [hw'], by simp⟩
end
end Go.Proofs.Ytgbpioccaenjaaa

namespace Go.Proofs.Ytgbpioccaenjaaa
open Go Go.Hm

section
variable {C : Orc} {Q : Ex → Kt} {E : Env} {t k : Int} {n : Nat} {ps : List Pr} {nf : Nat} {Fc Gc : List AV} {row : List UInt8} {tv : AV}
set_option maxRecDepth 20000 in
theorem r190 {m : Nat} {cs : List AV} {left : Nat} {w1 w2 : Int} (htv : Nz tv) (h2 : ¬ 1 < w2)
  (hE : restrict [1, 2, 5, 6, 7, 14, 15, 16] E = [(1, Sg row), (2, .box [I t, I n, I k, .sl m cs]), (5, .sl nf Fc), (6, .sl Gc.length Gc), (7, .box [tv]), (14, I left), (15, I w1), (16, I w2)])
  (kp : C 0 0 17 [.agg [I t, I n, I k, .sl m cs], .agg [tv], I left, Sg row] [] = some (I w1, []))
  (hQ : ∀ E', find E' 200 = Bo false → restrict [1, 2, 5, 6, 7, 14] E' = [(1, Sg row), (2, .box [I t, I n, I k, .sl m cs]), (5, .sl nf Fc), (6, .sl Gc.length Gc), (7, .box [tv]), (14, I left)] → Q .nrm E' []) :
  WB ⟨C, 0, 0, B3⟩ (.regN [1, 2, 5, 6, 7, 14, 15, 16] [ ⟨some 190, none, .mv (.tmp 16), 0, false⟩,⟨some 191, none, .bini .gtr (.tmp 190) (.con (.val (.int .i64 1))), 0, false⟩,⟨some 192, none, .mv (.tmp 191), 0, false⟩,⟨some 193, some (192, false), .ldA (some 2) 4 (.tmp 2), 0, false⟩,⟨some 194, some (192, false), .ldA (some 7) 1 (.tmp 7), 0, false⟩,⟨some 195, some (192, false), .mv (.tmp 14), 0, false⟩,⟨some 196, some (192, false), .mv (.tmp 1), 0, false⟩,⟨some 197, some (192, false), .call 17 [(.tmp 193), (.tmp 194), (.tmp 195), (.tmp 196)], 0, false⟩,⟨some 198, some (192, false), .mv (.tmp 15), 0, false⟩,⟨some 199, some (192, false), .bini .neq (.tmp 197) (.tmp 198), 0, false⟩,⟨some 200, none, .pick (.tmp 192) (.con (.val (.bool true))) (.tmp 199), 0, false⟩]) Q E [] := by
 rw [wb_regN, hE]
 rcases htv with rfl | ⟨m1, c1, rfl⟩
 all_goals
  simp [kp, h2]
  refine hQ _ ?_ ?_
  ·rfl
  ·rfl
set_option maxRecDepth 20000 in
theorem l2_code (htv : Nz tv) (ok : GOk ⟨t, n, k, ps⟩) (kk : K3 C ⟨t, n, k, ps⟩ nf Fc Gc tv) (P : Int → Int)
  (kp : ∀ left : Int, C 0 0 17 [.agg [I t, I n, I k, .sl ps.length (psC ps)], .agg [tv], I left, Sg row] [] = some (I (P left), []))
  (hP : ∀ left : Nat, left < n → (wantM ⟨t, n, k, ps⟩ left row ps.length).1 = P left ∧ (wantM ⟨t, n, k, ps⟩ left row ps.length).2 ≤ 1)
  (hE : restrict [1, 2, 5, 6, 7, 14] E = [(1, Sg row), (2, .box [I t, I n, I k, .sl ps.length (psC ps)]), (5, .sl nf Fc), (6, .sl Gc.length Gc), (7, .box [tv]), (14, I 0)])
  (hQ : ∀ E', restrict [1, 2, 7] E' = [(1, Sg row), (2, .box [I t, I n, I k, .sl ps.length (psC ps)]), (7, .box [tv])] → Q .nrm E' []) :
  WB ⟨C, 0, 0, B3⟩ (.block 0 (.loop [1, 2, 5, 6, 7, 14] t3L2)) Q E [] := by
 have n2 := ok.n2
 simp only at n2
 rw [wb_block]
 refine wb_loop (σ := Nat) (fun i => [(1, Sg row), (2, .box [I t, I n, I k, .sl ps.length (psC ps)]), (5, .sl nf Fc), (6, .sl Gc.length Gc), (7, .box [tv]), (14, I i)]) (fun _ => []) (fun i => i ≤ n) (fun i => n - i) ?_ 0 (Nat.zero_le _) hE rfl
 intro i hi
 unfold t3L2
 have w1 : IntKind.i64.wrap ((i : Int) + 1) = (i : Int) + 1 := wrap64 (by omega) (by omega)
 rw [wb_seq, wb_seq, wb_regN]
 by_cases hil : i < n
 case neg =>
  obtain rfl : i = n := by omega
  simp
  refine hQ _ ?_
  rfl
 simp [-wb_true, -wb_false, -wb_regN, hil]
 rw [wb_true rfl, wb_skip, fol_nrm, wb_seq, wb_block, wb_seq, wb_regN]
 simp [-wb_true, -wb_false, -wb_regN, -wb_block]
 rw [wb_regN]
 simp [-wb_true, -wb_false, -wb_regN, -wb_block]
 obtain ⟨h1, h2⟩ := hP i hil
 refine l1_code (left := i) (row := row) (h7 := [tv]) ok kk (by simp [e1V]) fun E1 hE1 => ?_
 unfold e1V at hE1
 generalize wantM ⟨t, n, k, ps⟩ i row ps.length = w at h1 h2 hE1
 rw [fol_nrm, wb_seq]
 refine r190 (w1 := w.1) (w2 := w.2) htv (by omega) hE1 (by rw [h1]; exact kp i) fun E2 h3 h4 => ?_
 rw [fol_nrm, wb_false (ev_bo h3), wb_skip]
 simp [-wb_regN]
 rw [wb_regN, h4]
 simp [w1, rnd_nrm]
 exact ⟨i + 1, by omega, by omega, by simp⟩
set_option maxRecDepth 20000 in
theorem r201 {m : Nat} {cs : List AV} (htv : Nz tv)
  (hE : restrict [1, 2, 7] E = [(1, Sg row), (2, .box [I t, I n, I k, .sl m cs]), (7, .box [tv])])
  (kp1 : C 0 0 17 [.agg [I t, I n, I k, .sl m cs], .agg [tv], I n, Sg row] [] = some (I (-1), []))
  (kp2 : C 0 0 17 [.agg [I t, I n, I k, .sl m cs], .agg [tv], I (-1), Sg row] [] = some (I (-1), []))
  (hQ : ∀ E', find E' 4 = Bo true → Q .nrm E' []) :
  WB ⟨C, 0, 0, B3⟩ (.regN [1, 2, 7] [ ⟨some 201, none, .ldA (some 2) 4 (.tmp 2), 0, false⟩,⟨some 202, none, .ldA (some 7) 1 (.tmp 7), 0, false⟩,⟨some 203, none, .fldA 1 (.tmp 2), 0, false⟩,⟨some 204, none, .ld1 (some 2) (.tmp 203), 0, false⟩,⟨some 205, none, .mv (.tmp 1), 0, false⟩,⟨some 206, none, .call 17 [(.tmp 201), (.tmp 202), (.tmp 204), (.tmp 205)], 0, false⟩,⟨some 207, none, .bini .eql (.tmp 206) (.con (.val (.int .i64 (-1)))), 0, false⟩,⟨some 208, none, .mv (.tmp 207), 0, false⟩,⟨some 209, some (208, true), .ldA (some 2) 4 (.tmp 2), 0, false⟩,⟨some 210, some (208, true), .ldA (some 7) 1 (.tmp 7), 0, false⟩,⟨some 211, some (208, true), .mv (.tmp 1), 0, false⟩,⟨some 212, some (208, true), .call 17 [(.tmp 209), (.tmp 210), (.con (.val (.int .i64 (-1)))), (.tmp 211)], 0, false⟩,⟨some 213, some (208, true), .bini .eql (.tmp 212) (.con (.val (.int .i64 (-1)))), 0, false⟩,⟨some 214, none, .pick (.tmp 208) (.tmp 213) (.con (.val (.bool false))), 0, false⟩,⟨some 4, none, .mv (.tmp 214), 0, false⟩]) Q E [] := by
 rw [wb_regN, hE]
 rcases htv with rfl | ⟨m1, c1, rfl⟩
 all_goals
  simp [kp1, kp2]
  refine hQ _ ?_
  rfl
theorem fin_true {E : Env} {H : Heap} (h : find E 4 = Bo true) : FinT [.tmp 4] true H (Bo true, H) .ret E H := by
 simp [h]
end
def t3R : AC := (.seq (.regD [1, 2] 0 [ ⟨some 34, none, .ldA (some 2) 4 (.tmp 2), 0, false⟩,⟨some 35, none, .call 11 [(.tmp 34)], 0, true⟩,⟨some 36, none, .ldA (some 2) 4 (.tmp 2), 0, false⟩,⟨some 37, none, .call 12 [(.tmp 36)], 0, true⟩,⟨some 5, none, .mv (.tmp 35), 0, false⟩,⟨some 6, none, .mv (.tmp 37), 0, false⟩]) (.seq (.regN [1, 2, 5, 6] [ ⟨some 39, none, .ldA (some 2) 4 (.tmp 2), 0, false⟩,⟨some 40, none, .call 13 [(.tmp 39)], 0, false⟩,⟨some 38, none, .mv (.tmp 40), 0, false⟩,⟨some 41, none, .ext (.tmp 38) 0, 0, false⟩,⟨some 42, none, .ext (.tmp 38) 1, 0, false⟩,⟨some 43, none, .ext (.tmp 38) 2, 0, false⟩,⟨some 7, none, .allocR [.e0], 0, false⟩,⟨some 8, none, .allocR [(.val (.int .i64 0)), (.val (.int .i64 0)), (.val (.int .i64 0)), (.val (.string ⟨#[]⟩))], 0, false⟩,⟨none, none, .st (some 7) 1 (.tmp 7) (.tmp 41), 0, false⟩,⟨none, none, .st (some 8) 4 (.tmp 8) (.tmp 42), 0, false⟩,⟨some 9, none, .mv (.tmp 43), 0, false⟩]) (.seq (.seq (.regN [1, 2, 5, 6, 7, 8, 9] [ ⟨some 44, none, .mv (.tmp 9), 0, false⟩,⟨some 45, none, .bini .neq (.tmp 44) (.con (.val (.int .i64 0))), 0, false⟩]) (.cond (.tmp 45) (.seq (.seq (.regN [2, 5, 6, 7, 8, 9] [ ⟨some 46, none, .fldA 1 (.tmp 8), 0, false⟩,⟨some 47, none, .ld1 (some 8) (.tmp 46), 0, false⟩,⟨some 48, none, .bini .lss (.tmp 47) (.con (.val (.int .i64 0))), 0, false⟩,⟨some 49, none, .mv (.tmp 48), 0, false⟩,⟨some 50, some (49, false), .fldA 1 (.tmp 8), 0, false⟩,⟨some 51, some (49, false), .ld1 (some 8) (.tmp 50), 0, false⟩,⟨some 52, some (49, false), .fldA 3 (.tmp 2), 0, false⟩,⟨some 53, some (49, false), .ld1 (some 2) (.tmp 52), 0, false⟩,⟨some 54, some (49, false), .len false (.tmp 53), 0, false⟩,⟨some 55, some (49, false), .bini .geq (.tmp 51) (.tmp 54), 0, false⟩,⟨some 56, none, .pick (.tmp 49) (.con (.val (.bool true))) (.tmp 55), 0, false⟩,⟨some 57, none, .mv (.tmp 56), 0, false⟩,⟨some 58, some (57, false), .fldA 2 (.tmp 8), 0, false⟩,⟨some 59, some (57, false), .ld1 (some 8) (.tmp 58), 0, false⟩,⟨some 60, some (57, false), .bini .lss (.tmp 59) (.con (.val (.int .i64 0))), 0, false⟩,⟨some 61, none, .pick (.tmp 57) (.con (.val (.bool true))) (.tmp 60), 0, false⟩,⟨some 62, none, .mv (.tmp 61), 0, false⟩,⟨some 63, some (62, false), .fldA 2 (.tmp 8), 0, false⟩,⟨some 64, some (62, false), .ld1 (some 8) (.tmp 63), 0, false⟩,⟨some 65, some (62, false), .fldA 3 (.tmp 2), 0, false⟩,⟨some 66, some (62, false), .ld1 (some 2) (.tmp 65), 0, false⟩,⟨some 67, some (62, false), .len false (.tmp 66), 0, false⟩,⟨some 68, some (62, false), .bini .geq (.tmp 64) (.tmp 67), 0, false⟩,⟨some 69, none, .pick (.tmp 62) (.con (.val (.bool true))) (.tmp 68), 0, false⟩]) (.cond (.tmp 69) (.seq (.regN [] [ ⟨some 4, none, .mv (.con (.val (.bool false))), 0, false⟩]) .ret) .skip)) (.seq (.regD [2, 5, 6, 7, 8, 9] 0 [ ⟨some 70, none, .fldA 3 (.tmp 2), 0, false⟩,⟨some 71, none, .ld1 (some 2) (.tmp 70), 0, false⟩,⟨some 72, none, .fldA 1 (.tmp 8), 0, false⟩,⟨some 73, none, .ld1 (some 8) (.tmp 72), 0, false⟩,⟨some 74, none, .ixA 2 (.tmp 71) (.tmp 73), 0, false⟩,⟨some 75, none, .ldA none 2 (.tmp 74), 0, false⟩,⟨some 76, none, .fldA 3 (.tmp 2), 0, false⟩,⟨some 77, none, .ld1 (some 2) (.tmp 76), 0, false⟩,⟨some 78, none, .fldA 2 (.tmp 8), 0, false⟩,⟨some 79, none, .ld1 (some 8) (.tmp 78), 0, false⟩,⟨some 80, none, .ixA 2 (.tmp 77) (.tmp 79), 0, false⟩,⟨some 81, none, .ldA none 2 (.tmp 80), 0, false⟩,⟨some 10, none, .allocR [(.val (.int .i64 0)), .e0], 0, false⟩,⟨some 11, none, .allocR [(.val (.int .i64 0)), .e0], 0, false⟩,⟨none, none, .st (some 10) 2 (.tmp 10) (.tmp 75), 0, false⟩,⟨none, none, .st (some 11) 2 (.tmp 11) (.tmp 81), 0, false⟩]) (.seq (.regD [2, 5, 6, 7, 8, 9, 10, 11] 0 [ ⟨some 82, none, .fldA 2 (.tmp 2), 0, false⟩,⟨some 83, none, .ld1 (some 2) (.tmp 82), 0, false⟩,⟨some 84, none, .ldA (some 2) 4 (.tmp 2), 0, false⟩,⟨some 85, none, .mv (.tmp 5), 0, false⟩,⟨some 86, none, .fldA 1 (.tmp 10), 0, false⟩,⟨some 87, none, .ld1 (some 10) (.tmp 86), 0, false⟩,⟨some 88, none, .call 15 [(.tmp 84), (.tmp 85), (.tmp 87)], 0, false⟩,⟨some 89, none, .mv (.tmp 6), 0, false⟩,⟨some 90, none, .fldA 0 (.tmp 10), 0, false⟩,⟨some 91, none, .ld1 (some 10) (.tmp 90), 0, false⟩,⟨some 92, none, .ixA 1 (.tmp 89) (.tmp 91), 0, false⟩,⟨some 93, none, .ld1 none (.tmp 92), 0, false⟩,⟨some 94, none, .call 14 [(.tmp 83), (.tmp 88), (.tmp 93)], 0, true⟩,⟨some 12, none, .mv (.tmp 94), 0, false⟩]) (.seq (.regD [2, 5, 6, 7, 8, 9, 10, 11, 12] 0 [ ⟨some 95, none, .fldA 2 (.tmp 2), 0, false⟩,⟨some 96, none, .ld1 (some 2) (.tmp 95), 0, false⟩,⟨some 97, none, .ldA (some 2) 4 (.tmp 2), 0, false⟩,⟨some 98, none, .mv (.tmp 5), 0, false⟩,⟨some 99, none, .fldA 1 (.tmp 11), 0, false⟩,⟨some 100, none, .ld1 (some 11) (.tmp 99), 0, false⟩,⟨some 101, none, .call 15 [(.tmp 97), (.tmp 98), (.tmp 100)], 0, false⟩,⟨some 102, none, .mv (.tmp 6), 0, false⟩,⟨some 103, none, .fldA 0 (.tmp 11), 0, false⟩,⟨some 104, none, .ld1 (some 11) (.tmp 103), 0, false⟩,⟨some 105, none, .ixA 1 (.tmp 102) (.tmp 104), 0, false⟩,⟨some 106, none, .ld1 none (.tmp 105), 0, false⟩,⟨some 107, none, .call 14 [(.tmp 96), (.tmp 101), (.tmp 106)], 0, true⟩,⟨some 13, none, .mv (.tmp 107), 0, false⟩]) (.seq (.regN [7, 8, 9, 10, 11, 12, 13] [ ⟨some 108, none, .mv (.tmp 9), 0, false⟩,⟨some 109, none, .bini .eql (.tmp 108) (.con (.val (.int .i64 9))), 0, false⟩,⟨some 110, none, .mv (.tmp 109), 0, false⟩,⟨some 111, some (110, true), .fldA 1 (.tmp 8), 0, false⟩,⟨some 112, some (110, true), .ld1 (some 8) (.tmp 111), 0, false⟩,⟨some 113, some (110, true), .fldA 2 (.tmp 8), 0, false⟩,⟨some 114, some (110, true), .ld1 (some 8) (.tmp 113), 0, false⟩,⟨some 115, some (110, true), .bini .lss (.tmp 112) (.tmp 114), 0, false⟩,⟨some 116, none, .pick (.tmp 110) (.tmp 115) (.con (.val (.bool false))), 0, false⟩,⟨some 117, none, .mv (.tmp 116), 0, false⟩,⟨some 118, some (117, true), .fldA 0 (.tmp 10), 0, false⟩,⟨some 119, some (117, true), .ld1 (some 10) (.tmp 118), 0, false⟩,⟨some 120, some (117, true), .fldA 0 (.tmp 8), 0, false⟩,⟨some 121, some (117, true), .ld1 (some 8) (.tmp 120), 0, false⟩,⟨some 122, some (117, true), .bini .eql (.tmp 119) (.tmp 121), 0, false⟩,⟨some 123, none, .pick (.tmp 117) (.tmp 122) (.con (.val (.bool false))), 0, false⟩,⟨some 124, none, .mv (.tmp 123), 0, false⟩,⟨some 125, some (124, true), .fldA 0 (.tmp 11), 0, false⟩,⟨some 126, some (124, true), .ld1 (some 11) (.tmp 125), 0, false⟩,⟨some 127, some (124, true), .fldA 0 (.tmp 8), 0, false⟩,⟨some 128, some (124, true), .ld1 (some 8) (.tmp 127), 0, false⟩,⟨some 129, some (124, true), .bini .eql (.tmp 126) (.tmp 128), 0, false⟩,⟨some 130, none, .pick (.tmp 124) (.tmp 129) (.con (.val (.bool false))), 0, false⟩,⟨some 131, none, .mv (.tmp 130), 0, false⟩,⟨some 132, some (131, true), .mv (.tmp 12), 0, false⟩,⟨some 133, some (131, true), .fldA 3 (.tmp 8), 0, false⟩,⟨some 134, some (131, true), .ld1 (some 8) (.tmp 133), 0, false⟩,⟨some 135, some (131, true), .call 16 [(.tmp 132), (.tmp 134)], 0, false⟩,⟨some 136, none, .pick (.tmp 131) (.tmp 135) (.con (.val (.bool false))), 0, false⟩,⟨some 137, none, .mv (.tmp 136), 0, false⟩,⟨some 138, some (137, true), .mv (.tmp 13), 0, false⟩,⟨some 139, some (137, true), .fldA 3 (.tmp 8), 0, false⟩,⟨some 140, some (137, true), .ld1 (some 8) (.tmp 139), 0, false⟩,⟨some 141, some (137, true), .call 16 [(.tmp 138), (.tmp 140)], 0, false⟩,⟨some 142, none, .pick (.tmp 137) (.tmp 141) (.con (.val (.bool false))), 0, false⟩,⟨some 143, none, .mv (.tmp 142), 0, false⟩,⟨some 144, some (143, true), .fldA 0 (.tmp 7), 0, false⟩,⟨some 145, some (143, true), .ld1 (some 7) (.tmp 144), 0, false⟩,⟨some 146, some (143, true), .len false (.tmp 145), 0, false⟩,⟨some 147, some (143, true), .bini .eql (.tmp 146) (.con (.val (.int .i64 0))), 0, false⟩,⟨some 148, none, .pick (.tmp 143) (.tmp 147) (.con (.val (.bool false))), 0, false⟩,⟨some 4, none, .mv (.tmp 148), 0, false⟩]) .ret))))) .skip)) (.seq (.seq (.regN [1, 2, 5, 6, 7] [ ⟨some 14, none, .mv (.con (.val (.int .i64 0))), 0, false⟩]) (.block 0 (.loop [1, 2, 5, 6, 7, 14] t3L2))) (.seq (.regN [1, 2, 7] [ ⟨some 201, none, .ldA (some 2) 4 (.tmp 2), 0, false⟩,⟨some 202, none, .ldA (some 7) 1 (.tmp 7), 0, false⟩,⟨some 203, none, .fldA 1 (.tmp 2), 0, false⟩,⟨some 204, none, .ld1 (some 2) (.tmp 203), 0, false⟩,⟨some 205, none, .mv (.tmp 1), 0, false⟩,⟨some 206, none, .call 17 [(.tmp 201), (.tmp 202), (.tmp 204), (.tmp 205)], 0, false⟩,⟨some 207, none, .bini .eql (.tmp 206) (.con (.val (.int .i64 (-1)))), 0, false⟩,⟨some 208, none, .mv (.tmp 207), 0, false⟩,⟨some 209, some (208, true), .ldA (some 2) 4 (.tmp 2), 0, false⟩,⟨some 210, some (208, true), .ldA (some 7) 1 (.tmp 7), 0, false⟩,⟨some 211, some (208, true), .mv (.tmp 1), 0, false⟩,⟨some 212, some (208, true), .call 17 [(.tmp 209), (.tmp 210), (.con (.val (.int .i64 (-1)))), (.tmp 211)], 0, false⟩,⟨some 213, some (208, true), .bini .eql (.tmp 212) (.con (.val (.int .i64 (-1)))), 0, false⟩,⟨some 214, none, .pick (.tmp 208) (.tmp 213) (.con (.val (.bool false))), 0, false⟩,⟨some 4, none, .mv (.tmp 214), 0, false⟩]) .ret)))))
set_option maxRecDepth 20000 in
theorem r3_code {C : Orc} {E : Env} {t k : Int} {n : Nat} {ps : List Pr} {row : List UInt8} {tv : AV} {Fc Gc : List AV} {l a b : Nat} {x : List UInt8} {e : Int} (P : Int → Int) (ok : GOk ⟨t, n, k, ps⟩)
  (k1 : C 0 0 11 [.agg [I t, I n, I k, .sl ps.length (psC ps)]] [] = some (.sl Fc.length Fc, [])) (k2 : C 0 0 12 [.agg [I t, I n, I k, .sl ps.length (psC ps)]] [] = some (.sl Gc.length Gc, []))
  (kb : C 0 0 13 [.agg [I t, I n, I k, .sl ps.length (psC ps)]] [] = some (.tup [.agg [tv], .agg [I l, I a, I b, Sg x], I e], []))
  (kk : K3 C ⟨t, n, k, ps⟩ Fc.length Fc Gc tv) (htv : Nz tv)
  (he : (e = 9 ∧ (tv = .e0 ∨ ∃ c, tv = .sl 0 c) ∧ a < b ∧ ∃ (ha : a < ps.length) (hb : b < ps.length), ps[a].l = l ∧ ps[b].l = l ∧ x ∈ lookP ⟨t, n, k, ps⟩ ps[a] ∧ x ∈ lookP ⟨t, n, k, ps⟩ ps[b]) ∨
   (e = 0 ∧ (∀ left : Int, C 0 0 17 [.agg [I t, I n, I k, .sl ps.length (psC ps)], .agg [tv], I left, Sg row] [] = some (I (P left), [])) ∧ P n = -1 ∧ P (-1) = -1 ∧
    ∀ left : Nat, left < n → (wantM ⟨t, n, k, ps⟩ left row ps.length).1 = P left ∧ (wantM ⟨t, n, k, ps⟩ left row ps.length).2 ≤ 1))
  (hE : restrict [1, 2] E = [(1, Sg row), (2, .box [I t, I n, I k, .sl ps.length (psC ps)])]) :
  WB ⟨C, 0, 0, B3⟩ t3R (FinT [.tmp 4] true [] (Bo true, [])) E [] := by
 unfold t3R
 rw [wb_seq]
 refine r34 (.inr ⟨_, _, rfl⟩) (.inr ⟨_, _, rfl⟩) hE k1 k2 fun E1 h1 => ?_
 rw [fol_nrm, wb_seq]
 refine r39 htv (.inr ⟨_, _, rfl⟩) (.inr ⟨_, _, rfl⟩) h1 kb fun E2 h2 => ?_
 rw [fol_nrm, wb_seq, wb_seq, wb_regN]
 rcases he with ⟨rfl, htv0, hab, ha, hb, hla, hlb, hxa, hxb⟩ | ⟨rfl, kp, hp1, hp2, hw⟩
 ·rw [h2]
  simp [-wb_true, -wb_false, -wb_regN, -wb_regD]
  rw [wb_true rfl, wb_seq, wb_seq]
  refine r46b (m := ps.length) (cs := psC ps) (a := a) (b := b) (l := l) (x := x) (h7 := [tv]) (e := 9) (Fc := Fc) (Gc := Gc) (nf := Fc.length) (t := t) (n := n) (k := k) ha hb ?_ fun E3 h3 h4 => ?_
  ·simp
  rw [fol_nrm, wb_false (ev_bo h3), wb_skip, fol_nrm, wb_seq]
  refine r70 ha hb h4 fun E4 h5 => ?_
  rw [fol_nrm, wb_seq]
  obtain ⟨oA, vA, cA, ho, hv, hc, ko, hg, kc, kh⟩ := kk.each _ (List.getElem_mem ha)
  obtain ⟨oB, vB, cB, ho', hv', hc', ko', hg', kc', kh'⟩ := kk.each _ (List.getElem_mem hb)
  have q1 := kh x
  have q2 := kh' x
  rw [hasV_iff.2 hxa] at q1
  rw [hasV_iff.2 hxb] at q2
  simp only at ko hg kc ko' hg' kc'
  simp only [Pr.cells] at h5
  rw [hla] at hg h5
  rw [hlb] at hg' h5
  simp only [Int.toNat_natCast] at hg hg'
  refine r82 ho hv hc h5 ko hg kc fun E5 h6 => ?_
  rw [fol_nrm, wb_seq]
  refine r95 hc ho' hv' hc' h6 ko' hg' kc' fun E6 h7 => ?_
  rw [fol_nrm, wb_seq]
  refine r108 hab htv0 hc hc' h7 q1 q2 fun E7 h8 => ?_
  rw [fol_nrm, wb_ret]
  exact fin_true h8
 ·rw [h2]
  simp [-wb_true, -wb_false, -wb_regN, -wb_regD]
  rw [wb_false rfl, wb_skip, fol_nrm, wb_seq, wb_seq, wb_regN]
  simp [-wb_true, -wb_false, -wb_regN, -wb_regD, -wb_block]
  refine l2_code (row := row) htv ok kk P kp hw (by simp) fun E3 h3 => ?_
  rw [fol_nrm, wb_seq]
  refine r201 (n := n) htv h3 (by rw [kp, hp1]) (by rw [kp, hp2]) fun E4 h4 => ?_
  rw [fol_nrm, wb_ret]
  exact fin_true h4
set_option maxRecDepth 20000 in
theorem one_code (g : Gm) (row : List UInt8) : callW X A 0 0 3 [gV g, Sg row] [] = some (Bo true, []) := by
 have kl := fun (L : Nat) => lives_at (lk := 0) (lim := L) (H := [])
 have kg := fun (L : Nat) => light_code (lk := 0) (lim := L) (H := []) g
 have kc := fun (hlt : light g = true) (L : Nat) => rcheck_code (lk := 0) (lim := L) (H := []) g (light_bd hlt).1 (light_bd hlt).2
 refine wb_callB B3 rfl A3 rfl rfl ?_
 unfold t3B
 have main : light g = true → chkE g = 0 → ∀ E, restrict [1, 2] E = [(1, Sg row), (2, .box [I g.t, I g.n, I g.k, .sl g.ps.length (psC g.ps)])] → WB ⟨callW X A, 0, 0, B3⟩ t3R (FinT [.tmp 4] true [] (Bo true, [])) E [] := by
  intro h1 hc E hE
  have ok := gok_of hc
  obtain ⟨hl, hr⟩ := light_bd h1
  obtain ⟨_, _, k1, rfl, q1⟩ := sets2_code (lk := 0) (lim := 0) (H := []) (Nat.le_refl _) g hl hr
  rw [if_pos hc] at q1
  obtain ⟨Fc, rfl, hF⟩ := q1
  obtain ⟨v2, g2, k2, e2, q2⟩ := rsets_code (lk := 0) (lim := 0) (H := []) (Nat.le_refl _) g hl hr
  rw [if_pos hc] at q2
  obtain ⟨Gc, rfl, hG⟩ := q2
  rw [e2] at k2
  obtain ⟨tv, kb, hT⟩ := build_code2 (lk := 0) (lim := 0) (H := []) (Nat.le_refl _) g hl hr
  have hll : ∀ {p : Pr}, p ∈ g.ps → (lookP g p).length ≤ 1000000 := fun hp => look_len ok (List.mem_map.2 ⟨_, hp, rfl⟩)
  have kk : K3 (callW X A) g Fc.length Fc Gc tv := ⟨fun p hp => by
   have hof : OfOk g (setsM g) p.r := ⟨hc, by rw [(sets_ok ok).len]; have := ok.n1; omega, by
    rw [List.any_eq_false]
    intro s hs
    have := (ok.p p hp).s s hs
    simp only [badS, Bool.or_eq_true, decide_eq_true_eq, not_or]
    omega⟩
   have ko := of33_code (lk := 0) (lim := 0) (H := []) (Nat.le_refl _) g hl hr hF p.r (hr p hp) (by rw [(sets_ok ok).len]; have := ok.n2; omega) fun _ => ⟨(of_need ok (sets_ok ok) (ok.p p hp)).2.1, (of_need ok (sets_ok ok) (ok.p p hp)).2.2⟩
   rw [if_pos hof] at ko
   have hGn : p.l.toNat < (folM g).length := by rw [(fol_ok ok).len]; have := (ok.p p hp).l1; have := (ok.p p hp).l0; omega
   obtain ⟨v, hv1, hv2⟩ := hG.get hGn
   have hb := (of_need ok (sets_ok ok) (ok.p p hp)).2.1 p.r.length
   rw [List.take_length] at hb
   have kc := cat2_code (lk := 0) (lim := 0) (H := []) (Nat.le_refl _) g.k (rV_rv (ofM g (setsM g) p.r)) hv2 hb.1 (Nat.le_trans (((fol_ok ok).get _).size ok) (by decide)) hb.2 (frow_len ok ((fol_ok ok).get _))
   exact ⟨_, v, _, nz_rv (rV_rv _), nz_rv hv2, nz_rv (rV_rv _), ko, hv1, kc, fun x => has2_code (lk := 0) (lim := 0) (H := []) (rV_rv (lookP g p)) x (Nat.le_trans (hll hp) (by decide))⟩⟩
  obtain ⟨l, a, b, x, hx⟩ := cfV_get (buildC g)
  rw [hx] at kb
  have hnn : ((g.n.toNat : Nat) : Int) = g.n := Int.toNat_of_nonneg (by have := ok.n1; omega)
  refine r3_code (t := g.t) (n := g.n.toNat) (k := g.k) (ps := g.ps) (row := row) (tv := tv) (Fc := Fc) (Gc := Gc) (l := l) (a := a) (b := b) (x := x) (e := buildE g) (fun left => prdM g (lookM g) left row)
   (by rw [hnn]; exact ok) (by rw [hnn]; exact k1) (by rw [hnn]; exact k2) (by rw [hnn]; exact kb) (by rw [hnn]; exact kk) (nz_tv hT) ?_ (by rw [hnn]; exact hE)
  rw [hnn]
  by_cases h0 : buildE g = 0
  ·have hcn := (build_ok hc).1 h0
   unfold buildT at hT
   rw [if_pos h0] at hT
   refine .inr ⟨h0, fun left => predict_code (lk := 0) (lim := 0) (H := []) (Nat.le_refl _) g hl hr hT (fun l h => Nat.le_trans (look_len ok h) (by decide)) left row, ?_, ?_, fun left hlt => ?_⟩
   ·rw [prdM_look hc, ofN_none ok (.inr (Int.le_refl _))]; rfl
   ·rw [prdM_look hc, ofN_none ok (.inl (by decide))]; rfl
   ·rw [prdM_look hc]
    rcases want_one ok hcn left row _ (Nat.le_refl _) with ⟨_, w1, w2⟩ | ⟨j, _, _, w1, w2⟩
    ·rw [show Gm.mk g.t g.n g.k g.ps = g from rfl, w1, w2]; simp
    ·rw [show Gm.mk g.t g.n g.k g.ps = g from rfl, w1, w2]; simp
  ·have he := build_bad hc h0
   refine .inl ⟨he, ?_, ?_⟩
   ·unfold buildT at hT
    rw [if_neg h0] at hT
    rcases hT with ⟨rfl, _⟩ | ⟨cs, rfl, hs⟩
    ·exact .inl rfl
    ·exact .inr ⟨cs, by rw [hs.1]; rfl⟩
   ·cases hm : confM g with
    | none => exact absurd ((build_ok hc).2 hm) h0
    | some c =>
     obtain ⟨l', a', b', x'⟩ := c
     unfold buildC at hx
     rw [if_pos hc, hm] at hx
     simp only [cfV, AV.agg.injEq, List.cons.injEq, AV.val.injEq, Value.int.injEq, true_and, Int.natCast_inj, Value.string.injEq] at hx
     obtain ⟨rfl, rfl, rfl, hx4⟩ := hx
     have hx5 : x' = x := by simpa using hx4
     subst hx5
     exact conf_some ok hm
 generalize hl1 : light g = b1 at kc kg main
 generalize chkE g = c at kc main
 obtain ⟨t, n, k, ps⟩ := g
 simp only [gV, Gm.cells] at kg kc
 generalize callW X A = C at kl kg kc main ⊢
 simp [-wb_regN, -wb_true, -wb_false, -wb_regD]
 rw [wb_regN]
 simp [-wb_regN, -wb_true, -wb_false, -wb_regD, Gm.cells]
 rw [wb_regN]
 simp [-wb_regN, -wb_true, -wb_false, -wb_regD, kl]
 rw [wb_false rfl, wb_skip, fol_nrm, wb_seq, wb_seq, wb_regN]
 cases b1 with
 | false =>
  simp [-wb_regN, -wb_true, -wb_false, -wb_regD, kg]
  rw [wb_true rfl]
  simp
 | true =>
  have kc := kc rfl
  by_cases hc : c = 0
  case neg =>
   have hc2 : (c != 0) = true := by simpa using hc
   simp [-wb_regN, -wb_true, -wb_false, -wb_regD, kg, kc, hc, hc2]
   rw [wb_true rfl]
   simp
  subst hc
  by_cases hrow : 20 < row.length
  ·have hrow2 : (20 : Int) < row.length := by omega
   simp [-wb_regN, -wb_true, -wb_false, -wb_regD, kg, kc, Sg_size, hrow2]
   rw [wb_true rfl]
   simp
  ·have hrow2 : ¬ (20 : Int) < row.length := by omega
   simp [-wb_regN, -wb_true, -wb_false, -wb_regD, kg, kc, Sg_size, hrow2]
   rw [wb_false rfl, wb_skip, fol_nrm]
   refine main rfl rfl _ ?_
   simp
end Go.Proofs.Ytgbpioccaenjaaa
