import Derived.Test.YtmehaecclidfjaaSn4
set_option linter.unusedSimpArgs false
set_option linter.unusedVariables false
namespace Go.Proofs.Ytmehaecclidfjaa
open Go Go.Hm

set_option maxRecDepth 20000 in
theorem snap_code {s : List UInt8} {l : List Ac} {early : Int} (hl : l.length ≤ 100000000000000) (he : -9223372036854775808 ≤ early ∧ early ≤ 9223372036854775807) : callW X2 A2 0 0 4 [Sg s, .sl l.length (acC l), I early] [] = some (Bo true, []) := by
  refine wb_callB [] rfl B4 rfl rfl ?_
  obtain ⟨H1, k8, hlen1, kp1⟩ := lives_okG (H := [.cells [I early], .cells [Bo false]])
  have k8 : C2 0 0 1008 [] [.cells [I early], .cells [Bo false]] = _ := up rfl k8
  have k9 : ∀ H, C2 0 0 9 [Sg s, .sl l.length (acC l)] H = some (Bo (lightB s l), H) := fun H => up rfl (light_code s l (by omega))
  have a0 : H1[0]? = some (.cells [I early]) := kp1 0 (by simp)
  have a1 : H1[1]? = some (.cells [Bo false]) := kp1 1 (by simp)
  have hlen : 2 ≤ H1.length := hlen1
  have fin : ∀ env' H', find env' 6 = .hp 1 1 0 → H'[1]? = some (.cells [Bo true]) → FinT [ARes.cell 6 1 false] true [] (Bo true, []) .ret env' H' := by
    intro env' H' h1 h2
    simp [FinT, h1, h2]
  by_cases hL : lightB s l = true
  · have hL' := hL
    unfold lightB at hL'
    simp only [Bool.and_eq_true, List.all_eq_true, decide_eq_true_eq] at hL'
    obtain ⟨q1, q2, q3⟩ := hL'
    obtain ⟨H2, k11, tg, hlt2, kp2⟩ := tg_new (H := H1) (s := s) [0, 1] (by simp; omega) (by omega)
    have k11 : C2 0 0 11 [Sg s] H1 = _ := up rfl k11
    have main : ∀ env' H', TG H' H1.length s 0 [0, 1, H2.length] → H'[0]? = some (.cells [I early]) → H'[1]? = some (.cells [Bo false]) → H'[H2.length]? = some (.cells [.hp H1.length 4 0]) →
        restrict [1, 5, 6, 7, 9] env' = [(1, .sl l.length (acC l)), (5, .hp 0 1 0), (6, .hp 1 1 0), (7, .hp H2.length 1 0), (9, I 0)] → WB ⟨C2, 0, 0, []⟩ (.loop [1, 5, 6, 7, 9] u4L1) (BlkE 0 (Fol ⟨C2, 0, 0, []⟩ (srN 6 u4B) (FinT [ARes.cell 6 1 false] true [] (Bo true, [])))) env' H' := by
      intro env' H' h1 h2 h3 h4 h5
      refine edits4 rfl rfl rfl rfl q3 q1 h1 h2 h3 h4 h5 fun env2 s' H3 t1 t2 t3 t4 t5 => ?_
      rw [blk_exit, if_pos rfl, fol_nrm]
      exact mid4 rfl rfl rfl rfl (by omega) he t1 t2 t3 t4 t5 fin
    have hfin : ∀ X, X = H2 ++ [HB.cells [.hp H1.length 4 0]] → TG X H1.length s 0 [0, 1, H2.length] ∧ X[0]? = some (.cells [I early]) ∧ X[1]? = some (.cells [Bo false]) ∧ X[H2.length]? = some (.cells [.hp H1.length 4 0]) := by
      rintro X rfl
      refine ⟨tg.app _ _ (fun k hk => by simp at hk ⊢; omega), ?_, ?_, by simp⟩
      · rw [List.getElem?_append_left (by omega), kp2 0 (by omega)]; exact a0
      · rw [List.getElem?_append_left (by omega), kp2 1 (by omega)]; exact a1
    unfold u4B at main ⊢
    simp only [srN, sr] at main ⊢
    show WB ⟨C2, 0, 0, []⟩ _ _ _ _
    generalize C2 = C at k8 k9 k11 main ⊢
    simp [-wb_regN, -wb_regD, -wb_true, -wb_false, -wi_st]
    rw [wb_regN]
    simp [-wb_regN, -wb_regD, -wb_true, -wb_false, -wi_st]
    rw [wb_regN]
    simp [-wb_regN, -wb_regD, -wb_true, -wb_false, -wi_st, k8]
    rw [wb_false rfl]
    simp [-wb_regN, -wb_regD, -wb_true, -wb_false, -wi_st]
    rw [wb_regN]
    simp [-wb_regN, -wb_regD, -wb_true, -wb_false, -wi_st, k9, hL]
    rw [wb_false rfl]
    simp [-wb_regN, -wb_regD, -wb_true, -wb_false, -wi_st]
    rw [wb_regN]
    simp [-wb_regN, -wb_regD, -wb_true, -wb_false, -wi_st, k11]
    rw [wi_st]
    simp [-wb_regN, -wb_regD, -wb_true, -wb_false, -wi_st, setH, replaceAt]
    rw [wb_regN]
    have z7 : (H2 ++ [HB.cells [.hp H1.length 4 0]])[H2.length]? = some (.cells [.hp H1.length 4 0]) := by simp
    simp [-wb_regN, -wb_regD, -wb_true, -wb_false, -wi_st, z7, eqPtr, isPtr]
    rw [wb_false rfl]
    simp [-wb_regN, -wb_regD, -wb_true, -wb_false, -wi_st]
    rw [wb_regN]
    simp [-wb_regN, -wb_regD, -wb_true, -wb_false, -wi_st]
    obtain ⟨f1, f2, f3, f4⟩ := hfin _ rfl
    exact main _ _ f1 f2 f3 f4 rfl
  · have hLf : lightB s l = false := by simpa using hL
    have hl1 := (List.getElem?_eq_some_iff.1 a1).1
    unfold u4B
    show WB ⟨C2, 0, 0, []⟩ _ _ _ _
    generalize C2 = C at k8 k9 ⊢
    simp [-wb_regN, -wb_regD, -wb_true, -wb_false, -wi_st]
    rw [wb_regN]
    simp [-wb_regN, -wb_regD, -wb_true, -wb_false, -wi_st]
    rw [wb_regN]
    simp [-wb_regN, -wb_regD, -wb_true, -wb_false, -wi_st, k8]
    rw [wb_false rfl]
    simp [-wb_regN, -wb_regD, -wb_true, -wb_false, -wi_st]
    rw [wb_regN]
    simp [-wb_regN, -wb_regD, -wb_true, -wb_false, -wi_st, k9, hLf]
    rw [wb_true rfl]
    simp [-wb_regN, -wb_regD, -wb_true, -wb_false, -wi_st]
    rw [wb_regN]
    simp [-wb_regN, -wb_regD, -wb_true, -wb_false, -wi_st]
    rw [wi_st]
    simp [-wb_regN, -wb_regD, -wb_true, -wb_false, -wi_st, a1, setH, replaceAt]
    have z1 : (List.set H1 1 (HB.cells [AV.val (Value.bool true)]))[1]? = some (.cells [Bo true]) := by simp [hl1]
    simp [z1]
end Go.Proofs.Ytmehaecclidfjaa
