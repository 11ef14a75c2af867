import Derived.Test.YtmehaecclidfjaaL
set_option linter.unusedSimpArgs false
set_option linter.unusedVariables false
namespace Go.Proofs.Ytmehaecclidfjaa
open Go Go.Hm

set_option maxRecDepth 20000 in
theorem rest3 {S : Cx} {Q : Ex → Kt} {env : Env} {H : Heap} {s : List UInt8} {l : List Ac} {x : Ac} (hC : S.C = callW X A) (hlk : S.lk = 0) (hlm : S.lim = 0) (hB : S.B = [5]) (hL : lightB s (l ++ [x]) = true)
    (hE : restrict [0, 1, 5] env = [(0, Sg s), (1, .sl l.length (acC l)), (5, .box x.cells)])
    (hQ : ∀ env' H', find env' 6 = Bo true → Q .ret env' H') : WB S (sr (sr (sr t3B))) Q env H := by
  obtain ⟨C, lk, lim, B⟩ := S
  dsimp only at hC hlk hlm hB
  subst hC hlk hlm hB
  unfold lightB at hL
  simp only [Bool.and_eq_true, List.all_eq_true, decide_eq_true_eq, List.length_append, List.length_cons, List.length_nil] at hL
  obtain ⟨h1, h2, h3⟩ := hL
  have hx := h1 x (by simp)
  have hxs : ∀ y ∈ l, y.s.length ≤ 60 := fun y hy => h1 y (by simp [hy])
  obtain ⟨H1, k1, ht⟩ := tx_new (H := H) (s := s) (by omega)
  have main : ∀ env', restrict [1, 5, 7, 9] env' = [(1, .sl l.length (acC l)), (5, .box x.cells), (7, .hp H.length 4 0), (9, I 0)] → WB { C := callW X A, lk := 0, lim := 0, B := [5] } (.loop [1, 5, 7, 9] t3L1) (BlkE 0 (Fol { C := callW X A, lk := 0, lim := 0, B := [5] } (sr (sr (sr (sr (sr (sr t3B)))))) Q)) env' H1 := by
    intro env' he
    refine edits3 rfl rfl rfl rfl ⟨_, rfl⟩ (by omega) hxs ht he fun env2 s' H' t' he2 => ?_
    show WB _ _ _ _ _
    exact rest4 rfl rfl rfl rfl hx t' he2 hQ
  unfold t3B at main ⊢
  simp only [sr] at main ⊢
  generalize callW X A = C at k1 main ⊢
  simp [-wb_regN, -wb_regD]
  rw [wb_regN, hE]
  simp [-wb_regN, -wb_regD, k1]
  rw [wb_regN]
  simp [-wb_regN, -wb_regD, eqPtr, isPtr]
  rw [wb_regN]
  simp [-wb_regN, -wb_regD]
  exact main _ rfl
set_option maxRecDepth 20000 in
theorem undone_code {s : List UInt8} {l : List Ac} {x : Ac} (hr : (l.length + 1) * 40 ≤ room) (hl : l.length ≤ 100000000000000) : callW X A 0 0 3 [Sg s, .sl l.length (acC l), .agg x.cells] [] = some (Bo true, []) := by
  refine wb_callB [5] rfl A3 rfl rfl ?_
  have k0 := lives_ok
  have k1 := own_code (lk := 0) (lim := 0) (H := []) l (by omega)
  have k2 := fun lk lim => light_hs (lk := lk) (lim := lim) s (l ++ [x]) (by simp; omega)
  have hac : acC (l ++ [x]) = acC l ++ [I x.k, I x.a, I x.d, Sg x.s] := by rw [acC_app]; rfl
  rw [hac, show (l ++ [x]).length = l.length + 1 by simp, show (l.length + 1) * 4 = l.length * 4 + 4 by omega] at k2
  have main : ∀ Q env H, lightB s (l ++ [x]) = true → restrict [0, 1, 5] env = [(0, Sg s), (1, .sl l.length (acC l)), (5, .box x.cells)] → (∀ env' H', find env' 6 = Bo true → Q .ret env' H') → WB { C := callW X A, lk := 0, lim := 0, B := [5] } (sr (sr (sr t3B))) Q env H :=
    fun Q env H hL he hQ => rest3 rfl rfl rfl rfl hL he hQ
  unfold t3B at main ⊢
  simp only [sr] at main
  generalize callW X A = C at k0 k1 k2 main ⊢
  generalize lightB s (l ++ [x]) = bL at k2 main
  simp [-wb_regN, -wb_regD, Ac.cells]
  rw [wb_regN]
  simp [-wb_regN, -wb_regD]
  rw [wb_regN]
  simp [-wb_regN, -wb_regD, k0]
  by_cases hn : l = []
  · subst hn
    rw [if_pos rfl] at k1
    simp [acC] at k1 k2
    have r40 : 40 ≤ room := by decide
    simp [acC, k1, -wi_app, -wi_appD, -wi_callE, replaceAt]
    rw [wi_appD]
    simp [srcCells, acC_len, r40, -wi_callE, setH]
    simp [-wb_true, -wb_false, k2]
    cases bL
    · simp
    · simp [-wb_regN, -wb_regD]
      refine main _ _ _ rfl (by simp [restrict, find, acC]; rfl) fun e h hf => ?_
      simp [FinT, hf]
  · rw [if_neg hn] at k1
    simp [k1, -wi_app, -wi_appD, -wi_callE, replaceAt]
    rw [wi_appD]
    simp [srcCells, acC_len, hr, -wi_callE, (by omega : 4 * l.length = l.length * 4), setH]
    simp [-wb_true, -wb_false, k2]
    cases bL
    · simp
    · simp [-wb_regN, -wb_regD]
      refine main _ _ _ rfl rfl fun e h hf => ?_
      simp [FinT, hf]
end Go.Proofs.Ytmehaecclidfjaa
