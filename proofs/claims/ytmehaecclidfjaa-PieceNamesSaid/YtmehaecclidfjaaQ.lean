import Derived.Test.YtmehaecclidfjaaP
set_option linter.unusedSimpArgs false
set_option linter.unusedVariables false
namespace Go.Proofs.Ytmehaecclidfjaa
open Go Go.Hm

set_option maxRecDepth 20000 in
theorem slices_code {s : List UInt8} {l : List Ac} {a b c : Int} (hl : l.length ≤ 100000000000000) (ha : i64 a) (hb : i64 b) (hc : i64 c) : callW X A 0 0 5 [Sg s, .sl l.length (acC l), I a, I b, I c] [] = some (Bo true, []) := by
  refine wb_callB [] rfl A5 rfl rfl ?_
  have k0 := lives_ok
  have k1 := fun lk lim => light_code (lk := lk) (lim := lim) (H := []) s l (by omega)
  by_cases hL : lightB s l = true
  case neg =>
    rw [Bool.not_eq_true] at hL
    rw [hL] at k1
    unfold t5B
    generalize callW X A = C at k0 k1 ⊢
    rw [wb_seq, wb_regN]
    simp [-wb_regN, -wb_seq]
    rw [wb_seq, wb_seq, wb_regN]
    simp [-wb_regN, -wb_seq, k0]
    rw [wb_seq, wb_seq, wb_regN]
    simp [k1]
  rw [hL] at k1
  unfold lightB at hL
  simp only [Bool.and_eq_true, List.all_eq_true, decide_eq_true_eq] at hL
  obtain ⟨h1, h2, h3⟩ := hL
  obtain ⟨H1, k2, ht⟩ := tx_new (H := []) (s := s) (by omega)
  have main : ∀ Q env, (∀ env' H', find env' 10 = Bo true → Q .ret env' H') → restrict [1, 2, 3, 4, 11, 13] env = [(1, .sl l.length (acC l)), (2, I a), (3, I b), (4, I c), (11, .hp 0 4 0), (13, I 0)] → WB { C := callW X A, lk := 0, lim := 0, B := [] } (.loop [1, 2, 3, 4, 11, 13] t5L1) (BlkE 0 (Fol { C := callW X A, lk := 0, lim := 0, B := [] } (srN 6 t5B) Q)) env H1 := by
    intro Q env hQ he
    refine edits5 rfl rfl rfl rfl h3 h1 ht he fun env2 s' H' t' he2 => ?_
    show WB _ _ _ _ _
    exact picks5 rfl rfl rfl rfl t' ha hb hc he2 hQ
  unfold t5B at main ⊢
  simp only [srN, sr] at main ⊢
  generalize callW X A = C at k0 k1 k2 main ⊢
  rw [wb_seq, wb_regN]
  simp [-wb_regN, -wb_seq]
  rw [wb_seq, wb_seq, wb_regN]
  simp [-wb_regN, -wb_seq, k0]
  rw [wb_seq, wb_seq, wb_regN]
  simp [-wb_regN, -wb_seq, k1]
  rw [wb_seq, wb_regN]
  simp [-wb_regN, -wb_seq, k2]
  rw [wb_seq, wb_seq, wb_regN]
  simp [-wb_regN, -wb_seq, eqPtr, isPtr]
  rw [wb_seq, wb_seq, wb_regN]
  simp [-wb_regN, -wb_seq]
  refine main _ _ (fun e h hf => ?_) rfl
  simp [FinT, hf]
end Go.Proofs.Ytmehaecclidfjaa
