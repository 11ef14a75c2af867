import Derived.Test.YtmehaecclidfjaaN
set_option linter.unusedSimpArgs false
set_option linter.unusedVariables false
namespace Go.Proofs.Ytmehaecclidfjaa
open Go Go.Hm

theorem sliceV_ok {s : List UInt8} {a b : Nat} (h1 : a ≤ b) (h2 : b ≤ s.length) : sliceV s a b = .tup [Sg ((s.take b).drop a), I 0] := by
  unfold sliceV
  rw [if_pos ⟨by omega, by omega, by omega⟩]
  rfl
theorem slices_join {s : List UInt8} {a b c : Nat} (h1 : a ≤ b) (h2 : b ≤ c) (h3 : c ≤ s.length) : (s.take c).drop a = (s.take b).drop a ++ (s.take c).drop b := by
  have e : s.take c = s.take b ++ (s.take c).drop b := by
    have := List.take_append_drop b (s.take c)
    rw [List.take_take, Nat.min_eq_left h2] at this
    exact this.symm
  have e2 : (s.take b).length = b := by rw [List.length_take]; omega
  calc (s.take c).drop a = (s.take b ++ (s.take c).drop b).drop a := by rw [← e]
    _ = _ := by rw [List.drop_append_of_le_length (by omega)]
set_option maxRecDepth 20000 in
theorem mid5 {S : Cx} {Q : Ex → Kt} {env : Env} {H : Heap} {t a b c : Nat} {s : List UInt8} (hC : S.C = callW X A) (hlk : S.lk = 0) (hlm : S.lim = 0) (hB : S.B = []) (h : TX H t s 3600) (hab : a ≤ b) (hbc : b ≤ c) (hcn : c ≤ s.length)
    (hE : restrict [2, 3, 4, 11, 14] env = [(2, I a), (3, I b), (4, I c), (11, .hp t 4 0), (14, I s.length)])
    (hQ : ∀ env' H', find env' 10 = Bo true → Q .ret env' H') : WB S (srN 11 t5B) Q env H := by
  obtain ⟨C, lk, lim, B⟩ := S
  dsimp only at hC hlk hlm hB
  subst hC hlk hlm hB
  have hs := h.1
  have main : ∀ env', restrict [2, 11, 14] env' = [(2, I a), (11, .hp t 4 0), (14, I s.length)] → WB { C := callW X A, lk := 0, lim := 0, B := [] } (srN 16 t5B) Q env' H :=
    fun env' he => fin5 rfl rfl rfl rfl h (by omega) he hQ
  unfold t5B at main ⊢
  simp only [srN, sr] at main ⊢
  have k0 := fun lk lim => tx_text (lk := lk) (lim := lim) h (by omega)
  have k2 := fun x y lk lim => tx_slice (lk := lk) (lim := lim) (x := x) (y := y) h (by omega)
  have e1 := sliceV_ok hab (by omega : b ≤ s.length)
  have e2 := sliceV_ok hbc hcn
  have e3 := sliceV_ok (by omega : a ≤ c) hcn
  have e4 : sliceV s 0 s.length = .tup [Sg s, I 0] := by
    have := sliceV_ok (s := s) (a := 0) (b := s.length) (by omega) (by omega)
    rw [List.take_length, List.drop_zero] at this
    exact this
  rw [slices_join hab hbc hcn] at e3
  have l1 : ((s.take b).drop a).length = b - a := by rw [List.length_drop, List.length_take]; omega
  have l2 : ((s.take c).drop b).length = c - b := by rw [List.length_drop, List.length_take]; omega
  have w1 : IntKind.i64.wrap ((b : Int) - a) = ((b - a : Nat) : Int) := by rw [wrap64 (by omega) (by omega)]; omega
  generalize (s.take b).drop a = x at *
  generalize (s.take c).drop b = y at *
  have ad : x.length + y.length ≤ 1000000000000000 := by omega
  generalize callW X A = C at k0 k2 main ⊢
  simp [-wb_regN, -wb_regD]
  rw [wb_regN, hE]
  simp [-wb_regN, -wb_regD]
  rw [k2 _ _ _ _ (by omega), e1]
  simp [-wb_regN, -wb_regD]
  rw [wb_regN]
  simp [-wb_regN, -wb_regD]
  rw [k2 _ _ _ _ (by omega), e2]
  simp [-wb_regN, -wb_regD]
  rw [wb_regN]
  simp [-wb_regN, -wb_regD]
  rw [k2 _ _ _ _ (by omega), e3]
  simp [-wb_regN, -wb_regD]
  rw [wb_regN]
  simp [-wb_regN, -wb_regD]
  rw [k2 _ _ _ _ (by omega), e4]
  simp [-wb_regN, -wb_regD]
  rw [wb_regN]
  simp [-wb_regN, -wb_regD, -wr_cons, -wr_nil]
  generalize hK : Fol _ _ _ = K
  iterate 35 (rw [wr_cons]; simp [-wr_cons, -wr_nil, -wb_regN, sg_neq, sg_add ad, k0, Sg_size, l1, w1])
  rw [wr_nil, ← hK]
  clear hK K
  simp [-wb_regN, -wb_seq]
  exact main _ rfl
end Go.Proofs.Ytmehaecclidfjaa
