import Derived.Test.YtmehaecclidfjaaSc2
set_option linter.unusedSimpArgs false
set_option linter.unusedVariables false
namespace Go.Proofs.Ytmehaecclidfjaa
open Go Go.Hm

set_option maxRecDepth 20000 in
theorem loop7 {S : Cx} {Q : Ex → Kt} {env : Env} {H : Heap} {b bo : Nat} {s : List UInt8} {l : List Ac} {x y z : Int} (hC : S.C = C2) (hlk : S.lk = 0) (hlm : S.lim = 0) (hB : S.B = []) (h : Sc b bo s 0 H) (hl : l.length ≤ 60) (hx : ∀ x ∈ l, x.s.length ≤ 60 ∧ i64 x.k ∧ i64 x.a ∧ i64 x.d)
    (hE : restrict [1, 2, 3, 4, 11, 13, 15] env = [(1, .sl l.length (acC l)), (2, I x), (3, I y), (4, I z), (11, .hp b 4 0), (13, .hp bo 1 0), (15, I 0)])
    (hQ : ∀ env' H', Q (.exit 0) env' H') : WB S (.loop [1, 2, 3, 4, 11, 13, 15] u7L1) Q env H := by
  refine wb_loop (σ := Nat × Nat × List UInt8 × Heap) (fun t => [(1, .sl l.length (acC l)), (2, I x), (3, I y), (4, I z), (11, .hp t.2.1 4 0), (13, .hp bo 1 0), (15, I t.1)]) (fun t => t.2.2.2)
    (fun t => t.1 ≤ l.length ∧ Sc t.2.1 bo t.2.2.1 (60 * t.1) t.2.2.2) (fun t => l.length - t.1) ?_ (0, b, s, H) ⟨by omega, h⟩ hE rfl
  rintro ⟨i, b, s, H⟩ ⟨hi, hs⟩
  dsimp only at *
  obtain ⟨C, lk, lim, B⟩ := S
  dsimp only at hC hlk hlm hB
  subst hC hlk hlm hB
  by_cases hil : i < l.length
  · have act : ∀ env' Q, restrict [1, 2, 3, 4, 11, 13, 15] env' = [(1, .sl l.length (acC l)), (2, I x), (3, I y), (4, I z), (11, .hp b 4 0), (13, .hp bo 1 0), (15, I i)] →
        (∀ env' s' b' H', Sc b' bo s' (60 * (i + 1)) H' → restrict [1, 2, 3, 4, 11, 13, 15] env' = [(1, .sl l.length (acC l)), (2, I x), (3, I y), (4, I z), (11, .hp b' 4 0), (13, .hp bo 1 0), (15, I i)] → Q .nrm env' H') → WB ⟨C2, 0, 0, []⟩ (actB u7L1) Q env' H :=
      fun env' Q he hQ => act7 rfl rfl rfl rfl hs hl hx hil he hQ
    have ask : ∀ env' s' b' H' Q, Sc b' bo s' (60 * (i + 1)) H' → restrict [1, 2, 3, 4, 11, 13, 15] env' = [(1, .sl l.length (acC l)), (2, I x), (3, I y), (4, I z), (11, .hp b' 4 0), (13, .hp bo 1 0), (15, I i)] →
        (∀ env', restrict [1, 2, 3, 4, 11, 13, 15] env' = [(1, .sl l.length (acC l)), (2, I x), (3, I y), (4, I z), (11, .hp b' 4 0), (13, .hp bo 1 0), (15, I i)] → Q .nrm env' H') → WB ⟨C2, 0, 0, []⟩ (sr (match sr u7L1 with | .seq (.block _ c) _ => c | c => c)) Q env' H' :=
      fun env' s' b' H' Q h he hQ => ask7 rfl rfl rfl rfl h (by omega) he hQ
    have w1 : IntKind.i64.wrap ((i : Int) + 1) = (i : Int) + 1 := wrap64 (by omega) (by omega)
    unfold u7L1 at act ask ⊢
    simp only [actB, sr] at act ask
    generalize C2 = C at act ask ⊢
    rw [wb_seq, wb_seq, wb_regN]
    simp [-wb_regN, -wb_regD, -wb_seq, -wb_true, -wb_false, restrict, find, hil]
    rw [wb_true rfl, wb_skip, fol_nrm, wb_seq, wb_block, wb_seq]
    refine act _ _ rfl fun env1 s1 b1 H1 hs1 he1 => ?_
    rw [fol_nrm]
    refine ask _ _ _ _ _ hs1 he1 fun env2 he2 => ?_
    rw [blk_nrm, fol_nrm, wb_regN, he2]
    simp [w1, rnd_nrm]
    exact ⟨i + 1, b1, s1, H1, ⟨by omega, hs1⟩, by omega, by simp [restrict, find], rfl⟩
  · obtain rfl : i = l.length := by omega
    unfold u7L1
    generalize C2 = C
    rw [wb_seq, wb_seq, wb_regN]
    simp [-wb_regN, -wb_regD, -wb_seq, -wb_true, -wb_false, restrict, find]
    rw [wb_false rfl, wb_exit, fol_exit]
    exact hQ _ _

set_option maxRecDepth 20000 in
theorem fin7 {C : Orc} {env : Env} {H : Heap} : WB ⟨C, 0, 0, []⟩ (srN 7 u7B) (FinT [ARes.tmp 10] true [] (Bo true, [])) env H := by
  unfold u7B
  simp only [srN, sr]
  simp [FinT]
set_option maxRecDepth 20000 in
theorem pscript_code {s : List UInt8} {l : List Ac} {x y z : Int} (hl : l.length ≤ 100000000000000) (hx : ∀ x ∈ l, i64 x.k ∧ i64 x.a ∧ i64 x.d) : callW X2 A2 0 0 7 [Sg s, .sl l.length (acC l), I x, I y, I z] [] = some (Bo true, []) := by
  refine wb_callB [] rfl B7 rfl rfl ?_
  have k8 : C2 0 0 8 [] [] = _ := up rfl lives_ok
  have k9 : ∀ H, C2 0 0 9 [Sg s, .sl l.length (acC l)] H = some (Bo (lightB s l), H) := fun H => up rfl (light_code s l (by omega))
  by_cases hL : lightB s l = true
  · have hL' := hL
    unfold lightB at hL'
    simp only [Bool.and_eq_true, List.all_eq_true, decide_eq_true_eq] at hL'
    obtain ⟨q1, q2, q3⟩ := hL'
    obtain ⟨H2, k11, tg, hlt2, kp2⟩ := tg_new (H := []) (s := s) [] (by simp) (by omega)
    have k11 : C2 0 0 11 [Sg s] [] = _ := up rfl k11
    have k22 : ∀ H, C2 0 0 22 [Sg s] H = _ := fun H => up rfl (rnew_code (H := H) (lk := 0) (lim := 0) (s := s) (by omega))
    have hsc : Sc 0 H2.length s 0 (H2 ++ [.cells [Sg s]]) := ⟨tg.app _ _ (fun k hk => by simp at hk ⊢; omega), by simp⟩
    have main : ∀ env', restrict [1, 2, 3, 4, 11, 13, 15] env' = [(1, .sl l.length (acC l)), (2, I x), (3, I y), (4, I z), (11, .hp 0 4 0), (13, .hp H2.length 1 0), (15, I 0)] →
        WB ⟨C2, 0, 0, []⟩ (.loop [1, 2, 3, 4, 11, 13, 15] u7L1) (BlkE 0 (Fol ⟨C2, 0, 0, []⟩ (srN 7 u7B) (FinT [ARes.tmp 10] true [] (Bo true, [])))) env' (H2 ++ [.cells [Sg s]]) := by
      intro env' he
      refine loop7 rfl rfl rfl rfl hsc q3 (fun a ha => ⟨q1 a ha, hx a ha⟩) he fun env2 H3 => ?_
      rw [blk_exit, if_pos rfl, fol_nrm]
      exact fin7
    unfold u7B at main ⊢
    simp only [srN, sr] at main ⊢
    show WB ⟨C2, 0, 0, []⟩ _ _ _ _
    generalize C2 = C at k8 k9 k11 k22 main ⊢
    simp [-wb_regN, -wb_regD, -wb_true, -wb_false]
    rw [wb_regN]
    simp [-wb_regN, -wb_regD, -wb_true, -wb_false]
    rw [wb_regN]
    simp [-wb_regN, -wb_regD, -wb_true, -wb_false, k8]
    rw [wb_false rfl]
    simp [-wb_regN, -wb_regD, -wb_true, -wb_false]
    rw [wb_regN]
    simp [-wb_regN, -wb_regD, -wb_true, -wb_false, k9, hL]
    rw [wb_false rfl, wb_skip, fol_nrm, wb_seq, wb_regN]
    simp [-wb_regN, -wb_regD, -wb_true, -wb_false, k11]
    rw [wb_regN]
    simp [-wb_regN, -wb_regD, -wb_true, -wb_false, k22]
    rw [wb_regN]
    simp [-wb_regN, -wb_regD, -wb_true, -wb_false, eqPtr, isPtr]
    rw [wb_false rfl, wb_skip, fol_nrm, wb_seq, wb_seq, wb_regN]
    simp [-wb_regN, -wb_regD, -wb_true, -wb_false]
    exact main _ rfl
  · have hLf : lightB s l = false := by simpa using hL
    unfold u7B
    show WB ⟨C2, 0, 0, []⟩ _ _ _ _
    generalize C2 = C at k8 k9 ⊢
    simp [-wb_regN, -wb_regD, -wb_true, -wb_false]
    rw [wb_regN]
    simp [-wb_regN, -wb_regD, -wb_true, -wb_false]
    rw [wb_regN]
    simp [-wb_regN, -wb_regD, -wb_true, -wb_false, k8]
    rw [wb_false rfl]
    simp [-wb_regN, -wb_regD, -wb_true, -wb_false]
    rw [wb_regN]
    simp [-wb_regN, -wb_regD, -wb_true, -wb_false, k9, hLf]
    rw [wb_true rfl]
    simp [FinT]
end Go.Proofs.Ytmehaecclidfjaa
