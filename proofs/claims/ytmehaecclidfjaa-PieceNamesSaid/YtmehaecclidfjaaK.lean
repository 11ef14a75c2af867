import Derived.Test.YtmehaecclidfjaaJ
set_option linter.unusedSimpArgs false
set_option linter.unusedVariables false
namespace Go.Proofs.Ytmehaecclidfjaa
open Go Go.Hm

set_option maxRecDepth 20000 in
theorem edits3 {S : Cx} {Q : Ex → Kt} {env : Env} {H : Heap} {b : Nat} {s : List UInt8} {l : List Ac} {bx : AV} (hC : S.C = callW X A) (hlk : S.lk = 0) (hlm : S.lim = 0) (hB : S.B = [5]) (hbx : ∃ c, bx = .box c) (hl : l.length ≤ 60) (hx : ∀ x ∈ l, x.s.length ≤ 60) (h : TX H b s 0)
    (hE : restrict [1, 5, 7, 9] env = [(1, .sl l.length (acC l)), (5, bx), (7, .hp b 4 0), (9, I 0)])
    (hQ : ∀ env' s' H', TX H' b s' 3600 → restrict [5, 7] env' = [(5, bx), (7, .hp b 4 0)] → Q (.exit 0) env' H') : WB S (.loop [1, 5, 7, 9] t3L1) Q env H := by
  refine wb_loop (σ := Nat × Heap × List UInt8) (fun t => [(1, .sl l.length (acC l)), (5, bx), (7, .hp b 4 0), (9, I t.1)]) (fun t => t.2.1) (fun t => t.1 ≤ l.length ∧ TX t.2.1 b t.2.2 (60 * t.1)) (fun t => l.length - t.1) ?_ (0, H, s) ⟨by omega, h⟩ hE rfl
  rintro ⟨i, H, s⟩ ⟨hi, ht⟩
  dsimp only at *
  obtain ⟨cb, rfl⟩ := hbx
  obtain ⟨C, lk, lim, B⟩ := S
  dsimp only at hC hlk hlm hB
  subst hC hlk hlm hB
  unfold t3L1
  by_cases hil : i < l.length
  · have g1 := acC_1 hil
    have g2 := acC_2 hil
    have g3 := acC_3 hil
    have i4 : i * 4 + 4 ≤ 4 * l.length := by omega
    have w1 : IntKind.i64.wrap ((i : Int) + 1) = (i : Int) + 1 := wrap64 (by omega) (by omega)
    have hxs := hx l[i] (List.getElem_mem hil)
    generalize l[i] = x at g1 g2 g3 hxs
    obtain ⟨H', k, t'⟩ := tx_edit (a := x.a) (d := x.d) (x := x.s) ht (by omega)
    generalize callW X A = C at k ⊢
    simp [hil, acC_len, i4, g1, g2, g3, k, w1, rnd_nrm]
    exact ⟨i + 1, H', ⟨by omega, _, tx_mono t' (by omega)⟩, by omega, by simp, rfl⟩
  · obtain rfl : i = l.length := by omega
    simp
    refine hQ _ s H (tx_mono ht (by omega)) ?_
    simp [restrict, find]
end Go.Proofs.Ytmehaecclidfjaa
