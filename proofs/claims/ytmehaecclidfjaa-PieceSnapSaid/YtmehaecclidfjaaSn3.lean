import Derived.Test.YtmehaecclidfjaaSn2
set_option linter.unusedSimpArgs false
set_option linter.unusedVariables false
namespace Go.Proofs.Ytmehaecclidfjaa
open Go Go.Hm

set_option maxRecDepth 20000 in
theorem rng4 {S : Cx} {Q : Ex → Kt} {env : Env} {H : Heap} {b p7 p10 p12 p13 p15 e : Nat} {was : List UInt8} {l : List (List UInt8)} (hC : S.C = C2) (hlk : S.lk = 0) (hlm : S.lim = 0) (hB : S.B = [])
    (hp : 1 < p7 ∧ p7 < p10 ∧ p10 < p12 ∧ p12 < p13) (hw : l.flatten = was) (hwl : was.length ≤ 65536) (hl : l.length ≤ 65536) (hr : Rg4 b p7 p10 p12 p13 e was l 0 H)
    (hit : pieceIt 29 [.hp p15 1 0] H = some (itV l))
    (hE : restrict [5, 6, 7, 10, 11, 12, 13] env = [(5, .hp 0 1 0), (6, .hp 1 1 0), (7, .hp p7 1 0), (10, .hp p10 1 0), (11, .fn 29 [.hp p15 1 0]), (12, .hp p12 1 0), (13, .hp p13 1 0)])
    (hQ : ∀ env' H', find env' 6 = .hp 1 1 0 → H'[1]? = some (.cells [Bo true]) → Q .ret env' H') : WB S (srN 11 u4B) Q env H := by
  have fin : ∀ i env' H', (i = e ∨ i = l.length) → Rg4 b p7 p10 p12 p13 e was l i H' → restrict [5, 6, 10, 12, 13] env' = [(5, .hp 0 1 0), (6, .hp 1 1 0), (10, .hp p10 1 0), (12, .hp p12 1 0), (13, .hp p13 1 0)] → WB S (srN 12 u4B) Q env' H' := by
    intro i env' H' hi hg he
    refine fin4 hlk hB hwl (out := (l.take i).flatten) (n := i) ?_ ?_ hg.c0 hg.c1 hg.c10 hg.c12 hg.c13 he hQ
    · rw [← hw]; exact take_pre l i
    · rcases hi with h | h
      · exact .inl h
      · exact .inr (by rw [h, List.take_length, hw])
  have rnd : ∀ (i : Nat) (y : List UInt8) (H' : Heap) (Q : Ex → Kt), l[i]? = some y → Rg4 b p7 p10 p12 p13 e was l i H' → (∀ env', i = e → Q (.exit 2) env' H') → (∀ env' H2, Rg4 b p7 p10 p12 p13 e was l (i + 1) H2 → Q .nrm env' H2) →
      WB S (rgBody (srN 11 u4B)) Q [(5, .hp 0 1 0), (6, .hp 1 1 0), (7, .hp p7 1 0), (10, .hp p10 1 0), (12, .hp p12 1 0), (13, .hp p13 1 0), (14, Sg y)] H' := fun i y H' Q hy hg h1 h2 => round4 hC hlk hlm hB hp hw hwl hl hy hg h1 h2
  unfold u4B at fin rnd ⊢
  simp only [srN, sr, rgBody] at fin rnd ⊢
  rw [wb_seq, wb_seq, wb_regN, hE]
  simp [-wb_regN, -wb_seq, -wb_block]
  rw [wb_block]
  refine wb_rangeE (itV l) (fun i h => Rg4 b p7 p10 p12 p13 e was l i h) [(5, .hp 0 1 0), (6, .hp 1 1 0), (7, .hp p7 1 0), (10, .hp p10 1 0), (12, .hp p12 1 0), (13, .hp p13 1 0), (63, .fn 29 [.hp p15 1 0])] rfl rfl rfl hit (by simp [itV]) hr ?_ ?_
  · rintro i x h hx hg
    obtain ⟨y, hy, rfl⟩ : ∃ y, l[i]? = some y ∧ x = [.string ⟨⟨y⟩⟩] := by
      unfold itV at hx
      rw [List.getElem?_map] at hx
      cases hy : l[i]? with
      | none => rw [hy] at hx; cases hx
      | some y => rw [hy] at hx; simp at hx; exact ⟨y, rfl, hx.symm⟩
    refine ⟨_, rfl, ?_⟩
    rw [wb_regN]
    simp [-wb_regN, -wb_block]
    refine nrm_nrm rfl ?_
    refine rnd i y h _ hy hg (fun env' hie => ?_) (fun env' H2 hg2 => ?_)
    · rw [rge_exit, blk_exit, if_pos rfl, fol_nrm]
      exact fin i _ _ (.inl hie) hg rfl
    · rw [rge_nrm]; exact hg2
  · rintro h hg
    rw [blk_nrm, fol_nrm]
    rw [show (itV l).length = l.length by simp [itV]] at hg
    exact fin _ _ _ (.inr rfl) hg rfl
end Go.Proofs.Ytmehaecclidfjaa
