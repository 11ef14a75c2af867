import Derived.Test.YtmehaecclidfjaaW
set_option linter.unusedSimpArgs false
set_option linter.unusedVariables false
namespace Go.Proofs.Ytmehaecclidfjaa
open Go Go.Hm

set_option maxRecDepth 20000 in
theorem fin4 {S : Cx} {Q : Ex → Kt} {env : Env} {H : Heap} {p10 p12 p13 : Nat} {e n : Nat} {was out : List UInt8} (hlk : S.lk = 0) (hB : S.B = [])
    (hl : was.length ≤ 65536) (ho : was.take out.length = out) (hn : n = e ∨ out = was) (h0 : H[0]? = some (.cells [I e])) (h1 : H[1]? = some (.cells [Bo false])) (h10 : H[p10]? = some (.cells [Sg was])) (h12 : H[p12]? = some (.cells [Sg out])) (h13 : H[p13]? = some (.cells [I n]))
    (hE : restrict [5, 6, 10, 12, 13] env = [(5, .hp 0 1 0), (6, .hp 1 1 0), (10, .hp p10 1 0), (12, .hp p12 1 0), (13, .hp p13 1 0)])
    (hQ : ∀ env' H', find env' 6 = .hp 1 1 0 → H'[1]? = some (.cells [Bo true]) → Q .ret env' H') : WB S (srN 12 u4B) Q env H := by
  obtain ⟨C, lk, lim, B⟩ := S
  dsimp only at hlk hB
  subst hlk hB
  unfold u4B
  simp only [srN, sr]
  have hol : out.length ≤ was.length := by
    have := congrArg List.length ho
    rw [List.length_take] at this
    omega
  have e1 : abins .eql ⟨⟨out⟩⟩ ⟨⟨was.take out.length⟩⟩ = some (Bo true) := by rw [ho, sg_eql]; simp
  have e2 := sg_eql out was
  rw [wb_seq, wb_regD rfl, hE]
  rcases Decidable.em (n = e) with rfl | hne
  · simp [-wi_stD, h0, h1, h10, h12, h13, Sg_size, Sg_ext, e1, hol, bnd]
    rw [wi_stD]
    simp [h1, setH, replaceAt]
    refine hQ _ _ rfl ?_
    have := (List.getElem?_eq_some_iff.1 h1).1
    simp [this]
  · obtain rfl := hn.resolve_left hne
    have hne' : ((n : Int) == (e : Int)) = false := by simpa using (by omega : ¬ (n : Int) = (e : Int))
    simp [-wi_stD, h0, h1, h10, h12, h13, Sg_size, Sg_ext, e1, hol, bnd, hne', e2]
    rw [wi_stD]
    simp [h1, setH, replaceAt]
    refine hQ _ _ rfl ?_
    have := (List.getElem?_eq_some_iff.1 h1).1
    simp [this]
end Go.Proofs.Ytmehaecclidfjaa
