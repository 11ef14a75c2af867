import Derived.Test.YtdmaganalpamlaaGE
set_option linter.unusedSimpArgs false
set_option linter.unusedVariables false
namespace Go.Proofs.Ytdmaganalpamlaa
open Go Go.Hm

set_option maxRecDepth 100000 in
theorem arg_int {a : AV} (h : ArgC Try.prog 8 3 a) : ∃ n : Int, a = I n ∧ -9223372036854775808 ≤ n ∧ n ≤ 9223372036854775807 := by
  simp only [ArgC, Try.underlying3, TyC] at h
  obtain ⟨n, h, h1, h2⟩ := h
  simp only [List.cons.injEq, and_true] at h
  exact ⟨n, h, h1, h2⟩
end Go.Proofs.Ytdmaganalpamlaa
