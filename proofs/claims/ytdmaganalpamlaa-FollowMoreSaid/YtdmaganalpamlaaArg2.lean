import Derived.Test.YtdmaganalpamlaaArgs
import Derived.Test.YtdmaganalpamlaaGE
set_option linter.unusedSimpArgs false
set_option linter.unusedVariables false
namespace Go.Proofs.Ytdmaganalpamlaa
open Go Go.Hm

set_option maxRecDepth 100000 in
theorem rows_ints {d : Nat} : ∀ {rows : List (List AV)}, (∀ r ∈ rows, TyC Try.prog (d + 1) 3 r) → ∃ l : List Int, rows.flatten = ints l ∧ rows.length = l.length
  | [], _ => ⟨[], rfl, rfl⟩
  | r :: rows, h => by
    obtain ⟨l, h1, h2⟩ := rows_ints fun q hq => h q (List.mem_cons_of_mem _ hq)
    have hr := h r (List.mem_cons_self ..)
    simp only [TyC, Try.underlying3] at hr
    obtain ⟨n, rfl, _⟩ := hr
    exact ⟨n :: l, by rw [List.flatten_cons, h1]; rfl, by rw [List.length_cons, h2]; rfl⟩
set_option maxRecDepth 100000 in
theorem one_int {d : Nat} {r : List AV} (h : TyC Try.prog (d + 1) 3 r) : ∃ n : Int, r = [I n] := by
  simp only [TyC, Try.underlying3] at h
  obtain ⟨n, rfl, _⟩ := h
  exact ⟨n, rfl⟩
end Go.Proofs.Ytdmaganalpamlaa
