import Derived.Test.YtgbpioccaenjaaaGE
import Derived.Test.YtgbpioccaenjaaaRows
set_option linter.unusedSimpArgs false
set_option linter.unusedVariables false
namespace Go.Proofs.Ytgbpioccaenjaaa
open Go Go.Hm

set_option maxRecDepth 100000 in
theorem arg_int {a : AV} (h : ArgC Try.prog 8 3 a) : ∃ n : Int, a = I n ∧ -9223372036854775808 ≤ n ∧ n ≤ 9223372036854775807 := by
  simp only [ArgC, Try.underlying3, TyC] at h
  obtain ⟨n, h, h1, h2⟩ := h
  simp only [List.cons.injEq, and_true] at h
  exact ⟨n, h, h1, h2⟩
theorem args2 {P : Program} {d : Nat} {t1 t2 : TypeId} {l : List AV} (h : ArgsC P d [t1, t2] l) : ∃ a b, l = [a, b] ∧ ArgC P d t1 a ∧ ArgC P d t2 b := by
  match l, h with
  | [a, b], ⟨h1, h2, _⟩ => exact ⟨a, b, rfl, h1, h2⟩
set_option maxRecDepth 100000 in
theorem rows_ints {d : Nat} : ∀ {rows : List (List AV)}, (∀ r ∈ rows, TyC Try.prog (d + 1) 3 r) → ∃ l : List Int, rows.flatten = ints l ∧ rows.length = l.length
  | [], _ => ⟨[], rfl, rfl⟩
  | r :: rows, h => by
    obtain ⟨l, h1, h2⟩ := rows_ints fun q hq => h q (List.mem_cons_of_mem _ hq)
    have hr := h r (List.mem_cons_self ..)
    simp only [TyC, Try.underlying3] at hr
    obtain ⟨n, rfl, _⟩ := hr
    exact ⟨n :: l, by rw [List.flatten_cons, h1]; rfl, by rw [List.length_cons, h2]; rfl⟩
set_option maxRecDepth 100000 in
theorem slice_ints {d : Nat} {r : List AV} (h : TyC Try.prog (d + 2) 37 r) : ∃ l : List Int, r = [.sl l.length (ints l)] := by
  simp only [TyC, Try.underlying37] at h
  obtain ⟨rows, rfl, _, h⟩ := h
  obtain ⟨l, h1, h2⟩ := rows_ints (d := d) fun q hq => h q hq
  exact ⟨l, by rw [h1, h2]⟩
set_option maxRecDepth 100000 in
theorem arg_ints {a : AV} (h : ArgC Try.prog 8 37 a) : ∃ l : List Int, a = .sl l.length (ints l) := by
  simp only [ArgC, Try.underlying37] at h
  obtain ⟨l, he⟩ := slice_ints (d := 6) h
  exact ⟨l, by simpa using he⟩
end Go.Proofs.Ytgbpioccaenjaaa
