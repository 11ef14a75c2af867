import Derived.Test.YtoiolinclpiohaaW
import Derived.Test.YtoiolinclpiohaaArgs
set_option linter.unusedSimpArgs false
set_option linter.unusedVariables false
namespace Go.Proofs.Ytoiolinclpiohaa
open Go Go.Hm

set_option maxRecDepth 100000 in
theorem one_int {d : Nat} {r : List AV} (h : TyC Try.prog (d + 1) 3 r) : ∃ n : Int, r = [I n] ∧ -9223372036854775808 ≤ n ∧ n ≤ 9223372036854775807 := by
  simp only [TyC, Try.underlying3] at h
  obtain ⟨n, rfl, h1, h2⟩ := h
  exact ⟨n, rfl, h1, h2⟩
set_option maxRecDepth 100000 in
theorem one_str {d : Nat} {r : List AV} (h : TyC Try.prog (d + 1) 9 r) : ∃ l : List UInt8, r = [Sg l] := by
  simp only [TyC, Try.underlying9] at h
  obtain ⟨s, rfl, _⟩ := h
  obtain ⟨⟨l⟩⟩ := s
  exact ⟨l, rfl⟩
set_option maxRecDepth 100000 in
theorem one_act {d : Nat} {r : List AV} (h : TyC Try.prog (d + 2) 55 r) : ∃ x : Ac, r = x.cells ∧ x.ok := by
  unfold TyC at h
  rw [Try.underlying55] at h
  obtain ⟨parts, rfl, h1, h2⟩ := h
  match parts, h1 with
  | [p, q, s], _ =>
    obtain ⟨k, rfl, k1⟩ := one_int (d := d) (h2 0 _ p rfl rfl)
    obtain ⟨a, rfl, a1⟩ := one_int (d := d) (h2 1 _ q rfl rfl)
    obtain ⟨t, rfl⟩ := one_str (d := d) (h2 2 _ s rfl rfl)
    exact ⟨⟨k, a, t⟩, rfl, k1, a1⟩
set_option maxRecDepth 100000 in
theorem rows_acts {d : Nat} : ∀ {rows : List (List AV)}, (∀ r ∈ rows, TyC Try.prog (d + 2) 55 r) → ∃ l : List Ac, rows.flatten = acC l ∧ rows.length = l.length ∧ ∀ x ∈ l, x.ok
  | [], _ => ⟨[], rfl, rfl, fun _ h => by cases h⟩
  | r :: rows, h => by
    obtain ⟨l, h1, h2, h3⟩ := rows_acts fun q hq => h q (List.mem_cons_of_mem _ hq)
    obtain ⟨x, rfl, hx⟩ := one_act (h r (List.mem_cons_self ..))
    refine ⟨x :: l, by rw [List.flatten_cons, h1]; rfl, by rw [List.length_cons, h2]; rfl, fun y hy => ?_⟩
    rcases List.mem_cons.1 hy with rfl | hy
    · exact hx
    · exact h3 y hy
set_option maxRecDepth 100000 in
theorem arg_acts {a : AV} (h : ArgC Try.prog 8 50 a) : ∃ l : List Ac, a = .sl l.length (acC l) ∧ ∀ x ∈ l, x.ok := by
  simp only [ArgC, Try.underlying50] at h
  unfold TyC at h
  rw [Try.underlying50] at h
  obtain ⟨rows, he, _, h⟩ := h
  obtain ⟨l, h1, h2, h3⟩ := rows_acts (d := 5) fun q hq => h q hq
  simp only [List.cons.injEq, and_true] at he
  exact ⟨l, by rw [he, h1, h2], h3⟩
end Go.Proofs.Ytoiolinclpiohaa
