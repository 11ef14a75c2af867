import Derived.Test.YtpaocofhpdmjpaaGF
set_option linter.unusedSimpArgs false
set_option linter.unusedVariables false
namespace Go.Proofs.Ytpaocofhpdmjpaa
open Go Go.Hm

theorem args4 {P : Program} {d : Nat} {t1 t2 t3 t4 : TypeId} {l : List AV} (h : ArgsC P d [t1, t2, t3, t4] l) : ∃ a b c e, l = [a, b, c, e] ∧ ArgC P d t1 a ∧ ArgC P d t2 b ∧ ArgC P d t3 c ∧ ArgC P d t4 e := by
  match l, h with
  | [a, b, c, e], ⟨h1, h2, h3, h4, _⟩ => exact ⟨a, b, c, e, rfl, h1, h2, h3, h4⟩
set_option maxRecDepth 100000 in
theorem one_str {d : Nat} {r : List AV} (h : TyC Try.prog (d + 1) 9 r) : ∃ l : List UInt8, r = [Sg l] ∧ l.length ≤ 9223372036854775807 := by
  simp only [TyC, Try.underlying9] at h
  obtain ⟨s, rfl, hs⟩ := h
  obtain ⟨⟨l⟩⟩ := s
  exact ⟨l, rfl, hs⟩
set_option maxRecDepth 100000 in
theorem rows_strs {d : Nat} : ∀ {rows : List (List AV)}, (∀ r ∈ rows, TyC Try.prog (d + 1) 9 r) → ∃ l : List (List UInt8), rows.flatten = rowsB l ∧ rows.length = l.length ∧ ∀ x ∈ l, x.length ≤ 9223372036854775807
  | [], _ => ⟨[], rfl, rfl, fun _ h => by cases h⟩
  | r :: rows, h => by
    obtain ⟨l, h1, h2, h3⟩ := rows_strs fun q hq => h q (List.mem_cons_of_mem _ hq)
    obtain ⟨x, rfl, hx⟩ := one_str (h r (List.mem_cons_self ..))
    refine ⟨x :: l, by rw [List.flatten_cons, h1]; rfl, by rw [List.length_cons, h2]; rfl, fun y hy => ?_⟩
    rcases List.mem_cons.1 hy with rfl | hy
    · exact hx
    · exact h3 y hy
set_option maxRecDepth 100000 in
theorem arg_rows {a : AV} (h : ArgC Try.prog 8 22 a) : ∃ l, a = rowsV l ∧ LR l := by
  simp only [ArgC, Try.underlying22] at h
  unfold TyC at h
  rw [Try.underlying22] at h
  obtain ⟨rows, he, hn, h⟩ := h
  obtain ⟨l, h1, h2, h3⟩ := rows_strs (d := 6) fun q hq => h q hq
  simp only [List.cons.injEq, and_true] at he
  exact ⟨l, by rw [he, h1, h2], ⟨by rw [← h2]; exact hn, h3⟩⟩
set_option maxRecDepth 100000 in
theorem arg_int {a : AV} (h : ArgC Try.prog 8 3 a) : ∃ n : Int, a = I n ∧ -9223372036854775808 ≤ n ∧ n ≤ 9223372036854775807 := by
  simp only [ArgC, Try.underlying3, TyC] at h
  obtain ⟨n, h, h1, h2⟩ := h
  simp only [List.cons.injEq, and_true] at h
  exact ⟨n, h, h1, h2⟩
end Go.Proofs.Ytpaocofhpdmjpaa
