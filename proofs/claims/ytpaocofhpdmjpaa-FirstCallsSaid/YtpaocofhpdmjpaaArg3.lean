import Derived.Test.YtpaocofhpdmjpaaArg2
import Derived.Test.YtpaocofhpdmjpaaGJ
set_option linter.unusedSimpArgs false
set_option linter.unusedVariables false
namespace Go.Proofs.Ytpaocofhpdmjpaa
open Go Go.Hm

theorem args7 {P : Program} {d : Nat} {t1 t2 t3 t4 t5 t6 t7 : TypeId} {l : List AV} (h : ArgsC P d [t1, t2, t3, t4, t5, t6, t7] l) : ∃ a b c e f g i, l = [a, b, c, e, f, g, i] ∧ ArgC P d t1 a ∧ ArgC P d t2 b ∧ ArgC P d t3 c ∧ ArgC P d t4 e ∧ ArgC P d t5 f ∧ ArgC P d t6 g ∧ ArgC P d t7 i := by
  match l, h with
  | [a, b, c, e, f, g, i], ⟨h1, h2, h3, h4, h5, h6, h7, _⟩ => exact ⟨a, b, c, e, f, g, i, rfl, h1, h2, h3, h4, h5, h6, h7⟩
set_option maxRecDepth 100000 in
theorem one_rows {d : Nat} {r : List AV} (h : TyC Try.prog (d + 2) 22 r) : ∃ l, r = [rowsV l] ∧ LR l := by
  unfold TyC at h
  rw [Try.underlying22] at h
  obtain ⟨rows, he, hn, h⟩ := h
  obtain ⟨l, h1, h2, h3⟩ := rows_strs (d := d) fun q hq => h q hq
  exact ⟨l, by rw [he, h1, h2], ⟨by rw [← h2]; exact hn, h3⟩⟩
set_option maxRecDepth 100000 in
theorem rows_rows {d : Nat} : ∀ {rows : List (List AV)}, (∀ r ∈ rows, TyC Try.prog (d + 2) 22 r) → ∃ S : Ss, rows.flatten = setsC S ∧ rows.length = S.length ∧ ∀ l ∈ S, LR l
  | [], _ => ⟨[], rfl, rfl, fun _ h => by cases h⟩
  | r :: rows, h => by
    obtain ⟨S, h1, h2, h3⟩ := rows_rows fun q hq => h q (List.mem_cons_of_mem _ hq)
    obtain ⟨x, rfl, hx⟩ := one_rows (h r (List.mem_cons_self ..))
    refine ⟨x :: S, by rw [List.flatten_cons, h1]; rfl, by rw [List.length_cons, h2]; rfl, fun y hy => ?_⟩
    rcases List.mem_cons.1 hy with rfl | hy
    · exact hx
    · exact h3 y hy
set_option maxRecDepth 100000 in
theorem arg_sets {a : AV} (h : ArgC Try.prog 8 39 a) : ∃ S : Ss, a = .sl S.length (setsC S) ∧ ∀ l ∈ S, LR l := by
  simp only [ArgC, Try.underlying39] at h
  unfold TyC at h
  rw [Try.underlying39] at h
  obtain ⟨rows, he, hn, h⟩ := h
  obtain ⟨S, h1, h2, h3⟩ := rows_rows (d := 5) fun q hq => h q hq
  simp only [List.cons.injEq, and_true] at he
  exact ⟨S, by rw [he, h1, h2], h3⟩
end Go.Proofs.Ytpaocofhpdmjpaa
