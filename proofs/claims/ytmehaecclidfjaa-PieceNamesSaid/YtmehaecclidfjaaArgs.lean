import Derived.Test.YtmehaecclidfjaaZ
import Derived.Test.YtmehaecclidfjaaQ
set_option linter.unusedSimpArgs false
set_option linter.unusedVariables false
namespace Go.Proofs.Ytmehaecclidfjaa
open Go Go.Hm

theorem args3 {P : Program} {d : Nat} {t1 t2 t3 : TypeId} {l : List AV} (h : ArgsC P d [t1, t2, t3] l) : ∃ a b c, l = [a, b, c] ∧ ArgC P d t1 a ∧ ArgC P d t2 b ∧ ArgC P d t3 c := by
  match l, h with
  | [a, b, c], ⟨h1, h2, h3, _⟩ => exact ⟨a, b, c, rfl, h1, h2, h3⟩
theorem args5 {P : Program} {d : Nat} {t1 t2 t3 t4 t5 : TypeId} {l : List AV} (h : ArgsC P d [t1, t2, t3, t4, t5] l) : ∃ a b c e f, l = [a, b, c, e, f] ∧ ArgC P d t1 a ∧ ArgC P d t2 b ∧ ArgC P d t3 c ∧ ArgC P d t4 e ∧ ArgC P d t5 f := by
  match l, h with
  | [a, b, c, e, f], ⟨h1, h2, h3, h4, h5, _⟩ => exact ⟨a, b, c, e, f, rfl, h1, h2, h3, h4, h5⟩
set_option maxRecDepth 100000 in
theorem one_int {d : Nat} {r : List AV} (h : TyC Try.prog (d + 1) 3 r) : ∃ n : Int, r = [I n] ∧ i64 n := by
  simp only [TyC, Try.underlying3] at h
  obtain ⟨n, rfl, h1, h2⟩ := h
  exact ⟨n, rfl, h1, h2⟩
set_option maxRecDepth 100000 in
theorem one_str {d : Nat} {r : List AV} (h : TyC Try.prog (d + 1) 9 r) : ∃ l : List UInt8, r = [Sg l] := by
  simp only [TyC, Try.underlying9] at h
  obtain ⟨s, rfl, _⟩ := h
  obtain ⟨⟨l⟩⟩ := s
  exact ⟨l, rfl⟩
def Ac.ok (x : Ac) : Prop := i64 x.k ∧ i64 x.a ∧ i64 x.d
set_option maxRecDepth 100000 in
theorem one_act {d : Nat} {r : List AV} (h : TyC Try.prog (d + 2) 24 r) : ∃ x : Ac, r = x.cells ∧ x.ok := by
  unfold TyC at h
  rw [Try.underlying24] at h
  obtain ⟨parts, rfl, h1, h2⟩ := h
  match parts, h1 with
  | [p, q, u, s], _ =>
    obtain ⟨k, rfl, k1⟩ := one_int (d := d) (h2 0 _ p rfl rfl)
    obtain ⟨a, rfl, a1⟩ := one_int (d := d) (h2 1 _ q rfl rfl)
    obtain ⟨e, rfl, e1⟩ := one_int (d := d) (h2 2 _ u rfl rfl)
    obtain ⟨t, rfl⟩ := one_str (d := d) (h2 3 _ s rfl rfl)
    exact ⟨⟨k, a, e, t⟩, rfl, k1, a1, e1⟩
set_option maxRecDepth 100000 in
theorem rows_acts {d : Nat} : ∀ {rows : List (List AV)}, (∀ r ∈ rows, TyC Try.prog (d + 2) 24 r) → ∃ l : List Ac, rows.flatten = acC l ∧ rows.length = l.length ∧ ∀ x ∈ l, x.ok
  | [], _ => ⟨[], rfl, rfl, fun _ h => by cases h⟩
  | r :: rows, h => by
    obtain ⟨l, h1, h2, h3⟩ := rows_acts fun q hq => h q (List.mem_cons_of_mem _ hq)
    obtain ⟨x, rfl, hx⟩ := one_act (h r (List.mem_cons_self ..))
    refine ⟨x :: l, by rw [List.flatten_cons, h1]; rfl, by rw [List.length_cons, h2]; rfl, fun y hy => ?_⟩
    rcases List.mem_cons.1 hy with rfl | hy
    · exact hx
    · exact h3 y hy
set_option maxRecDepth 100000 in
theorem arg_acts {a : AV} (h : ArgC Try.prog 8 22 a) : ∃ l : List Ac, a = .sl l.length (acC l) ∧ ∀ x ∈ l, x.ok := by
  simp only [ArgC, Try.underlying22] at h
  unfold TyC at h
  rw [Try.underlying22] at h
  obtain ⟨rows, he, _, h⟩ := h
  obtain ⟨l, h1, h2, h3⟩ := rows_acts (d := 5) fun q hq => h q hq
  simp only [List.cons.injEq, and_true] at he
  exact ⟨l, by rw [he, h1, h2], h3⟩
set_option maxRecDepth 100000 in
theorem arg_act {a : AV} (h : ArgC Try.prog 8 24 a) : ∃ x : Ac, a = .agg x.cells ∧ x.ok := by
  simp only [ArgC, Try.underlying24] at h
  obtain ⟨bs, rfl, h⟩ := h
  obtain ⟨x, rfl, hx⟩ := one_act (d := 6) h
  exact ⟨x, rfl, hx⟩
set_option maxRecDepth 100000 in
theorem arg_str {a : AV} (h : ArgC Try.prog 8 9 a) : ∃ l : List UInt8, a = Sg l := by
  simp only [ArgC, Try.underlying9, TyC] at h
  obtain ⟨s, h, _⟩ := h
  simp only [List.cons.injEq, and_true] at h
  obtain ⟨⟨l⟩⟩ := s
  exact ⟨l, h⟩
set_option maxRecDepth 100000 in
theorem arg_int {a : AV} (h : ArgC Try.prog 8 3 a) : ∃ n : Int, a = I n ∧ i64 n := by
  simp only [ArgC, Try.underlying3, TyC] at h
  obtain ⟨n, h, h1, h2⟩ := h
  simp only [List.cons.injEq, and_true] at h
  exact ⟨n, h, h1, h2⟩
end Go.Proofs.Ytmehaecclidfjaa
