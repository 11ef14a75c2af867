import Derived.Test.YtdbbaopgmapmaaaT
set_option linter.unusedSimpArgs false
set_option linter.unusedVariables false
namespace Go.Proofs.Ytdbbaopgmapmaaa
open Go Go.Hm

theorem args1 {P : Program} {d : Nat} {t1 : TypeId} {l : List AV} (h : ArgsC P d [t1] l) : ∃ a, l = [a] ∧ ArgC P d t1 a := by
  match l, h with
  | [a], ⟨h1, _⟩ => exact ⟨a, rfl, h1⟩
theorem args2 {P : Program} {d : Nat} {t1 t2 : TypeId} {l : List AV} (h : ArgsC P d [t1, t2] l) : ∃ a b, l = [a, b] ∧ ArgC P d t1 a ∧ ArgC P d t2 b := by
  match l, h with
  | [a, b], ⟨h1, h2, _⟩ => exact ⟨a, b, rfl, h1, h2⟩
theorem args3 {P : Program} {d : Nat} {t1 t2 t3 : TypeId} {l : List AV} (h : ArgsC P d [t1, t2, t3] l) : ∃ a b c, l = [a, b, c] ∧ ArgC P d t1 a ∧ ArgC P d t2 b ∧ ArgC P d t3 c := by
  match l, h with
  | [a, b, c], ⟨h1, h2, h3, _⟩ => exact ⟨a, b, c, rfl, h1, h2, h3⟩
theorem args4 {P : Program} {d : Nat} {t1 t2 t3 t4 : TypeId} {l : List AV} (h : ArgsC P d [t1, t2, t3, t4] l) : ∃ a b c e, l = [a, b, c, e] ∧ ArgC P d t1 a ∧ ArgC P d t2 b ∧ ArgC P d t3 c ∧ ArgC P d t4 e := by
  match l, h with
  | [a, b, c, e], ⟨h1, h2, h3, h4, _⟩ => exact ⟨a, b, c, e, rfl, h1, h2, h3, h4⟩
abbrev Dw (nx rl : List Int) : List AV := [.sl nx.length (ints nx), .sl rl.length (ints rl)]
set_option maxRecDepth 100000 in
theorem rows_ints {d : Nat} : ∀ {rows : List (List AV)}, (∀ r ∈ rows, TyC Try.prog (d + 1) 3 r) → ∃ l : List Int, rows.flatten = ints l ∧ rows.length = l.length
  | [], _ => ⟨[], rfl, rfl⟩
  | r :: rows, h => by
    obtain ⟨l, h1, h2⟩ := rows_ints fun q hq => h q (List.mem_cons_of_mem _ hq)
    have hr := h r (List.mem_cons_self ..)
    simp only [TyC, Try.underlying3] at hr
    obtain ⟨n, rfl, _⟩ := hr
    exact ⟨n :: l, by rw [List.flatten_cons, h1]; rfl, by rw [List.length_cons, h2]; rfl⟩
set_option maxRecDepth 100000 in
theorem slice_ints {d : Nat} {r : List AV} (h : TyC Try.prog (d + 2) 22 r) : ∃ l : List Int, r = [.sl l.length (ints l)] := by
  simp only [TyC, Try.underlying22] at h
  obtain ⟨rows, rfl, _, h⟩ := h
  obtain ⟨l, h1, h2⟩ := rows_ints (d := d) fun q hq => h q hq
  exact ⟨l, by rw [h1, h2]⟩
set_option maxRecDepth 100000 in
theorem arg_dfa {a : AV} (h : ArgC Try.prog 8 24 a) : ∃ nx rl, a = .agg (Dw nx rl) := by
  simp only [ArgC, Try.underlying24] at h
  obtain ⟨bs, rfl, h⟩ := h
  unfold TyC at h
  rw [Try.underlying24] at h
  obtain ⟨parts, rfl, h1, h2⟩ := h
  match parts, h1 with
  | [p, q], _ =>
    have hp := h2 0 _ p rfl rfl
    have hq := h2 1 _ q rfl rfl
    obtain ⟨nx, rfl⟩ := slice_ints (d := 5) hp
    obtain ⟨rl, rfl⟩ := slice_ints (d := 5) hq
    exact ⟨nx, rl, rfl⟩
set_option maxRecDepth 100000 in
theorem arg_str {a : AV} (h : ArgC Try.prog 8 9 a) : ∃ l : List UInt8, a = Sg l := by
  simp only [ArgC, Try.underlying9, TyC] at h
  obtain ⟨s, h, _⟩ := h
  simp only [List.cons.injEq, and_true] at h
  obtain ⟨⟨l⟩⟩ := s
  exact ⟨l, h⟩
set_option maxRecDepth 100000 in
theorem arg_int {a : AV} (h : ArgC Try.prog 8 3 a) : ∃ n : Int, a = I n ∧ -9223372036854775808 ≤ n ∧ n ≤ 9223372036854775807 := by
  simp only [ArgC, Try.underlying3, TyC] at h
  obtain ⟨n, h, h1, h2⟩ := h
  simp only [List.cons.injEq, and_true] at h
  exact ⟨n, h, h1, h2⟩
end Go.Proofs.Ytdbbaopgmapmaaa
