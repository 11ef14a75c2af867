import Derived.Test.YtgbpioccaenjaaaGE
import Derived.Test.YtgbpioccaenjaaaRows
set_option linter.unusedSimpArgs false
set_option linter.unusedVariables false
namespace Go.Proofs.Ytgbpioccaenjaaa
open Go Go.Hm

theorem args1 {P : Program} {d : Nat} {t1 : TypeId} {l : List AV} (h : ArgsC P d [t1] l) : ∃ a, l = [a] ∧ ArgC P d t1 a := by
 match l, h with
 | [a], ⟨h1, _⟩ => exact ⟨a, rfl, h1⟩
set_option maxRecDepth 100000 in
theorem rows_ints {d : Nat} : ∀ {rows : List (List AV)}, (∀ r ∈ rows, TyC Try.prog (d + 1) 3 r) → ∃ l : List Int, rows.flatten = ints l ∧ rows.length = l.length
 | [], _ => ⟨[], rfl, rfl⟩
 | r :: rows, h => by
  obtain ⟨l, h1, h2⟩ := rows_ints fun q hq => h q (List.mem_cons_of_mem _ hq)
  have hr := h r (List.mem_cons_self ..)
  simp only [TyC, Try.underlying3] at hr
  obtain ⟨n, rfl, _⟩ := hr
  exact ⟨n :: l, by rw [List.flatten_cons, h1]; rfl, by rw [List.length_cons, h2]; rfl⟩
set_option maxRecDepth 100000 in
theorem slice_ints {d : Nat} {r : List AV} (h : TyC Try.prog (d + 2) 37 r) : ∃ l : List Int, r = [.sl l.length (ints l)] := by
 simp only [TyC, Try.underlying37] at h
 obtain ⟨rows, rfl, _, h⟩ := h
 obtain ⟨l, h1, h2⟩ := rows_ints (d := d) fun q hq => h q hq
 exact ⟨l, by rw [h1, h2]⟩
set_option maxRecDepth 100000 in
theorem one_int {d : Nat} {r : List AV} (h : TyC Try.prog (d + 1) 3 r) : ∃ n : Int, r = [I n] := by
 simp only [TyC, Try.underlying3] at h
 obtain ⟨n, rfl, _⟩ := h
 exact ⟨n, rfl⟩
set_option maxRecDepth 100000 in
theorem one_prod {d : Nat} {r : List AV} (h : TyC Try.prog (d + 4) 39 r) : ∃ p : Pr, r = p.cells := by
 unfold TyC at h
 rw [Try.underlying39] at h
 obtain ⟨parts, rfl, h1, h2⟩ := h
 match parts, h1 with
 | [p, q], _ =>
  have hp := h2 0 _ p rfl rfl
  have hq := h2 1 _ q rfl rfl
  obtain ⟨l, rfl⟩ := one_int (d := d + 2) hp
  obtain ⟨r, rfl⟩ := slice_ints (d := d + 1) hq
  exact ⟨⟨l, r⟩, rfl⟩
set_option maxRecDepth 100000 in
theorem rows_prods {d : Nat} : ∀ {rows : List (List AV)}, (∀ r ∈ rows, TyC Try.prog (d + 4) 39 r) → ∃ l : List Pr, rows.flatten = psC l ∧ rows.length = l.length
 | [], _ => ⟨[], rfl, rfl⟩
 | r :: rows, h => by
  obtain ⟨l, h1, h2⟩ := rows_prods fun q hq => h q (List.mem_cons_of_mem _ hq)
  obtain ⟨p, rfl⟩ := one_prod (h r (List.mem_cons_self ..))
  exact ⟨p :: l, by rw [List.flatten_cons, h1]; rfl, by rw [List.length_cons, h2]; rfl⟩
set_option maxRecDepth 100000 in
theorem slice_prods {d : Nat} {r : List AV} (h : TyC Try.prog (d + 5) 22 r) : ∃ l : List Pr, r = [.sl l.length (psC l)] := by
 simp only [TyC, Try.underlying22] at h
 obtain ⟨rows, rfl, _, h⟩ := h
 obtain ⟨l, h1, h2⟩ := rows_prods (d := d) fun q hq => by
  have := h q hq
  simpa only [TyC] using this
 exact ⟨l, by rw [h1, h2]⟩
set_option maxRecDepth 100000 in
theorem arg_gram {a : AV} (h : ArgC Try.prog 8 24 a) : ∃ g, a = gV g := by
 simp only [ArgC, Try.underlying24] at h
 obtain ⟨bs, rfl, h⟩ := h
 unfold TyC at h
 rw [Try.underlying24] at h
 obtain ⟨parts, rfl, h1, h2⟩ := h
 match parts, h1 with
 | [p, q, r, s], _ =>
  obtain ⟨t, rfl⟩ := one_int (d := 6) (h2 0 _ p rfl rfl)
  obtain ⟨n, rfl⟩ := one_int (d := 6) (h2 1 _ q rfl rfl)
  obtain ⟨k, rfl⟩ := one_int (d := 6) (h2 2 _ r rfl rfl)
  obtain ⟨ps, rfl⟩ := slice_prods (d := 2) (h2 3 _ s rfl rfl)
  exact ⟨⟨t, n, k, ps⟩, rfl⟩
end Go.Proofs.Ytgbpioccaenjaaa
