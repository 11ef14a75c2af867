import Derived.Test.YtdmaganalpamlaaArg2
import Derived.Test.YtdmaganalpamlaaSz
set_option linter.unusedSimpArgs false
set_option linter.unusedVariables false
namespace Go.Proofs.Ytdmaganalpamlaa
open Go Go.Hm

theorem args2S {P : Program} {d : Nat} {t1 t2 : TypeId} {l : List AV} (h : ArgsS P d [t1, t2] l) : ∃ a b, l = [a, b] ∧ ArgS P d t1 a ∧ ArgS P d t2 b := by
  match l, h with
  | [a, b], ⟨h1, h2, _⟩ => exact ⟨a, b, rfl, h1, h2⟩
theorem bytes3 : Try.prog.bytesOf 3 = 8 := by kernel_rfl
theorem bytes34 : Try.prog.bytesOf 34 = 32 := by kernel_rfl
set_option maxRecDepth 100000 in
theorem slice_intsS {d : Nat} {r : List AV} (h : TyS Try.prog (d + 2) 32 r) : ∃ l : List Int, r = [.sl l.length (ints l)] ∧ l.length * 8 ≤ reachBytes := by
  unfold TyS at h
  rw [Try.underlying32] at h
  obtain ⟨rows, rfl, _, hs, h⟩ := h
  obtain ⟨l, h1, h2⟩ := rows_ints (d := d) fun q hq => (h q hq).tyC
  rw [bytes3, h2] at hs
  exact ⟨l, by rw [h1, h2], hs⟩
set_option maxRecDepth 100000 in
theorem one_prodS {d : Nat} {r : List AV} (h : TyS Try.prog (d + 4) 34 r) : ∃ p : Pr, r = p.cells ∧ p.r.length * 8 ≤ reachBytes := by
  unfold TyS at h
  rw [Try.underlying34] at h
  obtain ⟨parts, rfl, h1, h2⟩ := h
  match parts, h1 with
  | [p, q], _ =>
    have hp := h2 0 _ p rfl rfl
    have hq := h2 1 _ q rfl rfl
    obtain ⟨l, rfl⟩ := one_int (d := d + 2) hp.tyC
    obtain ⟨r, rfl, hr⟩ := slice_intsS (d := d + 1) hq
    exact ⟨⟨l, r⟩, rfl, hr⟩
set_option maxRecDepth 100000 in
theorem rows_prodsS {d : Nat} : ∀ {rows : List (List AV)}, (∀ r ∈ rows, TyS Try.prog (d + 4) 34 r) → ∃ l : List Pr, rows.flatten = psC l ∧ rows.length = l.length ∧ ∀ p ∈ l, p.r.length * 8 ≤ reachBytes
  | [], _ => ⟨[], rfl, rfl, fun _ h => by cases h⟩
  | r :: rows, h => by
    obtain ⟨l, h1, h2, h3⟩ := rows_prodsS fun q hq => h q (List.mem_cons_of_mem _ hq)
    obtain ⟨p, rfl, hp⟩ := one_prodS (h r (List.mem_cons_self ..))
    refine ⟨p :: l, by rw [List.flatten_cons, h1]; rfl, by rw [List.length_cons, h2]; rfl, fun q hq => ?_⟩
    rcases List.mem_cons.1 hq with rfl | hq
    · exact hp
    · exact h3 q hq
set_option maxRecDepth 100000 in
theorem slice_prodsS {d : Nat} {r : List AV} (h : TyS Try.prog (d + 5) 22 r) : ∃ l : List Pr, r = [.sl l.length (psC l)] ∧ l.length * 32 ≤ reachBytes ∧ ∀ p ∈ l, p.r.length * 8 ≤ reachBytes := by
  unfold TyS at h
  rw [Try.underlying22] at h
  obtain ⟨rows, rfl, _, hs, h⟩ := h
  obtain ⟨l, h1, h2, h3⟩ := rows_prodsS (d := d) fun q hq => h q hq
  rw [bytes34, h2] at hs
  exact ⟨l, by rw [h1, h2], hs, h3⟩
set_option maxRecDepth 100000 in
theorem arg_gramS {a : AV} (h : ArgS Try.prog 8 24 a) : ∃ g : Gm, a = gV g ∧ g.ps.length * 32 ≤ reachBytes ∧ ∀ p ∈ g.ps, p.r.length * 8 ≤ reachBytes := by
  simp only [ArgS, Try.underlying24] at h
  obtain ⟨bs, rfl, h⟩ := h
  unfold TyS at h
  rw [Try.underlying24] at h
  obtain ⟨parts, rfl, h1, h2⟩ := h
  match parts, h1 with
  | [p, q, r, s], _ =>
    obtain ⟨t, rfl⟩ := one_int (d := 6) (h2 0 _ p rfl rfl).tyC
    obtain ⟨n, rfl⟩ := one_int (d := 6) (h2 1 _ q rfl rfl).tyC
    obtain ⟨k, rfl⟩ := one_int (d := 6) (h2 2 _ r rfl rfl).tyC
    obtain ⟨ps, rfl, h3, h4⟩ := slice_prodsS (d := 2) (h2 3 _ s rfl rfl)
    exact ⟨⟨t, n, k, ps⟩, rfl, h3, h4⟩
set_option maxRecDepth 100000 in
theorem arg_prodS {a : AV} (h : ArgS Try.prog 8 34 a) : ∃ p : Pr, a = .agg p.cells := by
  simp only [ArgS, Try.underlying34] at h
  obtain ⟨bs, rfl, h⟩ := h
  obtain ⟨p, rfl, _⟩ := one_prodS (d := 4) h
  exact ⟨p, rfl⟩
end Go.Proofs.Ytdmaganalpamlaa
