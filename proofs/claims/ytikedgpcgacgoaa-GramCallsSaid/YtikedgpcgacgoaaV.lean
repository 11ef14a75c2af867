import Derived.Test.YtikedgpcgacgoaaU
set_option linter.unusedSimpArgs false
set_option linter.unusedVariables false
namespace Go.Proofs.Ytikedgpcgacgoaa
open Go Go.Hm

abbrev gW (g : Gm) (v : AV) : AV := .agg [I g.t, I g.n, I g.k, v]
set_option maxRecDepth 20000 in
/-- Grammars are the same. -/
theorem same22_code {lk lim : Nat} {H : Heap} (g h : Gm) (hr : g.ps.length ≤ 1000000) (hs : h.ps.length ≤ 1000000) (hr2 : ∀ p ∈ g.ps, p.r.length ≤ 1000000) (hs2 : ∀ p ∈ h.ps, p.r.length ≤ 1000000) (v w : AV) (hv : PS H g.ps v) (hw : PS H h.ps w) :
    callW X A lk lim 22 [gW g v, gW h w] H = some (Bo (decide (g = h)), H) := by
  have k := fun (L : Nat) => eq46_code (lk := lk) (lim := L) (H := H) g.ps h.ps hr hs hr2 hs2 v w hv hw
  have ax : v = .e0 ∨ (∃ cs, v = .sl g.ps.length cs) ∨ ∃ b, v = .hs b (2 * g.ps.length) 0 g.ps.length 2 := by
    rcases hv.forms with ⟨rfl, h1⟩ | ⟨cs, rfl, h1⟩ | ⟨b, cs, rfl, hh1, h1⟩
    · exact .inl rfl
    · exact .inr (.inl ⟨_, rfl⟩)
    · exact .inr (.inr ⟨_, rfl⟩)
  have ay : w = .e0 ∨ (∃ cs, w = .sl h.ps.length cs) ∨ ∃ b, w = .hs b (2 * h.ps.length) 0 h.ps.length 2 := by
    rcases hw.forms with ⟨rfl, h1⟩ | ⟨cs, rfl, h1⟩ | ⟨b, cs, rfl, hh1, h1⟩
    · exact .inl rfl
    · exact .inr (.inl ⟨_, rfl⟩)
    · exact .inr (.inr ⟨_, rfl⟩)
  clear hv hw
  refine wb_callB [2, 3] rfl A22 rfl rfl ?_
  unfold t22B
  have e : decide (g = h) = (decide (g.t = h.t) && (decide (g.n = h.n) && (decide (g.k = h.k) && decide (g.ps = h.ps)))) := by
    rw [Bool.eq_iff_iff]
    simp only [Bool.and_eq_true, decide_eq_true_eq]
    exact (gm_ext g h).symm
  rw [e]
  obtain ⟨t, n, k1, ps⟩ := g
  obtain ⟨t', n', k1', ps'⟩ := h
  simp only at k ax ay
  generalize decide (ps = ps') = z at k
  by_cases c1 : t = t'
  case neg =>
    have hb : (t == t') = false := beq_eq_false_iff_ne.2 c1
    rcases ax with rfl | ⟨m, rfl⟩ | ⟨m, rfl⟩ <;> rcases ay with rfl | ⟨m', rfl⟩ | ⟨m', rfl⟩ <;> simp [hb, c1]
  by_cases c2 : n = n'
  case neg =>
    have hb : (n == n') = false := beq_eq_false_iff_ne.2 c2
    rcases ax with rfl | ⟨m, rfl⟩ | ⟨m, rfl⟩ <;> rcases ay with rfl | ⟨m', rfl⟩ | ⟨m', rfl⟩ <;> simp [hb, c1, c2]
  by_cases c3 : k1 = k1'
  case neg =>
    have hb : (k1 == k1') = false := beq_eq_false_iff_ne.2 c3
    rcases ax with rfl | ⟨m, rfl⟩ | ⟨m, rfl⟩ <;> rcases ay with rfl | ⟨m', rfl⟩ | ⟨m', rfl⟩ <;> simp [hb, c1, c2, c3]
  subst c1
  subst c2
  subst c3
  rcases ax with rfl | ⟨m, rfl⟩ | ⟨m, rfl⟩ <;> rcases ay with rfl | ⟨m', rfl⟩ | ⟨m', rfl⟩ <;> simp [k]
end Go.Proofs.Ytikedgpcgacgoaa
