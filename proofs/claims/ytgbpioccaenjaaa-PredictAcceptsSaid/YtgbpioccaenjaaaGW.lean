import Derived.Test.YtgbpioccaenjaaaGV
set_option linter.unusedSimpArgs false
set_option linter.unusedVariables false
namespace Go.Proofs.Ytgbpioccaenjaaa
open Go Go.Hm

def buildE (g : Gm) : Int := if chkE g = 0 then (match confM g with
 | some _ => 9
 | none => 0) else chkE g
def buildC (g : Gm) : Option (Nat × Nat × Nat × List UInt8) := if chkE g = 0 then confM g else none
def TV (tv : AV) (S : Ss) : Prop := (tv = .e0 ∧ S = []) ∨ ∃ cs, tv = .sl cs.length cs ∧ SC cs S
def buildT (g : Gm) : Ss := if buildE g = 0 then lookM g else []
theorem build_code2 {lk lim : Nat} {H : Heap} (hlk : lk ≤ H.length) (g : Gm) (hl : g.ps.length ≤ 1000000) (hr : ∀ p ∈ g.ps, p.r.length ≤ 1000000) :
  ∃ tv, callW X A lk lim 13 [gV g] H = some (.tup [.agg [tv], cfV (buildC g), I (buildE g)], H) ∧ TV tv (buildT g) := by
 obtain ⟨v, h', h, rfl, hb⟩ := build_code (lim := lim) hlk g hl hr
 rw [h]
 unfold BuildR at hb
 unfold buildT buildE buildC
 by_cases hc : chkE g = 0
 ·rw [if_pos hc] at hb ⊢
  rw [if_pos hc]
  cases hm : confM g with
  | none =>
   rw [hm] at hb
   obtain ⟨cs, rfl, hs⟩ := hb
   exact ⟨_, rfl, .inr ⟨cs, rfl, hs⟩⟩
  | some c =>
   rw [hm] at hb
   simp only at hb
   subst hb
   exact ⟨_, rfl, .inl ⟨rfl, rfl⟩⟩
 ·rw [if_neg hc] at hb ⊢
  subst hb
  rw [if_neg hc, if_neg hc]
  exact ⟨_, rfl, .inl ⟨rfl, rfl⟩⟩
theorem cfV_get (c : Option (Nat × Nat × Nat × List UInt8)) : ∃ (l a b : Nat) (x : List UInt8), cfV c = .agg [I l, I a, I b, Sg x] := by
 cases c with
 | none => exact ⟨0, 0, 0, [], rfl⟩
 | some c => obtain ⟨l, a, b, x⟩ := c; exact ⟨l, a, b, x, rfl⟩
set_option maxRecDepth 20000 in
theorem strong_code {lk lim : Nat} {H : Heap} (hlk : lk ≤ H.length) (g : Gm) (hl : g.ps.length ≤ 1000000) (hr : ∀ p ∈ g.ps, p.r.length ≤ 1000000) :
  callW X A lk lim 22 [gV g] H = some (.tup [cfV (buildC g), Bo (decide (buildE g = 0))], H) := by
 obtain ⟨tv, kb, hT⟩ := build_code2 (lim := H.length) hlk g hl hr
 refine wb_callB [1, 2, 4] rfl A22 rfl rfl ?_
 unfold t22B
 generalize buildT g = T at hT
 obtain ⟨l, a, b, x, hx⟩ := cfV_get (buildC g)
 rw [hx] at kb ⊢
 generalize buildE g = e at kb ⊢
 obtain ⟨t, n, k, ps⟩ := g
 simp only [gV, Gm.cells] at kb
 generalize callW X A = C at kb ⊢
 have he : ((e == 0) : Bool) = decide (e = 0) := by by_cases h : e = 0 <;> simp [h]
 rcases hT with ⟨rfl, _⟩ | ⟨cs, rfl, _⟩
 all_goals
  simp [Gm.cells, kb, replaceAt, he]
end Go.Proofs.Ytgbpioccaenjaaa

namespace Go.Proofs.Ytgbpioccaenjaaa
open Go Go.Hm

def prdF (S : Ss) (row : List UInt8) : List Nat → Int
 | [] => -1
 | i :: r => if hasV (S.getD i []) row = true then i else prdF S row r
def prdM (g : Gm) (S : Ss) (left : Int) (row : List UInt8) : Int :=
 if S.length ≠ g.ps.length then -1 else if chkE g ≠ 0 then -1 else prdF S row (ofN g.ps left g.ps.length)
theorem TV.len {tv : AV} {S : Ss} (h : TV tv S) : tv = .e0 ∧ S.length = 0 ∨ ∃ cs, tv = .sl cs.length cs ∧ cs.length = S.length := by
 rcases h with ⟨rfl, rfl⟩ | ⟨cs, rfl, hs⟩
 ·exact .inl ⟨rfl, rfl⟩
 ·exact .inr ⟨cs, rfl, hs.1⟩
end Go.Proofs.Ytgbpioccaenjaaa
