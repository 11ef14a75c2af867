import Derived.Test.YtpaocofhpdmjpaaV
set_option linter.unusedSimpArgs false
set_option linter.unusedVariables false
namespace Go.Proofs.Ytpaocofhpdmjpaa
open Go Go.Hm

theorem light_bd {g : Gm} (h : light g = true) : g.ps.length ≤ 1000000 ∧ ∀ p ∈ g.ps, p.r.length ≤ 1000000 := by
  unfold light at h
  split at h
  · cases h
  · split at h
    · cases h
    · rename_i h1 h2
      refine ⟨by omega, fun p hp => ?_⟩
      simp only [Bool.not_eq_true, List.any_eq_false, Bool.or_eq_true, decide_eq_true_eq, not_or] at h2
      have := (h2 p hp).2
      omega

theorem src_one (H : Heap) (a : AV) : srcCells H (.sl 1 [a]) = some (1, [a]) := rfl

/-! ### FIRST of symbols -/
theorem c50_code {lk lim : Nat} {H : Heap} {g : Gm} {b : Nat} (hb : H[b]? = some (.cells g.cells)) (hw : IntKind.i64.wrap (g.t + g.n) = g.t + g.n) (s : Int) : callW X A lk lim 50 [I s, .hp b 4 0] H = some (Bo (badS g s), H) := by
  refine wb_callB [] rfl A50 rfl rfl ?_
  unfold t50B
  unfold Gm.cells at hb
  unfold badS
  by_cases h : s < 0
  · simp [h]
  · simp [h, hb, hw]
def OfOk (g : Gm) (S : Ss) (r : List Int) : Prop := chkE g = 0 ∧ (S.length : Int) = g.n ∧ r.any (badS g) = false
instance (g : Gm) (S : Ss) (r : List Int) : Decidable (OfOk g S r) := by unfold OfOk; exact inferInstance
set_option maxRecDepth 20000 in
theorem of23_code {lk lim : Nat} {H : Heap} (hlk : lk ≤ H.length) (g : Gm) (hl : g.ps.length ≤ 1000000) (hr : ∀ p ∈ g.ps, p.r.length ≤ 1000000) {cs : List AV} {S : Ss} (hS : SC cs S) (r : List Int) (hrl : r.length ≤ 1000000) (hSl : S.length ≤ 1000000)
    (hO : OfOk g S r → (∀ i, (ofM g S (r.take i)).length ≤ 2000000 ∧ ∀ x ∈ ofM g S (r.take i), x.length ≤ 1000000) ∧ ∀ s ∈ r, (nxt g S s).length ≤ 2000000 ∧ ∀ x ∈ nxt g S s, x.length ≤ 1000000) :
    callW X A lk lim 23 [gV g, .sl cs.length cs, .sl r.length (ints r)] H = some (if OfOk g S r then ofV g S r else .e0, H) := by
  have kc := fun (L : Nat) => check_code (lk := lk) (lim := L) (H := H ++ [.cells g.cells]) g hl hr
  have k49 := fun (L : Nat) (hw : IntKind.i64.wrap (g.t + g.n) = g.t + g.n) => has35_code (lk := lk) (lim := L) (H := H ++ [.cells g.cells]) (f := 50) (cap := [.hp H.length 4 0]) r (badS g) hrl rfl (fun s _ => c50_code (by simp) hw s)
  have k45 := fun (L : Nat) h1 h2 h3 h4 => of_code1 (lk := lk) (lim := L) (H := H ++ [.cells g.cells]) (by simp; omega) g (.sl g.ps.length (psC g.ps)) hS r h1 h2 hrl hSl h3 h4
  have hcl := hS.1
  refine wb_callB [] rfl A23 rfl rfl ?_
  unfold t23B
  by_cases hc : chkE g = 0
  case neg =>
    rw [if_neg (fun h : OfOk g S r => hc h.1)]
    have hc2 : (chkE g != 0) = true := by simpa using hc
    generalize chkE g = e at kc hc2 hc
    obtain ⟨t, n, k, ps⟩ := g
    simp only [gV, Gm.cells] at kc
    generalize callW X A = C at kc ⊢
    simp [Gm.cells, kc, hc2, hc]
  have ok := gok_of hc
  by_cases hn : (S.length : Int) = g.n
  case neg =>
    rw [if_neg (fun h : OfOk g S r => hn h.2.1)]
    rw [hc] at kc
    obtain ⟨t, n, k, ps⟩ := g
    simp only [gV, Gm.cells] at kc hn
    have hn2 : ((cs.length : Int) != n) = true := by rw [hcl]; simpa using hn
    have hn3 : ¬ (cs.length : Int) = n := by rw [hcl]; exact hn
    generalize callW X A = C at kc ⊢
    simp [Gm.cells, kc, hn2, hn3]
  have hn2 : ((cs.length : Int) != g.n) = false := by rw [hcl]; simpa using hn
  have hn3 : (cs.length : Int) = g.n := by rw [hcl]; exact hn
  have hw : IntKind.i64.wrap (g.t + g.n) = g.t + g.n := by have := ok.t1; have := ok.t2; have := ok.n1; have := ok.n2; exact wrap64 (by omega) (by omega)
  have k49 := fun L => k49 L hw
  by_cases hb : r.any (badS g) = false
  case neg =>
    rw [if_neg (fun h : OfOk g S r => hb h.2.2)]
    have hb : r.any (badS g) = true := by simpa using hb
    rw [hc] at kc
    rw [hb] at k49
    obtain ⟨t, n, k, ps⟩ := g
    simp only [gV, Gm.cells] at kc k49 hn2 hn3
    generalize callW X A = C at kc k49 ⊢
    simp [Gm.cells, kc, hn2, hn3, k49]
  have hok : OfOk g S r := ⟨hc, hn, hb⟩
  rw [if_pos hok]
  obtain ⟨o1, o2⟩ := hO hok
  have k45 := fun L => k45 L (fun s hs => by
    have := List.any_eq_false.1 hb s hs
    simp only [badS, Bool.or_eq_true, decide_eq_true_eq, not_or] at this
    omega) ⟨by have := ok.t1; omega, by have := ok.t2; omega⟩ o1 o2
  rw [hc] at kc
  rw [hb] at k49
  have hov := ofV_rv g S r
  generalize ofV g S r = ov at k45 hov ⊢
  obtain ⟨t, n, k, ps⟩ := g
  simp only [gV, Gm.cells] at kc k49 hn2 hn3 k45
  generalize callW X A = C at kc k49 k45 ⊢
  rcases rv_noRp hov with rfl | rfl
  all_goals simp [Gm.cells, kc, hn2, hn3, k49, k45]
end Go.Proofs.Ytpaocofhpdmjpaa
