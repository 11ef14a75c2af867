import Derived.Test.YtikedgpcgacgoaaH
set_option linter.unusedSimpArgs false
set_option linter.unusedVariables false
namespace Go.Proofs.Ytikedgpcgacgoaa
open Go Go.Hm

def dS (g : Gm) (tok : Bool) (H : Heap) (o : List Bool) : Heap := H ++ [.cells g.cells, .cells [Bo tok], .cells (bools o), .cells [.hs (H.length + 2) g.n.toNat 0 g.n.toNat 1], .cells [.fn 52 (lackC H.length)]]
theorem dS_dh (g : Gm) (tok : Bool) (H : Heap) (o : List Bool) : DH g tok (dS g tok H o) H.length o := by
  unfold dS
  exact ⟨by rw [get_at0]; rfl, by rw [Hm.get_at]; rfl, by rw [Hm.get_at]; rfl, by rw [Hm.get_at]; rfl, by rw [Hm.get_at]; rfl⟩
theorem dS_set (g : Gm) (tok : Bool) (H : Heap) (o o2 : List Bool) : (dS g tok H o).set (H.length + 2) (.cells (bools o2)) = dS g tok H o2 := by
  unfold dS
  rw [set_at]; rfl
set_option maxRecDepth 20000 in
theorem der_code {lk lim : Nat} {H : Heap} (g : Gm) (tok : Bool) (hl : g.ps.length ≤ 1000000) (hr : ∀ p ∈ g.ps, p.r.length ≤ 1000000) (hlk : lk ≤ H.length) :
    callW X A lk lim 37 [gV g, Bo tok] H = some (if chkE g = 0 then .sl g.n.toNat (bools (derM g tok)) else .e0, H) := by
  have kc := fun (L : Nat) (H' : Heap) => check_code (lk := lk) (lim := L) (H := H') g hl hr
  have kg := fun (L : Nat) (ok : GOk g) => grow_code (lk := lk) (lim := L) (f := 53) (cap := [.hp (H.length + 3) 1 0, .hp (H.length + 4) 1 0]) g.ps (derP g tok) (dS g tok H) (fun o => o.length = g.n.toNat) (H.length + 5) hl rfl
    (fun p => derP_grows g tok p) (fun o p _ h => by rw [derP_len]; exact h) (fun o => by simp [dS]) (fun o p hp ho => by
      have := c53_code (lk := lk) (lim := H.length + 5) (dS_dh g tok H o) (by omega) ok ho p (ok.p p hp)
      rw [dS_set] at this
      exact this) (List.replicate g.n.toNat false) (by simp)
  refine wb_callB [] rfl A37 rfl rfl ?_
  unfold t37B
  by_cases hc : chkE g = 0
  case neg =>
    rw [if_neg hc]
    obtain ⟨t, n, k, ps⟩ := g
    simp only [gV, Gm.cells] at kc
    generalize callW X A = C at kc ⊢
    simp [Gm.cells, kc, hc]
  have ok := gok_of hc
  rw [if_pos hc]
  rw [hc] at kc
  have kg := fun L => kg L ok
  obtain ⟨t, n, k, ps⟩ := g
  have n1 := ok.n1
  have n2 := ok.n2
  simp only at n1 n2
  obtain ⟨n, rfl⟩ := Int.eq_ofNat_of_zero_le (by omega : 0 ≤ n)
  simp only [gV, Gm.cells] at kc
  have hro : (n : Int) ≤ (room : Int) := by unfold room; omega
  obtain ⟨F, hF⟩ : ∃ F, derM ⟨t, n, k, ps⟩ tok = F := ⟨_, rfl⟩
  have hFl : F.length = n := by
    rw [← hF]
    have := fin_ind (rnd_grows (fun p => derP_grows ⟨t, n, k, ps⟩ tok p) ps) (fun o => o.length = n) (fun o h => rnd_ind (fun o => o.length = n) ps (fun o p _ h => by rw [derP_len]; exact h) ps (fun _ h => h) o h) _ (List.replicate n false) (Nat.le_refl _) (by simp)
    exact this
  have kg : ∀ L, callW X A lk L 38 [.sl ps.length (psC ps), .fn 53 [.hp (H.length + 3) 1 0, .hp (H.length + 4) 1 0]] (dS ⟨t, n, k, ps⟩ tok H (List.replicate n false)) = some (.tup [], dS ⟨t, n, k, ps⟩ tok H F) := fun L => by
    rw [← hF]; exact kg L
  have hb := fun (H' : Heap) => frz_bools H.length H' 7 F
  have hb2 := bel_bools 0 F
  have htk : (bools F).take n = bools F := List.take_of_length_le (by rw [bools_len]; omega)
  have hbl : (bools F).length = n := by rw [bools_len]; exact hFl
  simp only [dS, Gm.cells, lackC, Int.toNat_natCast] at kg
  rw [hF]
  simp only [Int.toNat_natCast]
  generalize callW X A = C at kc kg ⊢
  have s1 : lk ≤ H.length + 3 := by omega
  have s2 : lk ≤ H.length + 4 := by omega
  have s3 : ¬ (H.length + 2 < H.length) := by omega
  simp [Gm.cells, kc, hro, bools_rep, setH, s1, s2, set_at, Hm.get_at, get_at0, kg, hbl, htk, hb, hb2, s3]
end Go.Proofs.Ytikedgpcgacgoaa
