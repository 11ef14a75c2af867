import Derived.Test.YtgbpioccaenjaaaGW
import Derived.Test.YtgbpioccaenjaaaWn
set_option linter.unusedSimpArgs false
set_option linter.unusedVariables false
namespace Go.Proofs.Ytgbpioccaenjaaa
open Go Go.Hm

set_option maxRecDepth 20000 in
theorem accepts_code (g : Gm) : callW X A 0 0 6 [gV g] [] = some (Bo true, []) := by
 have kl := fun (L : Nat) => lives_at (lk := 0) (lim := L) (H := [])
 have kg := fun (L : Nat) => light_code (lk := 0) (lim := L) (H := []) g
 refine wb_callB [1, 8] rfl A6 rfl rfl ?_
 unfold t6B
 cases hlt : light g with
 | false =>
  rw [hlt] at kg
  obtain ⟨t, n, k, ps⟩ := g
  simp only [gV, Gm.cells] at kg
  generalize callW X A = C at kl kg ⊢
  simp [Gm.cells, kl, kg]
 | true =>
  rw [hlt] at kg
  obtain ⟨hl, hr⟩ := light_bd hlt
  have ka := fun (L : Nat) => accept_code (lk := 0) (lim := L) (H := []) (Nat.le_refl _) g hl hr
  have kc := fun (L : Nat) => rcheck_code (lk := 0) (lim := L) (H := []) g hl hr
  have kr := fun (L : Nat) => rred_code (lk := 0) (lim := L) (H := []) g hl hr (Nat.le_refl _)
  have kf := fun (L : Nat) => left_code26 (lk := 0) (lim := L) (H := []) g hl hr (Nat.le_refl _)
  have ks := fun (L : Nat) => strong_code (lk := 0) (lim := L) (H := []) (Nat.le_refl _) g hl hr
  unfold redV at kr
  unfold leftV at kf
  have hb : chkE g = 0 → buildE g = 0 ∨ buildE g = 9 := fun h => by
   unfold buildE
   rw [if_pos h]
   cases confM g <;> simp
  unfold accE at ka
  obtain ⟨l, a, b, x, hx⟩ := cfV_get (buildC g)
  rw [hx] at ks
  generalize buildE g = e at ka ks hb
  generalize chkE g = c at kc ka hb
  generalize redP g = rp at kr ka
  generalize leftR g = lr at kf ka
  obtain ⟨r1, r2⟩ := rp
  obtain ⟨l1, l2⟩ := lr
  obtain ⟨t, n, k, ps⟩ := g
  simp only [gV, Gm.cells] at kg ka kc kr kf ks
  generalize callW X A = C at kl kg ka kc kr kf ks ⊢
  by_cases hc : c = 0
  case neg =>
   have hc2 : (c != 0) = true := by simpa using hc
   rw [if_pos hc] at ka
   simp [Gm.cells, kl, kg, ka, kc, hc2, hc]
  subst hc
  rw [if_neg (by simp)] at ka
  cases r2 with
  | false =>
   rw [if_pos rfl] at ka
   simp [Gm.cells, kl, kg, ka, kc, kr, kf, ks, replaceAt]
  | true =>
   rw [if_neg (by simp)] at ka
   cases l2 with
   | true =>
    rw [if_pos rfl] at ka
    simp [Gm.cells, kl, kg, ka, kc, kr, kf, ks, replaceAt]
   | false =>
    rw [if_neg (by simp)] at ka
    rcases hb rfl with rfl | rfl
    all_goals
     simp [Gm.cells, kl, kg, ka, kc, kr, kf, ks, replaceAt]
end Go.Proofs.Ytgbpioccaenjaaa
