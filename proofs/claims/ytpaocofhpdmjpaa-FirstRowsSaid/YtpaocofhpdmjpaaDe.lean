import Derived.Test.YtpaocofhpdmjpaaDr
set_option linter.unusedSimpArgs false
set_option linter.unusedVariables false
namespace Go.Proofs.Ytpaocofhpdmjpaa
open Go Go.Hm

set_option maxRecDepth 20000 in
set_option maxHeartbeats 2000000 in
theorem derived_code (g : Gm) (c : List Int) : callW X A 0 0 4 [gV g, .sl c.length (ints c)] [] = some (Bo true, []) := by
  have k10 := lives_ok
  have kk := light_code (lk := 0) (lim := 0) (H := []) g
  refine wb_callB [2] rfl A4 rfl rfl ?_
  unfold t4B
  by_cases hli : light g = true
  case neg =>
    have hli : light g = false := by simpa using hli
    rw [hli] at kk
    obtain ⟨t, n, k, ps⟩ := g
    simp only [gV, Gm.cells] at kk
    generalize callW X A = C at k10 kk ⊢
    simp [Gm.cells, k10, kk]
  rw [hli] at kk
  obtain ⟨hl, hr⟩ := light_bd hli
  have kc := rcheck_code (lk := 0) (lim := 0) (H := []) g hl hr
  by_cases hc : chkE g = 0
  case neg =>
    have hc2 : (chkE g != 0) = true := by simpa using hc
    generalize chkE g = e at kc hc2 hc
    obtain ⟨t, n, k, ps⟩ := g
    simp only [gV, Gm.cells] at kk kc
    generalize callW X A = C at k10 kk kc ⊢
    simp [Gm.cells, k10, kk, kc, hc2, hc]
  have ok := gok_of hc
  by_cases hcl : 60 < c.length
  · have hcl' : (60 : Int) < c.length := by omega
    rw [hc] at kc
    obtain ⟨t, n, k, ps⟩ := g
    simp only [gV, Gm.cells] at kk kc
    generalize callW X A = C at k10 kk kc ⊢
    simp [Gm.cells, k10, kk, kc, hcl']
  have hcl' : ¬ (60 : Int) < c.length := by omega
  obtain ⟨v, h', ks, hh, hv⟩ := sets_code (lk := 0) (lim := 0) (H := []) (Nat.le_refl _) g hl hr
  subst hh
  rw [if_pos hc] at hv
  obtain ⟨cs, rfl, hS⟩ := hv
  obtain ⟨v, h', kd, hh, s, b, hv, hd⟩ := derives_code (lk := 0) (lim := 0) (H := []) (Nat.le_refl _) g ok c (by omega)
  subst hh hv
  have hok := sets_ok ok
  have hlen := hok.len
  have hn1 := ok.n1
  have hk1 := ok.k1
  have kh := fun (v : AV) (l : List (List UInt8)) (hv : RV v l) x h => has_code (lk := 0) (lim := 0) (H := []) hv x h
  have heq : ((cs.length : Int) == g.n) = true := by rw [hS.1, hlen, beq_iff_eq]; omega
  rw [hc] at kc
  cases b with
  | false =>
    obtain ⟨t, n, k, ps⟩ := g
    simp only [gV, Gm.cells] at kk kc ks kd heq
    generalize callW X A = C at *
    simp [Gm.cells, k10, kk, kc, ks, kd, hcl', heq]
  | true =>
    obtain ⟨hd, hsl⟩ := hd rfl
    have hmem := drv_first ok (Int.le_refl 0) (by simpa using hd)
    have hi0 : 0 < (setsM g).length := by rw [hlen]; omega
    obtain ⟨w, hw, hrw⟩ := hS.get hi0
    have hic : 0 < cs.length := by rw [hS.1]; exact hi0
    have hicE : cs[0] = w := by rw [List.getElem?_eq_getElem hic] at hw; simpa using hw
    have hsz := rok_bd ok (hok.get 0)
    have k14 := kh w _ hrw (s.take g.k.toNat) (by have := hsz.1; omega)
    rw [hasV_iff.2 (by simpa using hmem)] at k14
    generalize (setsM g).getD 0 [] = l at k14 hrw
    obtain ⟨t, n, k, ps⟩ := g
    simp only at hn1 hk1
    obtain ⟨k, rfl⟩ := Int.eq_ofNat_of_zero_le (by omega : 0 ≤ k)
    have hmx : mmFold false [I (s.length : Int)] .i64 (k : Int) = some (.i64, ((min k s.length : Nat) : Int)) := by
      simp [mmFold]; omega
    have hmk : min k s.length ≤ s.length := Nat.min_le_right ..
    have htk := take_min k s
    simp only [Int.toNat_natCast] at k14
    generalize min k s.length = m at hmx hmk htk
    simp only [gV, Gm.cells] at kk kc ks kd heq
    generalize callW X A = C at *
    rcases rv_noRp hrw with rfl | rfl
    all_goals simp [Gm.cells, k10, kk, kc, ks, kd, hcl', heq, hic, hw, hicE, Sg_size, hmx, Sg_ext, htk, hmk, bnd, k14]
end Go.Proofs.Ytpaocofhpdmjpaa
