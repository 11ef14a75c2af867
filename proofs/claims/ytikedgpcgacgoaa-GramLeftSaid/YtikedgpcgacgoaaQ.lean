import Derived.Test.YtikedgpcgacgoaaP
set_option linter.unusedSimpArgs false
set_option linter.unusedVariables false
namespace Go.Proofs.Ytikedgpcgacgoaa
open Go Go.Hm

/-- The least that is not of both. -/
def redL (a b : List Bool) : Nat → Nat → Int × Bool
  | 0, _ => (0, true)
  | m + 1, i => if (a.getD i false && b.getD i false) = true then redL a b m (i + 1) else (i, false)
def redP (g : Gm) : Int × Bool := if chkE g = 0 then redL (derM g true) (rchM g) g.n.toNat 0 else (0, false)
def redV (g : Gm) : AV := .tup [I (redP g).1, Bo (redP g).2]
theorem derP_lenR (g : Gm) (tok : Bool) (l : List Pr) (o : List Bool) : (rnd (derP g tok) l o).length = o.length := rnd_len (fun o p => derP_len g tok o p) l o
theorem derM_len (g : Gm) (tok : Bool) : (derM g tok).length = g.n.toNat :=
  fin_ind (rnd_grows (fun p => derP_grows g tok p) g.ps) (fun o => o.length = g.n.toNat) (fun o h => by rw [derP_lenR]; exact h) _ _ (Nat.le_refl _) (by simp)
set_option maxRecDepth 20000 in
theorem red_code {lk lim : Nat} {H : Heap} (g : Gm) (hl : g.ps.length ≤ 1000000) (hr : ∀ p ∈ g.ps, p.r.length ≤ 1000000) (hlk : lk ≤ H.length) : callW X A lk lim 19 [gV g] H = some (redV g, H) := by
  have kc := fun (L : Nat) => check_code (lk := lk) (lim := L) (H := H) g hl hr
  have kp := fun (L : Nat) => prod_code (lk := lk) (lim := L) (H := H) g hl hr hlk
  have kr := fun (L : Nat) => rch_code (lk := lk) (lim := L) (H := H) g hl hr hlk
  refine wb_callB [1] rfl A19 rfl rfl ?_
  unfold t19B
  unfold redV redP
  by_cases hc : chkE g = 0
  case neg =>
    rw [if_neg hc]
    obtain ⟨t, n, k, ps⟩ := g
    simp only [gV, Gm.cells] at kc
    generalize callW X A = C at kc ⊢
    simp [Gm.cells, kc, hc]
  have ok := gok_of hc
  rw [if_pos hc]
  rw [hc] at kc
  have ha := derM_len g true
  have hb := rchM_len g
  unfold derV at kp
  unfold rchV at kr
  rw [if_pos hc] at kp kr
  generalize derM g true = a at ha kp ⊢
  generalize rchM g = b at hb kr ⊢
  obtain ⟨t, n, k, ps⟩ := g
  obtain ⟨t1, t2, n1, n2, k1, k2, l1, l2, okp⟩ := ok
  simp only at t1 t2 n1 n2 k1 k2 l1 l2 okp
  obtain ⟨n, rfl⟩ := Int.eq_ofNat_of_zero_le (by omega : 0 ≤ n)
  simp only [gV, Gm.cells, Int.toNat_natCast] at kc kp kr ha hb ⊢
  generalize callW X A = C at kc kp kr ⊢
  obtain ⟨res, hres⟩ : ∃ res, redL a b n 0 = res := ⟨_, rfl⟩
  rw [hres]
  simp [kc, kp, kr]
  refine wb_loop (σ := Nat) (fun i => [(4, .sl n (bools a)), (5, .sl n (bools b)), (15, I n), (16, I i)]) (fun _ => H)
    (fun i => i ≤ n ∧ redL a b (n - i) i = res) (fun i => n - i) ?_ 0 (by simp [hres]) (by simp) rfl
  rintro i ⟨hi, hinv⟩
  unfold t19L1
  have w1 : IntKind.i64.wrap ((i : Int) + 1) = (i : Int) + 1 := wrap64 (by omega) (by omega)
  by_cases hil : i < n
  case neg =>
    obtain rfl : i = n := by omega
    rw [Nat.sub_self] at hinv
    subst hinv
    simp [redL]
  have hia : i < a.length := by omega
  have hib : i < b.length := by omega
  rw [show n - i = (n - (i + 1)) + 1 by omega, redL, getD_of hia, getD_of hib] at hinv
  obtain ⟨u, hu⟩ : ∃ u, a[i] = u := ⟨_, rfl⟩
  obtain ⟨v, hv⟩ : ∃ v, b[i] = v := ⟨_, rfl⟩
  rw [hu, hv] at hinv
  cases u with
  | false =>
    subst hinv
    simp [hil, bools_get, hia, hib, hu, ha]
  | true =>
    cases v with
    | false =>
      subst hinv
      simp [hil, bools_get, hia, hib, hu, hv, ha, hb]
    | true =>
      simp only [Bool.and_self, if_true] at hinv
      simp [hil, bools_get, hia, hib, hu, hv, ha, hb, w1]
      rw [rnd_nrm]
      exact ⟨i + 1, ⟨by omega, hinv⟩, by omega, by simp, rfl⟩
set_option maxRecDepth 20000 in
theorem rred_code {lk lim : Nat} {H : Heap} (g : Gm) (hl : g.ps.length ≤ 1000000) (hr : ∀ p ∈ g.ps, p.r.length ≤ 1000000) (hlk : lk ≤ H.length) : callW X A lk lim 25 [gV g] H = some (redV g, H) := by
  have kc := fun (L : Nat) => rcheck_code (lk := lk) (lim := L) (H := H) g hl hr
  have kp := fun (L : Nat) => rprod_code (lk := lk) (lim := L) (H := H) g hl hr hlk
  have kr := fun (L : Nat) => rrch_code (lk := lk) (lim := L) (H := H) g hl hr hlk
  refine wb_callB [1] rfl A25 rfl rfl ?_
  unfold t25B
  unfold redV redP
  by_cases hc : chkE g = 0
  case neg =>
    rw [if_neg hc]
    obtain ⟨t, n, k, ps⟩ := g
    simp only [gV, Gm.cells] at kc
    generalize callW X A = C at kc ⊢
    simp [Gm.cells, kc, hc]
  have ok := gok_of hc
  rw [if_pos hc]
  rw [hc] at kc
  have ha := derM_len g true
  have hb := rchM_len g
  unfold derV at kp
  unfold rchV at kr
  rw [if_pos hc] at kp kr
  generalize derM g true = a at ha kp ⊢
  generalize rchM g = b at hb kr ⊢
  obtain ⟨t, n, k, ps⟩ := g
  obtain ⟨t1, t2, n1, n2, k1, k2, l1, l2, okp⟩ := ok
  simp only at t1 t2 n1 n2 k1 k2 l1 l2 okp
  obtain ⟨n, rfl⟩ := Int.eq_ofNat_of_zero_le (by omega : 0 ≤ n)
  simp only [gV, Gm.cells, Int.toNat_natCast] at kc kp kr ha hb ⊢
  generalize callW X A = C at kc kp kr ⊢
  obtain ⟨res, hres⟩ : ∃ res, redL a b n 0 = res := ⟨_, rfl⟩
  rw [hres]
  simp [kc, kp, kr]
  let bx : AV := .box [I t, I n, I k, .sl ps.length (psC ps)]
  refine wb_loop (σ := Nat) (fun i => [(1, bx), (4, .sl n (bools a)), (5, .sl n (bools b)), (6, I i)]) (fun _ => H)
    (fun i => i ≤ n ∧ redL a b (n - i) i = res) (fun i => n - i) ?_ 0 (by simp [hres]) (by simp [bx]) rfl
  rintro i ⟨hi, hinv⟩
  unfold t25L1
  have w1 : IntKind.i64.wrap ((i : Int) + 1) = (i : Int) + 1 := wrap64 (by omega) (by omega)
  by_cases hil : i < n
  case neg =>
    obtain rfl : i = n := by omega
    rw [Nat.sub_self] at hinv
    subst hinv
    simp [redL, bx]
  have hia : i < a.length := by omega
  have hib : i < b.length := by omega
  rw [show n - i = (n - (i + 1)) + 1 by omega, redL, getD_of hia, getD_of hib] at hinv
  obtain ⟨u, hu⟩ : ∃ u, a[i] = u := ⟨_, rfl⟩
  obtain ⟨v, hv⟩ : ∃ v, b[i] = v := ⟨_, rfl⟩
  rw [hu, hv] at hinv
  cases u with
  | false =>
    subst hinv
    simp [bx, hil, bools_get, hia, hib, hu, ha]
  | true =>
    cases v with
    | false =>
      subst hinv
      simp [bx, hil, bools_get, hia, hib, hu, hv, ha, hb]
    | true =>
      simp only [Bool.and_self, if_true] at hinv
      simp [bx, hil, bools_get, hia, hib, hu, hv, ha, hb, w1]
      rw [rnd_nrm]
      exact ⟨i + 1, ⟨by omega, hinv⟩, by omega, by simp [bx], rfl⟩
end Go.Proofs.Ytikedgpcgacgoaa
