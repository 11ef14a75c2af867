import Derived.Test.YtikedgpcgacgoaaG
set_option linter.unusedSimpArgs false
set_option linter.unusedVariables false
namespace Go.Proofs.Ytikedgpcgacgoaa
open Go Go.Hm

theorem take_setG (H : Heap) (b : Nat) (x : HB) : (H.set b x).take H.length = H.set b x := List.take_of_length_le (by simp)
theorem get_ltG {H : Heap} {b : Nat} {x : HB} (h : H[b]? = some x) : b < H.length := by
  rcases Nat.lt_or_ge b H.length with h1 | h1
  · exact h1
  · rw [List.getElem?_eq_none h1] at h; cases h
/-- A closure's boxes, and the row, in memory. -/
structure DH (g : Gm) (tok : Bool) (H : Heap) (b : Nat) (o : List Bool) : Prop where
  g0 : H[b]? = some (.cells g.cells)
  g1 : H[b + 1]? = some (.cells [Bo tok])
  g2 : H[b + 2]? = some (.cells (bools o))
  g3 : H[b + 3]? = some (.cells [.hs (b + 2) g.n.toNat 0 g.n.toNat 1])
  g4 : H[b + 4]? = some (.cells [.fn 52 [.hp b 4 0, .hp (b + 1) 1 0, .hp (b + 3) 1 0]])
abbrev lackC (b : Nat) : List AV := [.hp b 4 0, .hp (b + 1) 1 0, .hp (b + 3) 1 0]
set_option maxRecDepth 20000 in
theorem c52_code {lk lim : Nat} {H : Heap} {g : Gm} {tok : Bool} {b : Nat} {o : List Bool} (hd : DH g tok H b o) (ok : GOk g) (ho : o.length = g.n.toNat) (s : Int) (s1 : 0 ≤ s) (s2 : s < g.t + g.n) :
    callW X A lk lim 52 (I s :: lackC b) H = some (Bo (!okS g tok o s), H) := by
  refine wb_callB [] rfl A52 rfl rfl ?_
  unfold t52B
  obtain ⟨g0, g1, g2, g3, g4⟩ := hd
  obtain ⟨t, n, k, ps⟩ := g
  obtain ⟨t1, t2, n1, n2, k1, k2, l1, l2, okp⟩ := ok
  simp only at t1 t2 n1 n2 ho s2
  obtain ⟨n, rfl⟩ := Int.eq_ofNat_of_zero_le (by omega : 0 ≤ n)
  simp only [Gm.cells] at g0
  simp only [Int.toNat_natCast] at g3 ho
  by_cases hst : s < t
  · have hok : okS ⟨t, n, k, ps⟩ tok o s = tok := by unfold okS; rw [if_pos hst]
    rw [hok]
    have hst2 : ¬ t ≤ s := by omega
    cases tok <;> simp [g0, g1, hst, hst2]
  · have hst2 : t ≤ s := by omega
    have hxn : (s - t).toNat < o.length := by omega
    obtain ⟨u, hu⟩ : ∃ u, o[(s - t).toNat] = u := ⟨_, rfl⟩
    have hok : okS ⟨t, n, k, ps⟩ tok o s = u := by unfold okS; rw [if_neg hst]; simp only; rw [getD_of hxn, hu]
    rw [hok]
    have w3 : IntKind.i64.wrap (s - t) = s - t := wrap64 (by omega) (by omega)
    have y1 : 0 ≤ s - t := by omega
    have y2 : s - t < n := by omega
    have hbl : (bools o).length = n := by rw [bools_len]; exact ho
    simp [g0, g3, g2, hst, hst2, w3, y1, y2, hbl, bools_get, hxn, hu]
theorem DH.set {g : Gm} {tok : Bool} {H : Heap} {b : Nat} {o o2 : List Bool} (hd : DH g tok H b o) : DH g tok (H.set (b + 2) (.cells (bools o2))) b o2 := by
  obtain ⟨g0, g1, g2, g3, g4⟩ := hd
  have hl := get_ltG g2
  exact ⟨by rw [List.getElem?_set_ne (by omega)]; exact g0, by rw [List.getElem?_set_ne (by omega)]; exact g1, by rw [List.getElem?_set_self hl], by rw [List.getElem?_set_ne (by omega)]; exact g3, by rw [List.getElem?_set_ne (by omega)]; exact g4⟩
theorem not_any {α : Type} (P : α → Bool) (l : List α) : (l.any fun x => !P x) = !l.all P := by
  induction l with
  | nil => rfl
  | cons a l ih => simp only [List.any_cons, List.all_cons, ih, Bool.not_and]
set_option maxRecDepth 20000 in
theorem c53_code {lk lim : Nat} {H : Heap} {g : Gm} {tok : Bool} {b : Nat} {o : List Bool} (hd : DH g tok H b o) (hlk : lk ≤ b + 2) (ok : GOk g) (ho : o.length = g.n.toNat) (p : Pr) (pok : POk g p) :
    callW X A lk lim 53 [.agg p.cells, .hp (b + 3) 1 0, .hp (b + 4) 1 0] H = some (Bo (decide (derP g tok o p ≠ o)), H.set (b + 2) (.cells (bools (derP g tok o p)))) := by
  have k35 := has35_code (lk := lk) (lim := H.length) (H := H) (f := 52) (cap := lackC b) p.r (fun s => !okS g tok o s) (by have := pok.len; omega) rfl (fun s hs => c52_code hd ok ho s (pok.s s hs).1 (pok.s s hs).2)
  rw [not_any] at k35
  have htk := fun x : HB => take_setG H (b + 2) x
  refine wb_callB [3] rfl A53 rfl rfl ?_
  unfold t53B
  obtain ⟨g0, g1, g2, g3, g4⟩ := hd
  obtain ⟨t, n, k, ps⟩ := g
  have n1 := ok.n1
  simp only at n1
  obtain ⟨n, rfl⟩ := Int.eq_ofNat_of_zero_le (by omega : 0 ≤ n)
  simp only [Int.toNat_natCast] at g3 ho
  obtain ⟨pl, pr⟩ := p
  obtain ⟨q1, q2, q3, q4⟩ := pok
  simp only at q1 q2 q3 q4 k35
  obtain ⟨pl, rfl⟩ := Int.eq_ofNat_of_zero_le q2
  have hpl2 : pl < o.length := by omega
  have hpn : pl < n := by omega
  have hpn1 : pl + 1 ≤ n := hpn
  have hpn2 : (pl : Int) < n := by omega
  obtain ⟨v, hv⟩ : ∃ v, o[pl] = v := ⟨_, rfl⟩
  have hbl : (bools o).length = n := by rw [bools_len]; exact ho
  have hpl3 : pl < (bools o).length := by rw [hbl]; exact hpn
  have hgD : o.getD pl false = v := by rw [getD_of hpl2, hv]
  have hself : H.set (b + 2) (.cells (bools o)) = H := by
    have hl := get_ltG g2
    rw [List.getElem?_eq_getElem hl] at g2
    have g2 := Option.some.inj g2
    rw [← g2]
    exact List.set_getElem_self hl
  generalize callW X A = C at k35 ⊢
  cases v with
  | true =>
    have hder : derP ⟨t, n, k, ps⟩ tok o ⟨pl, pr⟩ = o := by unfold derP; simp only [Int.toNat_natCast, hgD]; rfl
    rw [hder, hself]
    simp [Pr.cells, g3, g2, hpn, hpn2, hbl, bools_get, hpl2, hv]
  | false =>
    cases hall : pr.all (okS ⟨t, n, k, ps⟩ tok o) with
    | false =>
      have hder : derP ⟨t, n, k, ps⟩ tok o ⟨pl, pr⟩ = o := by unfold derP; simp only [Int.toNat_natCast, hgD, hall]; rfl
      rw [hall] at k35
      rw [hder, hself]
      simp [Pr.cells, g3, g2, g4, hpn, hpn2, hbl, bools_get, hpl2, hv, k35]
    | true =>
      have hder : derP ⟨t, n, k, ps⟩ tok o ⟨pl, pr⟩ = o.set pl true := by unfold derP; simp only [Int.toNat_natCast, hgD, hall]; rfl
      rw [hall] at k35
      rw [hder]
      have hcn := cntF_set o pl hpl2 hv
      have hne : o.set pl true ≠ o := fun h => by rw [h] at hcn; omega
      simp [Pr.cells, g3, g2, g4, hpn, hpn1, hpn2, hbl, bools_get, hpl2, hv, k35, setH, hlk, replaceAt_one _ hpl3, bools_set, hne]
      exact htk _
end Go.Proofs.Ytikedgpcgacgoaa
