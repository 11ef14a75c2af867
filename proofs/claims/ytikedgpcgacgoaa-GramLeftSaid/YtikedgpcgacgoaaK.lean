import Derived.Test.YtikedgpcgacgoaaJ
set_option linter.unusedSimpArgs false
set_option linter.unusedVariables false
namespace Go.Proofs.Ytikedgpcgacgoaa
open Go Go.Hm

structure RH (g : Gm) (H : Heap) (b : Nat) (o : List Bool) : Prop where
  g0 : H[b]? = some (.cells g.cells)
  g2 : H[b + 1]? = some (.cells (bools o))
  g3 : H[b + 2]? = some (.cells [.hs (b + 1) g.n.toNat 0 g.n.toNat 1])
theorem RH.set {g : Gm} {H : Heap} {b : Nat} {o o2 : List Bool} (hd : RH g H b o) : RH g (H.set (b + 1) (.cells (bools o2))) b o2 := by
  obtain ⟨g0, g2, g3⟩ := hd
  have hl := get_ltG g2
  exact ⟨by rw [List.getElem?_set_ne (by omega)]; exact g0, by rw [List.getElem?_set_self hl], by rw [List.getElem?_set_ne (by omega)]; exact g3⟩
theorem set_self {H : Heap} {b : Nat} {x : HB} (h : H[b]? = some x) : H.set b x = H := by
  have hl := get_ltG h
  rw [List.getElem?_eq_getElem hl] at h
  have h := Option.some.inj h
  rw [← h]
  exact List.set_getElem_self hl
theorem rchS_len (g : Gm) (o : List Bool) (s : Int) : (rchS g o s).length = o.length := by
  unfold rchS
  repeat' split
  all_goals simp
theorem fold_take {α : Type} (st : List Bool → α → List Bool) (l : List α) (o : List Bool) (i : Nat) (h : i < l.length) : (l.take (i + 1)).foldl st o = st ((l.take i).foldl st o) l[i] := rnd_take st l o i h
set_option maxRecDepth 20000 in
theorem c41_code {lk lim : Nat} {H : Heap} {g : Gm} {b : Nat} {o : List Bool} (hd : RH g H b o) (hlk : lk ≤ b + 1) (ok : GOk g) (ho : o.length = g.n.toNat) (p : Pr) (pok : POk g p) :
    callW X A lk lim 41 [.agg p.cells, .hp (b + 2) 1 0, .hp b 4 0] H = some (Bo (decide (rchP g o p ≠ o)), H.set (b + 1) (.cells (bools (rchP g o p)))) := by
  refine wb_callB [3] rfl A41 rfl rfl ?_
  unfold t41B
  have hself := set_self hd.g2
  have hlt := get_ltG hd.g2
  obtain ⟨t, n, k, ps⟩ := g
  have n1 := ok.n1
  have n2 := ok.n2
  have t1 := ok.t1
  have t2 := ok.t2
  simp only at n1 n2 t1 t2
  obtain ⟨n, rfl⟩ := Int.eq_ofNat_of_zero_le (by omega : 0 ≤ n)
  simp only [Int.toNat_natCast] at ho
  obtain ⟨pl, pr⟩ := p
  obtain ⟨q1, q2, q3, q4⟩ := pok
  simp only at q1 q2 q3 q4
  obtain ⟨pl, rfl⟩ := Int.eq_ofNat_of_zero_le q2
  have hpn : pl < n := by omega
  have hpl2 : pl < o.length := by omega
  obtain ⟨v, hv⟩ : ∃ v, o[pl] = v := ⟨_, rfl⟩
  have hbl : (bools o).length = n := by rw [bools_len]; exact ho
  have hgD : o.getD pl false = v := by rw [getD_of hpl2, hv]
  have g0 := hd.g0
  have g2 := hd.g2
  have g3 := hd.g3
  simp only [Gm.cells] at g0
  simp only [Int.toNat_natCast] at g3
  cases v with
  | false =>
    have hr : rchP ⟨t, n, k, ps⟩ o ⟨pl, pr⟩ = o := by unfold rchP; simp only [Int.toNat_natCast, hgD]; rfl
    rw [hr, hself]
    simp [Pr.cells, g3, g2, hpn, hbl, bools_get, hpl2, hv]
  | true =>
    have hr : rchP ⟨t, n, k, ps⟩ o ⟨pl, pr⟩ = pr.foldl (rchS ⟨t, n, k, ps⟩) o := by unfold rchP; simp only [Int.toNat_natCast, hgD]; rfl
    rw [hr]
    obtain ⟨cR, hcR⟩ : ∃ c, decide (pr.foldl (rchS ⟨t, n, k, ps⟩) o ≠ o) = c := ⟨_, rfl⟩
    rw [hcR]
    simp [Pr.cells, g3, g2, hpn, hbl, bools_get, hpl2, hv]
    refine wb_loop (σ := Nat × List Bool × Bool) (fun s => [(1, .hp (b + 2) 1 0), (2, .hp b 4 0), (4, Bo s.2.2), (14, .sl pr.length (ints pr)), (15, I pr.length), (16, I s.1)]) (fun s => H.set (b + 1) (.cells (bools s.2.1)))
      (fun s => s.1 ≤ pr.length ∧ s.2.1 = (pr.take s.1).foldl (rchS ⟨t, n, k, ps⟩) o ∧ s.2.2 = decide (s.2.1 ≠ o)) (fun s => pr.length - s.1) ?_ (0, o, false) ⟨Nat.zero_le _, rfl, by simp⟩ (by simp) (by rw [hself])
    rintro ⟨m, o2, mo⟩ ⟨hm, ho2, hmo⟩
    simp only at hm ho2 hmo
    unfold t41L1
    have w1 : IntKind.i64.wrap ((m : Int) + 1) = (m : Int) + 1 := wrap64 (by omega) (by omega)
    by_cases hml : m < pr.length
    case neg =>
      obtain rfl : m = pr.length := by omega
      rw [List.take_of_length_le (Nat.le_refl _)] at ho2
      have hmo2 : mo = cR := by rw [hmo, ho2]; exact hcR
      rw [← ho2, ← hmo2]
      have htk := take_setG H (b + 1) (.cells (bools o2))
      simp [htk]
    obtain ⟨x, hx⟩ : ∃ x, pr[m] = x := ⟨_, rfl⟩
    obtain ⟨x1, x2⟩ := q4 x (hx ▸ List.getElem_mem hml)
    have hnext := fold_take (rchS ⟨t, n, k, ps⟩) pr o m hml
    rw [← ho2, hx] at hnext
    have hlen2 : o2.length = n := by
      rw [ho2]
      have : ∀ (l : List Int) (q : List Bool), (l.foldl (rchS ⟨t, n, k, ps⟩) q).length = q.length := by
        intro l
        induction l with
        | nil => intro q; rfl
        | cons a l ih => intro q; simp only [List.foldl_cons]; rw [ih]; exact rchS_len _ _ _
      rw [this]; exact ho
    have hle := rnd_le (fun s => rchS_grows ⟨t, n, k, ps⟩ s) (pr.take m) o
    have hle : cntF o2 ≤ cntF o := by rw [ho2]; exact hle
    obtain ⟨e0, e2, e3⟩ := (hd.set (o2 := o2))
    simp only [Gm.cells] at e0
    simp only [Int.toNat_natCast] at e3
    have hbl2 : (bools o2).length = n := by rw [bools_len]; exact hlen2
    by_cases hxt : x < t
    · have hr : rchS ⟨t, n, k, ps⟩ o2 x = o2 := by unfold rchS; rw [if_pos hxt]
      rw [hr] at hnext
      simp [hml, hx, e0, hxt, w1]
      rw [rnd_nrm]
      exact ⟨(m + 1, o2, mo), ⟨by simp only; omega, hnext.symm, by simpa using hmo⟩, by simp only; omega, by simp, rfl⟩
    · have hxn : (x - t).toNat < o2.length := by omega
      have hxn3 : (x - t).toNat < n := by omega
      obtain ⟨u, hu⟩ : ∃ u, o2[(x - t).toNat] = u := ⟨_, rfl⟩
      have w3 : IntKind.i64.wrap (x - t) = x - t := wrap64 (by omega) (by omega)
      have y1 : 0 ≤ x - t := by omega
      have y0 : t ≤ x := by omega
      have y2 : x - t < n := by omega
      have hpl3 : (x - t).toNat < (bools o2).length := by rw [hbl2]; exact hxn3
      have hgD2 : o2.getD (x - t).toNat false = u := by rw [getD_of hxn, hu]
      cases u with
      | true =>
        have hr : rchS ⟨t, n, k, ps⟩ o2 x = o2 := by unfold rchS; rw [if_neg hxt]; simp only [hgD2, if_true]
        rw [hr] at hnext
        simp [hml, hx, e0, e2, e3, hxt, w1, w3, y0, y1, y2, hbl2, bools_get, hxn, hu]
        rw [rnd_nrm]
        exact ⟨(m + 1, o2, mo), ⟨by simp only; omega, hnext.symm, by simpa using hmo⟩, by simp only; omega, by simp, rfl⟩
      | false =>
        have hr : rchS ⟨t, n, k, ps⟩ o2 x = o2.set (x - t).toNat true := by unfold rchS; rw [if_neg hxt]; simp only [hgD2]; rfl
        rw [hr] at hnext
        have hcn := cntF_set o2 _ hxn hu
        have hne : o2.set (x - t).toNat true ≠ o := fun h => by rw [h] at hcn; omega
        have y3 : (x - t).toNat + 1 ≤ n := hxn3
        simp [hml, hx, e0, e2, e3, hxt, w1, w3, y0, y1, y2, y3, hbl2, bools_get, hxn, hu, setH, hlk, replaceAt_one _ hpl3, bools_set]
        rw [rnd_nrm]
        exact ⟨(m + 1, o2.set (x - t).toNat true, true), ⟨by simp only; omega, hnext.symm, by simp [hne]⟩, by simp only; omega, by simp, by simp⟩
end Go.Proofs.Ytikedgpcgacgoaa
