import Derived.Test.YtoiolinclpiohaaE
set_option linter.unusedSimpArgs false
set_option linter.unusedVariables false
namespace Go.Proofs.Ytoiolinclpiohaa
open Go Go.Hm

theorem begin_code {lk lim : Nat} {H : Heap} (a : Int) : callW X A lk lim 39 [I a] H = some (.agg (Sc.cells ⟨a, 0, 0, -1, a, IntKind.i64.wrap (a + 1), 0, true, false⟩), H) := by
  refine wb_callB [2] rfl A39 rfl rfl ?_
  unfold t39B
  simp [replaceAt, Sc.cells]

/-- From a place on: the rule, the end, how far it looked. -/
def goM (nx rl : List Int) : List UInt8 → Int → Int → Int → Int → Int × Int × Int
  | [], i, _, r, t => (r, t, i + 1)
  | b :: l, i, st, r, t => if nxA nx st b < 0 then (r, t, i + 1) else if 0 ≤ rlA rl (nxA nx st b) then goM nx rl l (i + 1) (nxA nx st b) (rlA rl (nxA nx st b)) (i + 1) else goM nx rl l (i + 1) (nxA nx st b) r t
structure SInv (nx rl : List Int) (l : List UInt8) (a : Nat) (fin : Int × Int × Int) (s : Sc) : Prop where
  ia : s.a = a
  if_ : s.f = a
  idn : s.dn = false
  ik : 0 ≤ s.k
  ile : s.a + s.k ≤ l.length
  ist : 0 ≤ s.st
  ist2 : s.st < rl.length
  igo : goM nx rl (l.drop (s.a + s.k).toNat) (s.a + s.k) s.st s.r s.t = fin
theorem nxA_lt {nx rl : List Int} (ok : TOk nx rl) (st : Int) (b : UInt8) : nxA nx st b < rl.length := by
  unfold nxA
  have h0 := ok.one
  rw [List.getD_eq_getElem?_getD]
  by_cases h : 256 * st.toNat + b.toNat < nx.length
  · rw [List.getElem?_eq_getElem h]
    exact (ok.nxb _ (List.getElem_mem h)).2
  · rw [List.getElem?_eq_none (by omega)]
    simp; omega
theorem look_step {nx rl : List Int} {l : List UInt8} {a : Nat} {fin : Int × Int × Int} {s : Sc} (ok : TOk nx rl) (h : SInv nx rl l a fin s) :
    ((lookM nx rl l s).dn = true ∧ ((lookM nx rl l s).r, (lookM nx rl l s).t, (lookM nx rl l s).e) = fin ∧ (lookM nx rl l s).f = a ∧ (lookM nx rl l s).a = s.a ∧ (lookM nx rl l s).k = s.k + 1) ∨
    (SInv nx rl l a fin (lookM nx rl l s) ∧ s.a + s.k < l.length ∧ (lookM nx rl l s).k = s.k + 1) := by
  obtain ⟨h1, h2, h3, h4, h5, h6, h7, h8⟩ := h
  obtain ⟨sa, k, st, r, f, t, e, bg, dn⟩ := s
  simp only at h1 h2 h3 h4 h5 h6 h7 h8
  subst h1; subst h2; subst h3
  by_cases he : (a : Int) + k = l.length
  · left
    rw [List.drop_eq_nil_of_le (by omega)] at h8
    simp only [goM] at h8
    simp [lookM, he]
    rw [← h8, he]
  · have hlt : ((a : Int) + k).toNat < l.length := by omega
    rw [List.drop_eq_getElem_cons hlt] at h8
    have hg : l.getD ((a : Int) + k).toNat 0 = l[((a : Int) + k).toNat] := by simp [hlt]
    generalize l[((a : Int) + k).toNat] = b at h8 hg
    have hv := nxA_lt ok st b
    have e1 : ((a : Int) + k).toNat + 1 = ((a : Int) + (k + 1)).toNat := by omega
    have e2 : (a : Int) + k + 1 = (a : Int) + (k + 1) := by omega
    simp only [goM, e1, e2] at h8
    unfold lookM
    simp only [hg, if_neg he, e2]
    by_cases hv0 : nxA nx st b < 0
    · left
      rw [if_pos hv0] at h8
      rw [if_pos hv0]
      exact ⟨rfl, h8, rfl, rfl, rfl⟩
    · right
      rw [if_neg hv0] at h8
      rw [if_neg hv0]
      by_cases hr : 0 ≤ rlA rl (nxA nx st b)
      · rw [if_pos hr] at h8
        rw [if_pos hr]
        exact ⟨⟨rfl, rfl, rfl, by simp only; omega, by simp only; omega, by simp only; omega, hv, h8⟩, by omega, rfl⟩
      · rw [if_neg hr] at h8
        rw [if_neg hr]
        exact ⟨⟨rfl, rfl, rfl, by simp only; omega, by simp only; omega, by simp only; omega, hv, h8⟩, by omega, rfl⟩

def nextM (nx rl : List Int) (l : List UInt8) (a : Nat) : Int × Int × Int := goM nx rl (l.drop a) a 0 (-1) (a + 1)
def lexC (a : Nat) (x : Int × Int × Int) : List AV := [I x.1, I a, I x.2.1, I x.2.2]
theorem next_code {lk lim : Nat} {H : Heap} {nx rl : List Int} {l : List UInt8} {a : Nat} (ok : TOk nx rl) (ha : a ≤ l.length) (hm : l.length ≤ 1000000000000000) :
    callW X A lk lim 34 [.agg (Dv nx rl), Sg l, I a] H = some (.agg (lexC a (nextM nx rl l a)), H) := by
  refine wb_callB [3, 6, 7] rfl A34 rfl rfl ?_
  unfold t34B
  have hb := begin_code (lk := lk) (lim := H.length) (H := H) a
  rw [wrap64 (by omega) (by omega)] at hb
  simp [hb, replaceAt, Sc.cells]
  refine wb_loop (σ := Sc) (fun s => [(1, Sg l), (3, .box (Dv nx rl)), (6, .box [I 0, I 0, I 0, I 0]), (7, .box s.cells)])
    (fun _ => H) (SInv nx rl l a (nextM nx rl l a)) (fun s => (l.length - (s.a + s.k)).toNat) ?_ ⟨a, 0, 0, -1, a, a + 1, 0, true, false⟩
    ⟨rfl, rfl, rfl, by simp, by simp only; omega, by simp, by simp only; have := ok.one; omega, by simp [nextM]⟩ (by simp [Sc.cells]) rfl
  intro s hs
  have hlk := look_code (lk := lk) (lim := H.length) (H := H) ok (by rw [hs.ia]; omega) hs.ik hs.ile hm hs.ist hs.ist2
  unfold t34L1
  simp [Sc.cells] at hlk
  simp [Sc.cells, hlk, replaceAt]
  rcases look_step ok hs with ⟨d1, d2, d3, _, _⟩ | ⟨i1, i2, i3⟩
  · rw [← d2]
    simp [d1, d3, replaceAt, lexC]
  · have hdn := i1.idn
    simp [hdn, rnd_nrm]
    refine ⟨lookM nx rl l s, i1, ?_, rfl, rfl, rfl, rfl, rfl, rfl, rfl, rfl, hdn⟩
    have e := i1.ia
    have e2 := hs.ia
    omega
end Go.Proofs.Ytoiolinclpiohaa
