import Derived.Test.YtoiolinclpiohaaD
set_option linter.unusedSimpArgs false
set_option linter.unusedVariables false
namespace Go.Proofs.Ytoiolinclpiohaa
open Go Go.Hm

/-- A scan. -/
structure Sc where
  a : Int
  k : Int
  st : Int
  r : Int
  f : Int
  t : Int
  e : Int
  bg : Bool
  dn : Bool
def Sc.cells (s : Sc) : List AV := [I s.a, I s.k, I s.st, I s.r, I s.f, I s.t, I s.e, Bo s.bg, Bo s.dn]
def nxA (nx : List Int) (st : Int) (b : UInt8) : Int := nx.getD (256 * st.toNat + b.toNat) 0
def rlA (rl : List Int) (st : Int) : Int := rl.getD st.toNat 0
/-- A table that may be. -/
structure TOk (nx rl : List Int) : Prop where
  one : 1 ≤ rl.length
  most : rl.length ≤ 1000000
  len : nx.length = 256 * rl.length
  nxb : ∀ x ∈ nx, -1 ≤ x ∧ x < rl.length
  rlb : ∀ x ∈ rl, -1 ≤ x ∧ x < 1000000
abbrev Dv (nx rl : List Int) : List AV := [.sl nx.length (ints nx), .sl rl.length (ints rl)]
def lookM (nx rl : List Int) (l : List UInt8) (s : Sc) : Sc :=
  if s.a + s.k = l.length then { s with k := s.k + 1, e := s.a + s.k + 1, dn := true }
  else if nxA nx s.st (l.getD (s.a + s.k).toNat 0) < 0 then { s with k := s.k + 1, e := s.a + s.k + 1, st := nxA nx s.st (l.getD (s.a + s.k).toNat 0), dn := true }
  else if 0 ≤ rlA rl (nxA nx s.st (l.getD (s.a + s.k).toNat 0)) then { s with k := s.k + 1, e := s.a + s.k + 1, st := nxA nx s.st (l.getD (s.a + s.k).toNat 0), r := rlA rl (nxA nx s.st (l.getD (s.a + s.k).toNat 0)), t := s.a + s.k + 1 }
  else { s with k := s.k + 1, e := s.a + s.k + 1, st := nxA nx s.st (l.getD (s.a + s.k).toNat 0) }

theorem look_code {lk lim : Nat} {H : Heap} {nx rl : List Int} {l : List UInt8} {s : Sc} (ok : TOk nx rl) (ha : 0 ≤ s.a) (hk : 0 ≤ s.k) (hl : s.a + s.k ≤ l.length) (hm : l.length ≤ 1000000000000000) (hs : 0 ≤ s.st) (hs2 : s.st < rl.length) :
    callW X A lk lim 38 [.agg s.cells, .agg (Dv nx rl), Sg l] H = some (.agg (lookM nx rl l s).cells, H) := by
  obtain ⟨a, k, st, r, f, t, e, bg, dn⟩ := s
  simp only at ha hk hl hs hs2
  obtain ⟨a, rfl⟩ := Int.eq_ofNat_of_zero_le ha
  obtain ⟨k, rfl⟩ := Int.eq_ofNat_of_zero_le hk
  obtain ⟨st, rfl⟩ := Int.eq_ofNat_of_zero_le hs
  refine wb_callB [3, 4, 6] rfl A38 rfl rfl ?_
  unfold t38B
  have w1 : IntKind.i64.wrap ((a : Int) + k) = (a : Int) + k := wrap64 (by omega) (by omega)
  have w2 : IntKind.i64.wrap ((k : Int) + 1) = (k : Int) + 1 := wrap64 (by omega) (by omega)
  have w3 : IntKind.i64.wrap ((a : Int) + k + 1) = (a : Int) + k + 1 := wrap64 (by omega) (by omega)
  have w4 : ((a : Int) + k).toNat = a + k := by omega
  simp [Sc.cells, replaceAt, w1, w2, w3]
  refine wb_if (a + k = l.length) (by simp [Sg_size]; rw [Bool.eq_iff_iff]; simp; omega) (fun he => ?_) (fun hne => ?_)
  · have he' : (a : Int) + k = l.length := by omega
    simp [replaceAt, lookM, he']
  have hlt : a + k < l.length := by omega
  have hne' : ¬ ((a : Int) + k = l.length) := by omega
  obtain ⟨b, hb⟩ : ∃ b, l[a + k] = b := ⟨_, rfl⟩
  have hb256 : b.toNat < 256 := b.toNat_lt
  have hst : st < rl.length := by omega
  have hix : 256 * st + b.toNat < nx.length := by rw [ok.len]; omega
  obtain ⟨v, hv⟩ : ∃ v, nx[256 * st + b.toNat] = v := ⟨_, rfl⟩
  have hvb := ok.nxb v (hv ▸ List.getElem_mem hix)
  have w5 : IntKind.i64.wrap (256 * (st : Int)) = 256 * (st : Int) := wrap64 (by omega) (by have := ok.most; omega)
  have w6 : IntKind.i64.wrap (b.toNat : Int) = b.toNat := wrap64 (by omega) (by omega)
  have w7 : IntKind.i64.wrap (256 * (st : Int) + b.toNat) = 256 * (st : Int) + b.toNat := wrap64 (by omega) (by have := ok.most; omega)
  have w8 : (256 * (st : Int) + b.toNat).toNat = 256 * st + b.toNat := by omega
  have w9 : 0 ≤ 256 * (st : Int) + b.toNat := by omega
  have w10 : 256 * (st : Int) + b.toNat < nx.length := by omega
  have w11 : 0 ≤ (a : Int) + k := by omega
  have hn : nxA nx st (l.getD ((a : Int) + k).toNat 0) = v := by
    simp [nxA, w4, hlt, hb, hix, hv]
  simp [replaceAt, Sg_get, w4, hlt, hb, w5, w6, w7, w8, w9, w10, w11, hix, hv]
  refine wb_if (v < 0) (by simp) (fun hv0 => ?_) (fun hv0 => ?_)
  · have hL : lookM nx rl l ⟨a, k, st, r, f, t, e, bg, dn⟩ = ⟨a, k + 1, v, r, f, t, a + k + 1, bg, true⟩ := by
      simp only [lookM, hn, if_neg hne', if_pos hv0]
    rw [hL]
    simp [replaceAt]
  obtain ⟨v, rfl⟩ := Int.eq_ofNat_of_zero_le (by omega : 0 ≤ v)
  have hvr : v < rl.length := by omega
  obtain ⟨q, hq⟩ : ∃ q, rl[v] = q := ⟨_, rfl⟩
  have hqq : rlA rl v = q := by simp [rlA, hvr, hq]
  simp [hvr, hq]
  refine wb_if (0 ≤ q) (by simp) (fun hq0 => ?_) (fun hq0 => ?_)
  · have hL : lookM nx rl l ⟨a, k, st, r, f, t, e, bg, dn⟩ = ⟨a, k + 1, v, q, f, a + k + 1, a + k + 1, bg, dn⟩ := by
      simp only [lookM, hn, if_neg hne', if_neg hv0, hqq, if_pos hq0]
    rw [hL]
    simp [replaceAt, w3]
  · have hL : lookM nx rl l ⟨a, k, st, r, f, t, e, bg, dn⟩ = ⟨a, k + 1, v, r, f, t, a + k + 1, bg, dn⟩ := by
      simp only [lookM, hn, if_neg hne', if_neg hv0, hqq, if_neg hq0]
    rw [hL]
    simp [replaceAt]
end Go.Proofs.Ytoiolinclpiohaa
