import Derived.Test.YtoiolinclpiohaaU
set_option linter.unusedSimpArgs false
set_option linter.unusedVariables false
namespace Go.Proofs.Ytoiolinclpiohaa
open Go Go.Hm

/-! ### The document's scanner in memory -/
def rB (nx rl : List Int) (s : Sc) : HB := .cells [.sl nx.length (ints nx), .sl rl.length (ints rl), Bo s.bg, Bo s.dn, I s.a, I s.k, I s.st, I s.r, I s.f, I s.t, I 0]
set_option maxRecDepth 20000 in
theorem rnew_code {lk lim : Nat} {H : Heap} (nx rl : List Int) (h1 : nx.length ≤ 1000000) (h2 : rl.length ≤ 1000000) : callW X A lk lim 28 [.agg (Dv nx rl)] H = some (if chk nx rl = true then (.tup [pS H.length, I 0], H ++ [rB nx rl scZ]) else (.tup [.val (.pointer none), I 2], H)) := by
  have kc := check_code (lk := lk) (lim := lim) (H := H) nx rl h1 h2
  refine wb_callB [1] rfl A28 rfl rfl ?_
  unfold t28B
  by_cases c3 : chk nx rl = true
  case neg =>
    rw [chkE_neg c3] at kc
    rw [if_neg c3]
    generalize callW X A = C at kc ⊢
    simp [kc]
  rw [chkE_pos c3] at kc
  rw [if_pos c3]
  generalize callW X A = C at kc ⊢
  simp [kc, replaceAt, rB, scZ]
set_option maxRecDepth 20000 in
theorem rbegin_code {lk lim : Nat} {H : Heap} {nx rl : List Int} {s : Sc} {b : Nat} (hb : H[b]? = some (rB nx rl s)) (hlk : lk ≤ b) (a : Int) : callW X A lk lim 29 [pS b, I a] H = some (if a < 0 then (I 2, H) else (I 0, H.set b (rB nx rl (sc0 a)))) := by
  refine wb_callB [] rfl A29 rfl rfl ?_
  unfold t29B
  have hl := get_lt hb
  unfold rB at hb
  by_cases h : a < 0
  · simp [h]
  · simp [h, hb, setH, hlk, replaceAt, rB, sc0]
    exact take_set _ _ _
theorem rext_code {lk lim : Nat} {H : Heap} {nx rl : List Int} {s : Sc} {b : Nat} (hb : H[b]? = some (rB nx rl s)) : callW X A lk lim 32 [pS b] H = some (I (IntKind.i64.wrap (s.a + s.k)), H) := by
  refine wb_callB [] rfl A32 rfl rfl ?_
  unfold t32B
  unfold rB at hb
  simp [hb]
def rlexV (s : Sc) : AV := if s.dn = true then .tup [.agg [I s.r, I s.f, I s.t, I (IntKind.i64.wrap (s.a + s.k))], Bo true] else .tup [.agg zL, Bo false]
set_option maxRecDepth 20000 in
theorem rlex_code {lk lim : Nat} {H : Heap} {nx rl : List Int} {s : Sc} {b : Nat} (hb : H[b]? = some (rB nx rl s)) : callW X A lk lim 31 [pS b] H = some (rlexV s, H) := by
  refine wb_callB [2, 4] rfl A31 rfl rfl ?_
  unfold t31B
  unfold rB at hb
  unfold rlexV
  cases hd : s.dn with
  | true =>
    rw [hd] at hb
    simp [-wi_stL, -wi_stLD, hb]
    rw [wi_stL]
    simp [-wi_stL, -wi_stLD, replaceAt, hb]
    rw [wi_stLD]
    simp [-wi_stL, -wi_stLD, replaceAt, hb]
    rw [wi_stL]
    simp [replaceAt]
  | false =>
    rw [hd] at hb
    simp [-wi_stL, hb]
    rw [wi_stL]
    simp [replaceAt, zL]

/-! ### A step that fails -/
def stpE (l : List UInt8) (s : Sc) : Int := if s.bg = false ∨ s.dn = true then 9 else if (l.length : Int) ≤ s.a ∨ (l.length : Int) < s.a + s.k then 2 else 0
set_option maxRecDepth 20000 in
theorem hstep_err {lk lim : Nat} {H : Heap} {nx rl : List Int} {s : Sc} {b : Nat} {l : List UInt8} (hb : H[b]? = some (scB nx rl s)) (hw : IntKind.i64.wrap (s.a + s.k) = s.a + s.k) (he : stpE l s ≠ 0) :
    callW X A lk lim 23 [pS b, Sg l] H = some (.tup [Bo false, I (stpE l s)], H) := by
  refine wb_callB [] rfl A23 rfl rfl ?_
  unfold t23B
  unfold scB at hb
  unfold stpE at he ⊢
  cases h1 : s.bg with
  | false =>
    rw [h1] at hb
    simp [eqPtr, isPtr, hb]
  | true =>
    cases h2 : s.dn with
    | true =>
      rw [h1, h2] at hb
      simp [eqPtr, isPtr, hb]
    | false =>
      rw [h1, h2] at hb he
      simp only [Bool.true_eq_false, Bool.false_eq_true, or_self, if_false] at he ⊢
      by_cases h3 : (l.length : Int) ≤ s.a
      · simp [eqPtr, isPtr, hb, h3, Sg_size]
      · by_cases h4 : (l.length : Int) < s.a + s.k
        · simp [eqPtr, isPtr, hb, h3, h4, Sg_size, hw]
        · simp [h3, h4] at he
set_option maxRecDepth 20000 in
theorem rstep_err {lk lim : Nat} {H : Heap} {nx rl : List Int} {s : Sc} {b : Nat} {l : List UInt8} (hb : H[b]? = some (rB nx rl s)) (hw : IntKind.i64.wrap (s.a + s.k) = s.a + s.k) (he : stpE l s ≠ 0) :
    callW X A lk lim 30 [pS b, Sg l] H = some (.tup [Bo false, I (stpE l s)], H) := by
  refine wb_callB [] rfl A30 rfl rfl ?_
  unfold t30B
  unfold rB at hb
  unfold stpE at he ⊢
  cases h1 : s.bg with
  | false =>
    rw [h1] at hb
    simp [hb]
  | true =>
    cases h2 : s.dn with
    | true =>
      rw [h1, h2] at hb
      simp [hb]
    | false =>
      rw [h1, h2] at hb he
      simp only [Bool.true_eq_false, Bool.false_eq_true, or_self, if_false] at he ⊢
      by_cases h3 : (l.length : Int) ≤ s.a
      · simp [hb, h3, Sg_size]
      · by_cases h4 : (l.length : Int) < s.a + s.k
        · simp [hb, h3, h4, Sg_size, hw]
        · simp [h3, h4] at he

set_option maxRecDepth 20000 in
theorem rstep_code {lk lim : Nat} {H : Heap} {nx rl : List Int} {s : Sc} {b : Nat} {l : List UInt8} (hb : H[b]? = some (rB nx rl s)) (hlk : lk ≤ b) (ok : TOk nx rl) (h1 : s.bg = true) (h2 : s.dn = false) (ha : 0 ≤ s.a) (ha2 : s.a < l.length) (hk : 0 ≤ s.k) (hl : s.a + s.k ≤ l.length) (hm : l.length ≤ 1000000000000000) (hs : 0 ≤ s.st) (hs2 : s.st < rl.length) :
    callW X A lk lim 30 [pS b, Sg l] H = some (.tup [Bo (lookM nx rl l s).dn, I 0], H.set b (rB nx rl (lookM nx rl l s))) := by
  refine wb_callB [] rfl A30 rfl rfl ?_
  unfold t30B
  have hlt := get_lt hb
  have gs : ∀ x : HB, (H.set b x)[b]? = some x := fun x => by rw [List.getElem?_set_self hlt]
  obtain ⟨a, k, st, r, f, t, e, bg, dn⟩ := s
  simp only at ha ha2 hk hl hs hs2 h1 h2
  subst h1; subst h2
  obtain ⟨a, rfl⟩ := Int.eq_ofNat_of_zero_le ha
  obtain ⟨k, rfl⟩ := Int.eq_ofNat_of_zero_le hk
  obtain ⟨st, rfl⟩ := Int.eq_ofNat_of_zero_le hs
  unfold rB at hb
  simp only at hb
  have w1 : IntKind.i64.wrap ((a : Int) + k) = (a : Int) + k := wrap64 (by omega) (by omega)
  have w2 : IntKind.i64.wrap ((k : Int) + 1) = (k : Int) + 1 := wrap64 (by omega) (by omega)
  have w3 : IntKind.i64.wrap ((a : Int) + k + 1) = (a : Int) + k + 1 := wrap64 (by omega) (by omega)
  have w4 : ((a : Int) + k).toNat = a + k := by omega
  have n1 : ¬ (l.length : Int) ≤ a := by omega
  have n1' : ¬ l.length ≤ a := by omega
  have n2 : ¬ (l.length : Int) < (a : Int) + k := by omega
  by_cases he : a + k = l.length
  · have he' : (a : Int) + k = l.length := by omega
    have hL : lookM nx rl l ⟨a, k, st, r, f, t, e, true, false⟩ = ⟨a, k + 1, st, r, f, t, a + k + 1, true, true⟩ := by
      simp only [lookM, if_pos he']
    rw [hL]
    have hq : ((a : Int) + k == (l.length : Int)) = true := by rw [beq_iff_eq]; omega
    simp [hb, w1, w2, n1, n1', n2, Sg_size, setH, hlk, replaceAt, gs, hq]
    exact take_set _ _ _
  have hlt2 : a + k < l.length := by omega
  have hne' : ¬ ((a : Int) + k = l.length) := by omega
  have hq : ((a : Int) + k == (l.length : Int)) = false := by rw [beq_eq_false_iff_ne]; omega
  obtain ⟨c, hc⟩ : ∃ c, l[a + k] = c := ⟨_, rfl⟩
  have hc256 : c.toNat < 256 := c.toNat_lt
  have hst : st < rl.length := by omega
  have hix : 256 * st + c.toNat < nx.length := by rw [ok.len]; omega
  obtain ⟨v, hv⟩ : ∃ v, nx[256 * st + c.toNat] = v := ⟨_, rfl⟩
  have hvb := ok.nxb v (hv ▸ List.getElem_mem hix)
  have w5 : IntKind.i64.wrap (256 * (st : Int)) = 256 * (st : Int) := wrap64 (by omega) (by have := ok.most; omega)
  have w6 : IntKind.i64.wrap (c.toNat : Int) = c.toNat := wrap64 (by omega) (by omega)
  have w7 : IntKind.i64.wrap (256 * (st : Int) + c.toNat) = 256 * (st : Int) + c.toNat := wrap64 (by omega) (by have := ok.most; omega)
  have w8 : (256 * (st : Int) + c.toNat).toNat = 256 * st + c.toNat := by omega
  have w9 : 0 ≤ 256 * (st : Int) + c.toNat := by omega
  have w10 : 256 * (st : Int) + c.toNat < nx.length := by omega
  have w11 : 0 ≤ (a : Int) + k := by omega
  have hn : nxA nx st (l.getD ((a : Int) + k).toNat 0) = v := by
    simp [nxA, w4, hlt2, hc, hix, hv]
  by_cases hv0 : v < 0
  · have hL : lookM nx rl l ⟨a, k, st, r, f, t, e, true, false⟩ = ⟨a, k + 1, v, r, f, t, a + k + 1, true, true⟩ := by
      simp only [lookM, hn, if_neg hne', if_pos hv0]
    rw [hL]
    simp [hb, w1, w2, n1, n1', n2, Sg_size, Sg_get, Sg_ge, w4, hlt2, hc, w5, w6, w7, w8, w9, w10, w11, hix, hv, hv0, setH, hlk, replaceAt, gs, hq]
    exact take_set _ _ _
  obtain ⟨v, rfl⟩ := Int.eq_ofNat_of_zero_le (by omega : 0 ≤ v)
  have hvr : v < rl.length := by omega
  obtain ⟨q, hqv⟩ : ∃ q, rl[v] = q := ⟨_, rfl⟩
  have hqq : rlA rl v = q := by simp [rlA, hvr, hqv]
  by_cases hq0 : 0 ≤ q
  · have hL : lookM nx rl l ⟨a, k, st, r, f, t, e, true, false⟩ = ⟨a, k + 1, v, q, f, a + k + 1, a + k + 1, true, false⟩ := by
      simp only [lookM, hn, if_neg hne', if_neg hv0, hqq, if_pos hq0]
    rw [hL]
    simp [hb, w1, w2, w3, n1, n1', n2, Sg_size, Sg_get, Sg_ge, w4, hlt2, hc, w5, w6, w7, w8, w9, w10, w11, hix, hv, hv0, hvr, hqv, hq0, setH, hlk, replaceAt, gs, hq]
    exact take_set _ _ _
  · have hL : lookM nx rl l ⟨a, k, st, r, f, t, e, true, false⟩ = ⟨a, k + 1, v, r, f, t, a + k + 1, true, false⟩ := by
      simp only [lookM, hn, if_neg hne', if_neg hv0, hqq, if_neg hq0]
    rw [hL]
    simp [hb, w1, w2, w3, n1, n1', n2, Sg_size, Sg_get, Sg_ge, w4, hlt2, hc, w5, w6, w7, w8, w9, w10, w11, hix, hv, hv0, hvr, hqv, hq0, setH, hlk, replaceAt, gs, hq]
    exact take_set _ _ _
end Go.Proofs.Ytoiolinclpiohaa
