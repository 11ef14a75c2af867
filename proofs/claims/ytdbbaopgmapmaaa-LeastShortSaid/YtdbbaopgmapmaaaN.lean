import Derived.Test.YtdbbaopgmapmaaaM
set_option linter.unusedSimpArgs false
set_option linter.unusedVariables false
namespace Go.Proofs.Ytdbbaopgmapmaaa
open Go Go.Hm
/-! ### slices.Reverse of bytes -/
abbrev Ub (b : UInt8) : AV := .val (.int .u8 (b.toNat : Int))
def bsL (l : List UInt8) : List AV := l.map Ub
theorem bsL_len (l : List UInt8) : (bsL l).length = l.length := by simp [bsL]
theorem bsL_get (l : List UInt8) (i : Nat) : (bsL l)[i]? = l[i]?.map Ub := by simp [bsL]
theorem bsL_ge (l : List UInt8) (i : Nat) (h : i < (bsL l).length) : (bsL l)[i]'h = Ub (l[i]'(by rwa [bsL_len] at h)) := by simp [bsL]
theorem bsL_upd (l : List UInt8) (i : Nat) (v : UInt8) (h : i < l.length) : replaceAt (bsL l) i [Ub v] = bsL (l.set i v) := by
  rw [replaceAt_one _ (by rw [bsL_len]; exact h)]; simp [bsL, List.map_set]
structure RevI (l c : List UInt8) (i : Nat) : Prop where
  len : c.length = l.length
  at_ : ∀ k (h : k < l.length), c[k]? = if k < i ∨ l.length - 1 - i < k then l[l.length - 1 - k]? else l[k]?
theorem RevI.next {l c : List UInt8} {i : Nat} (h : RevI l c i) (hi : i < l.length - 1 - i) : RevI l ((c.set i (l[l.length - 1 - i]'(by omega))).set (l.length - 1 - i) (l[i]'(by omega))) (i + 1) := by
  obtain ⟨h1, h2⟩ := h
  refine ⟨by simp [h1], fun k hk => ?_⟩
  rw [List.getElem?_set, List.getElem?_set]
  by_cases ha : l.length - 1 - i = k
  · have hb : l.length - 1 - k = i := by omega
    have e : l.length - 1 - (i + 1) < k := by omega
    rw [if_pos ha, if_pos (by simp [h1]; omega), if_pos (.inr e), hb, List.getElem?_eq_getElem (by omega)]
  · rw [if_neg ha]
    by_cases hb : i = k
    · rw [if_pos hb, if_pos (by omega), if_pos (.inl (by omega)), ← hb, List.getElem?_eq_getElem (by omega)]
    · rw [if_neg hb, h2 k hk]
      by_cases hc : k < i ∨ l.length - 1 - i < k
      · rw [if_pos hc, if_pos (by omega)]
      · rw [if_neg hc, if_neg (by omega)]
theorem RevI.fin {l c : List UInt8} {i : Nat} (h : RevI l c i) (hi : l.length ≤ 2 * i + 1) : c = l.reverse := by
  obtain ⟨h1, h2⟩ := h
  refine List.ext_getElem? fun k => ?_
  by_cases hk : k < l.length
  · rw [h2 k hk, List.getElem?_reverse hk]
    by_cases hc : k < i ∨ l.length - 1 - i < k
    · rw [if_pos hc]
    · rw [if_neg hc]
      have : k = l.length - 1 - k := by omega
      rw [← this]
  · rw [List.getElem?_eq_none (by omega), List.getElem?_eq_none (by simp; omega)]
theorem rev_nil {lk lim : Nat} {H : Heap} : callW X A lk lim 59 [.e0] H = some (.tup [], H) := by
  refine wb_callB [] rfl A59 rfl rfl ?_
  unfold t59B
  have w : IntKind.i64.wrap (-1) = -1 := wrap64 (by omega) (by omega)
  simp [w]
  refine wb_loop (σ := Unit) (fun _ => [(0, .e0), (2, I 0), (3, I (-1))]) (fun _ => H) (fun _ => True) (fun _ => 0) ?_ () trivial (by simp) rfl
  intro _ _
  unfold t59L1
  simp
set_option maxRecDepth 20000 in
theorem rev_code {lk lim : Nat} {H : Heap} {b : Nat} {l : List UInt8} (hb : H[b]? = some (.cells (bsL l))) (hlk : lk ≤ b) (hl : l.length ≤ 1000000) :
    callW X A lk lim 59 [.hs b l.length 0 l.length 1] H = some (.tup [], H.set b (.cells (bsL l.reverse))) := by
  have hbl : b < H.length := by
    rcases Nat.lt_or_ge b H.length with h | h
    · exact h
    · rw [List.getElem?_eq_none h] at hb; cases hb
  refine wb_callB [] rfl A59 rfl rfl ?_
  unfold t59B
  have w0 : IntKind.i64.wrap ((l.length : Int) - 1) = (l.length : Int) - 1 := wrap64 (by omega) (by omega)
  simp [w0]
  let hv : AV := .hs b l.length 0 l.length 1
  refine wb_loop (σ := Nat × List UInt8) (fun s => [(0, hv), (2, I s.1), (3, I ((l.length : Int) - 1 - s.1))]) (fun s => H.set b (.cells (bsL s.2)))
    (fun s => RevI l s.2 s.1 ∧ 2 * s.1 ≤ l.length + 1) (fun s => l.length - s.1) ?_ (0, l) ⟨⟨rfl, fun k hk => by rw [if_neg (by omega)]⟩, by simp⟩ (by simp [hv]) ?_
  case refine_2 =>
    have hb2 : H[b] = .cells (bsL l) := by rw [List.getElem?_eq_getElem hbl] at hb; exact Option.some.inj hb
    simp only
    rw [← hb2, List.set_getElem_self]
  rintro ⟨i, c⟩ ⟨hc, hi⟩
  simp only at hc hi
  unfold t59L1
  have hcl := hc.len
  have g0 : (H.set b (.cells (bsL c)))[b]? = some (.cells (bsL c)) := by rw [List.getElem?_set_self hbl]
  by_cases hlt : i < l.length - 1 - i
  · have hI : (i : Int) < (l.length : Int) - 1 - i := by omega
    have w1 : IntKind.i64.wrap ((i : Int) + 1) = (i : Int) + 1 := wrap64 (by omega) (by omega)
    have w2 : IntKind.i64.wrap ((l.length : Int) - 1 - i - 1) = (l.length : Int) - 1 - ((i + 1 : Nat) : Int) := by rw [wrap64 (by omega) (by omega)]; omega
    obtain ⟨j, hj⟩ : ∃ j : Nat, l.length - 1 - i = j := ⟨_, rfl⟩
    have hjI : (l.length : Int) - 1 - i = (j : Int) := by omega
    have hil : i < l.length := by omega
    have hjl : j < l.length := by omega
    obtain ⟨u, hu⟩ : ∃ u, c[i]'(by omega) = u := ⟨_, rfl⟩
    obtain ⟨v, hv2⟩ : ∃ v, c[j]'(by omega) = v := ⟨_, rfl⟩
    have gu : (bsL c)[i]? = some (Ub u) := by rw [bsL_get, List.getElem?_eq_getElem (by omega), hu]; rfl
    have gv : (bsL c)[j]? = some (Ub v) := by rw [bsL_get, List.getElem?_eq_getElem (by omega), hv2]; rfl
    have hnx := hc.next hlt
    rw [hjI] at hI w2
    have ci : c.length = l.length := hcl
    have blen : (bsL c).length = l.length := by rw [bsL_len, hcl]
    simp [-wi_st, -wi_stD, hv, hjI, hI, hil, hjl, g0, blen, bsL_ge, hu, hv2]
    rw [wi_stD]
    have hb1 : lk ≤ b := hlk
    have g1 : (H.set b (.cells (bsL (c.set i v))))[b]? = some (.cells (bsL (c.set i v))) := by rw [List.getElem?_set_self hbl]
    have up1 := bsL_upd c i v (by omega)
    have up2 := bsL_upd (c.set i v) j u (by simp; omega)
    have bl2 : (bsL (c.set i v)).length = l.length := by rw [bsL_len]; simp [hcl]
    have hi1 : i + 1 ≤ l.length := hil
    have hj1 : j + 1 ≤ l.length := hjl
    simp [-wi_st, -wi_stD, hv, hil, hjl, hi1, hj1, g0, blen, setH, hlk, up1]
    rw [wi_stD]
    simp [-wi_st, -wi_stD, -wb_regN, hv, hil, hjl, hi1, hj1, g1, bl2, setH, hlk, up2]
    rw [wb_regN]
    simp [-wb_regN, w1, w2]
    rw [rnd_nrm]
    have eu : u = l[i] := by
      have h := hc.at_ i hil
      rw [if_neg (by omega), List.getElem?_eq_getElem (by omega), List.getElem?_eq_getElem hil] at h
      exact hu.symm.trans (Option.some.inj h)
    have ev : v = l[l.length - 1 - i]'(by omega) := by
      have h := hc.at_ j hjl
      rw [if_neg (by omega), List.getElem?_eq_getElem (by omega), List.getElem?_eq_getElem hjl] at h
      have h3 : c[j]'(by omega) = l[j] := Option.some.inj h
      refine hv2.symm.trans (h3.trans ?_)
      simp only [hj]
    have hnx2 : RevI l ((c.set i v).set j u) (i + 1) := by
      rw [eu, ev]
      have e : ∀ k, l.length - 1 - i = k → RevI l ((c.set i (l[l.length - 1 - i]'(by omega))).set k l[i]) (i + 1) := fun k hk => by subst hk; exact hnx
      exact e j hj
    refine ⟨(i + 1, (c.set i v).set j u), ⟨hnx2, by simp only; omega⟩, by simp only; omega, ?_, rfl⟩
    simp
  · have hI : ¬ (i : Int) < (l.length : Int) - 1 - i := by omega
    have hfin := hc.fin (by omega)
    rw [hfin]
    simp [hv, hI]
    exact List.take_of_length_le (by simp)
end Go.Proofs.Ytdbbaopgmapmaaa
