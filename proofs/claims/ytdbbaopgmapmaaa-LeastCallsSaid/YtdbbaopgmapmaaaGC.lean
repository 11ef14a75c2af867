import Derived.Test.YtdbbaopgmapmaaaK
set_option linter.unusedSimpArgs false
set_option linter.unusedVariables false
namespace Go.Proofs.Ytdbbaopgmapmaaa
open Go Go.Hm
theorem Sg_ge (l : List UInt8) (i : Nat) (h : i < (⟨⟨l⟩⟩ : ByteArray).size) : (⟨⟨l⟩⟩ : ByteArray)[i]'h = l[i]'h := rfl
theorem nxA_lt {nx rl : List Int} (ok : TOk nx rl) (st : Int) (b : UInt8) : nxA nx st b < rl.length := by
  unfold nxA
  have h0 := ok.one
  rw [List.getD_eq_getElem?_getD]
  by_cases h : 256 * st.toNat + b.toNat < nx.length
  · rw [List.getElem?_eq_getElem h]
    exact (ok.nxb _ (List.getElem_mem h)).2
  · rw [List.getElem?_eq_none (by omega)]
    simp; omega
/-! ### What a text leads to -/
def stM (nx : List Int) : List UInt8 → Int → Int
  | [], st => st
  | b :: l, st => if nxA nx st b < 0 then -1 else stM nx l (nxA nx st b)
def runM (nx rl : List Int) (l : List UInt8) : Int := if stM nx l 0 < 0 then -1 else rlA rl (stM nx l 0)
theorem stM_b {nx rl : List Int} (ok : TOk nx rl) : ∀ (l : List UInt8) (st : Int), st < rl.length → stM nx l st < rl.length
  | [], _, h => h
  | b :: l, st, h => by
    simp only [stM]
    split
    · omega
    · exact stM_b ok l _ (nxA_lt ok st b)
theorem nxA_ge {nx rl : List Int} (ok : TOk nx rl) (st : Int) (b : UInt8) : -1 ≤ nxA nx st b := by
  unfold nxA
  rw [List.getD_eq_getElem?_getD]
  by_cases h : 256 * st.toNat + b.toNat < nx.length
  · rw [List.getElem?_eq_getElem h]
    exact (ok.nxb _ (List.getElem_mem h)).1
  · rw [List.getElem?_eq_none (by omega)]
    simp
theorem rlA_of {rl : List Int} {v : Nat} {q : Int} (h : v < rl.length) (hq : rl[v] = q) : rlA rl v = q := by simp [rlA, h, hq]
theorem stM_app (nx : List Int) : ∀ (l : List UInt8) (b : UInt8) (st : Int), 0 ≤ st → stM nx (l ++ [b]) st = if stM nx l st < 0 then -1 else if nxA nx (stM nx l st) b < 0 then -1 else nxA nx (stM nx l st) b
  | [], b, st, h => by 
    show (if nxA nx st b < 0 then -1 else nxA nx st b) = if st < 0 then -1 else if nxA nx st b < 0 then -1 else nxA nx st b
    rw [if_neg (by omega : ¬ st < 0)]
  | a :: l, b, st, h => by
    simp only [List.cons_append, stM]
    split
    · simp
    · rename_i h2
      exact stM_app nx l b _ (by omega)
theorem stM_dead (nx : List Int) : ∀ (p q : List UInt8) (st : Int), 0 ≤ st → stM nx p st < 0 → stM nx (p ++ q) st < 0
  | [], q, st, h, h2 => by simp only [stM] at h2; omega
  | a :: p, q, st, h, h2 => by
    simp only [List.cons_append, stM] at h2 ⊢
    split
    · omega
    · rename_i h3
      rw [if_neg h3] at h2
      exact stM_dead nx p q _ (by omega) h2
end Go.Proofs.Ytdbbaopgmapmaaa

namespace Go.Proofs.Ytdbbaopgmapmaaa
open Go Go.Hm
/-! ### Where a state leads (-1 leads nowhere), its rule -/
def toV (nx : List Int) (s : Int) (c : Nat) : Int := if s < 0 then -1 else nx.getD (256 * s.toNat + c) 0
def rulV (rl : List Int) (s : Int) : Int := if s < 0 then -1 else rl.getD s.toNat 0
theorem toV_b {nx rl : List Int} (ok : TOk nx rl) {s : Int} (h2 : s < rl.length) {c : Nat} (hc : c < 256) : -1 ≤ toV nx s c ∧ toV nx s c < rl.length := by
  unfold toV
  have := ok.one
  split
  · omega
  · have hl := ok.len
    have hi : 256 * s.toNat + c < nx.length := by omega
    rw [List.getD_eq_getElem?_getD, List.getElem?_eq_getElem hi]
    exact ok.nxb _ (List.getElem_mem hi)
theorem to_code {lk lim : Nat} {H : Heap} (nx rl : List Int) (ok : TOk nx rl) (s : Int) (h2 : s < rl.length) (c : Nat) (hc : c < 256) : callW X A lk lim 47 [.agg (Dv nx rl), I s, I (c : Int)] H = some (I (toV nx s c), H) := by
  refine wb_callB [3] rfl A47 rfl rfl ?_
  unfold t47B
  unfold toV
  have hl := ok.len
  have hm := ok.most
  by_cases h : s < 0
  · simp [h]
  · obtain ⟨k, rfl⟩ := Int.eq_ofNat_of_zero_le (by omega : 0 ≤ s)
    have w1 : IntKind.i64.wrap (256 * (k : Int)) = 256 * (k : Int) := wrap64 (by omega) (by omega)
    have w2 : IntKind.i64.wrap (256 * (k : Int) + (c : Int)) = 256 * (k : Int) + (c : Int) := wrap64 (by omega) (by omega)
    have e1 : (256 * (k : Int) + (c : Int)).toNat = 256 * k + c := by omega
    have e2 : 0 ≤ 256 * (k : Int) + (c : Int) := by omega
    have e3 : 256 * (k : Int) + (c : Int) < (nx.length : Int) := by omega
    have hi : 256 * k + c < nx.length := by omega
    obtain ⟨x, hx⟩ : ∃ x, nx[256 * k + c] = x := ⟨_, rfl⟩
    simp [h, w1, w2, e1, e2, e3, hi, hx]
theorem rule_code {lk lim : Nat} {H : Heap} (nx rl : List Int) (s : Int) (h2 : s < rl.length) : callW X A lk lim 33 [.agg (Dv nx rl), I s] H = some (I (rulV rl s), H) := by
  refine wb_callB [2] rfl A33 rfl rfl ?_
  unfold t33B
  unfold rulV
  by_cases h : s < 0
  · simp [h]
  · obtain ⟨k, rfl⟩ := Int.eq_ofNat_of_zero_le (by omega : 0 ≤ s)
    have hi : k < rl.length := by omega
    obtain ⟨x, hx⟩ : ∃ x, rl[k] = x := ⟨_, rfl⟩
    simp [h, hi, hx]
/-- The first text with a rule: what is looked for. -/
theorem c32_code {lk lim : Nat} {H : Heap} (nx rl : List Int) (r x y : Int) (b : Nat) (h2 : x < rl.length) (hlk : lk ≤ H.length) (g0 : H[b]? = some (.cells (Dv nx rl))) (g1 : H[b + 1]? = some (.cells [I r])) :
    callW X A lk lim 32 [I x, I y, .hp b 2 0, .hp (b + 1) 1 0] H = some (Bo (decide (rulV rl x = r)), H) := by
  have k := fun K L => rule_code (lk := K) (lim := L) (H := H) nx rl x h2
  refine wb_callB [] rfl A32 rfl rfl ?_
  unfold t32B
  generalize callW X A = C at k ⊢
  simp [g0, g1, k]
  rw [Bool.eq_iff_iff]; simp
end Go.Proofs.Ytdbbaopgmapmaaa

namespace Go.Proofs.Ytdbbaopgmapmaaa
open Go Go.Hm
/-! ### slices.Reverse of bytes -/
abbrev Ub (b : UInt8) : AV := .val (.int .u8 (b.toNat : Int))
def bsL (l : List UInt8) : List AV := l.map Ub
theorem bsL_len (l : List UInt8) : (bsL l).length = l.length := by simp [bsL]
theorem bsL_get (l : List UInt8) (i : Nat) : (bsL l)[i]? = l[i]?.map Ub := by simp [bsL]
theorem bsL_ge (l : List UInt8) (i : Nat) (h : i < (bsL l).length) : (bsL l)[i]'h = Ub (l[i]'(by rwa [bsL_len] at h)) := by simp [bsL]
theorem bsL_upd (l : List UInt8) (i : Nat) (v : UInt8) (h : i < l.length) : replaceAt (bsL l) i [Ub v] = bsL (l.set i v) := by
  rw [replaceAt_one _ (by rw [bsL_len]; exact h)]; simp [bsL, List.map_set]
structure RevI (l c : List UInt8) (i : Nat) : Prop where
  len : c.length = l.length
  at_ : ∀ k (h : k < l.length), c[k]? = if k < i ∨ l.length - 1 - i < k then l[l.length - 1 - k]? else l[k]?
theorem RevI.next {l c : List UInt8} {i : Nat} (h : RevI l c i) (hi : i < l.length - 1 - i) : RevI l ((c.set i (l[l.length - 1 - i]'(by omega))).set (l.length - 1 - i) (l[i]'(by omega))) (i + 1) := by
  obtain ⟨h1, h2⟩ := h
  refine ⟨by simp [h1], fun k hk => ?_⟩
  rw [List.getElem?_set, List.getElem?_set]
  by_cases ha : l.length - 1 - i = k
  · have hb : l.length - 1 - k = i := by omega
    have e : l.length - 1 - (i + 1) < k := by omega
    rw [if_pos ha, if_pos (by simp [h1]; omega), if_pos (.inr e), hb, List.getElem?_eq_getElem (by omega)]
  · rw [if_neg ha]
    by_cases hb : i = k
    · rw [if_pos hb, if_pos (by omega), if_pos (.inl (by omega)), ← hb, List.getElem?_eq_getElem (by omega)]
    · rw [if_neg hb, h2 k hk]
      by_cases hc : k < i ∨ l.length - 1 - i < k
      · rw [if_pos hc, if_pos (by omega)]
      · rw [if_neg hc, if_neg (by omega)]
theorem RevI.fin {l c : List UInt8} {i : Nat} (h : RevI l c i) (hi : l.length ≤ 2 * i + 1) : c = l.reverse := by
  obtain ⟨h1, h2⟩ := h
  refine List.ext_getElem? fun k => ?_
  by_cases hk : k < l.length
  · rw [h2 k hk, List.getElem?_reverse hk]
    by_cases hc : k < i ∨ l.length - 1 - i < k
    · rw [if_pos hc]
    · rw [if_neg hc]
      have : k = l.length - 1 - k := by omega
      rw [← this]
  · rw [List.getElem?_eq_none (by omega), List.getElem?_eq_none (by simp; omega)]
theorem rev_nil {lk lim : Nat} {H : Heap} : callW X A lk lim 59 [.e0] H = some (.tup [], H) := by
  refine wb_callB [] rfl A59 rfl rfl ?_
  unfold t59B
  have w : IntKind.i64.wrap (-1) = -1 := wrap64 (by omega) (by omega)
  simp [w]
  refine wb_loop (σ := Unit) (fun _ => [(0, .e0), (2, I 0), (3, I (-1))]) (fun _ => H) (fun _ => True) (fun _ => 0) ?_ () trivial (by simp) rfl
  intro _ _
  unfold t59L1
  simp
set_option maxRecDepth 20000 in
theorem rev_code {lk lim : Nat} {H : Heap} {b : Nat} {l : List UInt8} (hb : H[b]? = some (.cells (bsL l))) (hlk : lk ≤ b) (hl : l.length ≤ 1000000) :
    callW X A lk lim 59 [.hs b l.length 0 l.length 1] H = some (.tup [], H.set b (.cells (bsL l.reverse))) := by
  have hbl : b < H.length := by
    rcases Nat.lt_or_ge b H.length with h | h
    · exact h
    · rw [List.getElem?_eq_none h] at hb; cases hb
  refine wb_callB [] rfl A59 rfl rfl ?_
  unfold t59B
  have w0 : IntKind.i64.wrap ((l.length : Int) - 1) = (l.length : Int) - 1 := wrap64 (by omega) (by omega)
  simp [w0]
  let hv : AV := .hs b l.length 0 l.length 1
  refine wb_loop (σ := Nat × List UInt8) (fun s => [(0, hv), (2, I s.1), (3, I ((l.length : Int) - 1 - s.1))]) (fun s => H.set b (.cells (bsL s.2)))
    (fun s => RevI l s.2 s.1 ∧ 2 * s.1 ≤ l.length + 1) (fun s => l.length - s.1) ?_ (0, l) ⟨⟨rfl, fun k hk => by rw [if_neg (by omega)]⟩, by simp⟩ (by simp [hv]) ?_
  case refine_2 =>
    have hb2 : H[b] = .cells (bsL l) := by rw [List.getElem?_eq_getElem hbl] at hb; exact Option.some.inj hb
    simp only
    rw [← hb2, List.set_getElem_self]
  rintro ⟨i, c⟩ ⟨hc, hi⟩
  simp only at hc hi
  unfold t59L1
  have hcl := hc.len
  have g0 : (H.set b (.cells (bsL c)))[b]? = some (.cells (bsL c)) := by rw [List.getElem?_set_self hbl]
  by_cases hlt : i < l.length - 1 - i
  · have hI : (i : Int) < (l.length : Int) - 1 - i := by omega
    have w1 : IntKind.i64.wrap ((i : Int) + 1) = (i : Int) + 1 := wrap64 (by omega) (by omega)
    have w2 : IntKind.i64.wrap ((l.length : Int) - 1 - i - 1) = (l.length : Int) - 1 - ((i + 1 : Nat) : Int) := by rw [wrap64 (by omega) (by omega)]; omega
    obtain ⟨j, hj⟩ : ∃ j : Nat, l.length - 1 - i = j := ⟨_, rfl⟩
    have hjI : (l.length : Int) - 1 - i = (j : Int) := by omega
    have hil : i < l.length := by omega
    have hjl : j < l.length := by omega
    obtain ⟨u, hu⟩ : ∃ u, c[i]'(by omega) = u := ⟨_, rfl⟩
    obtain ⟨v, hv2⟩ : ∃ v, c[j]'(by omega) = v := ⟨_, rfl⟩
    have gu : (bsL c)[i]? = some (Ub u) := by rw [bsL_get, List.getElem?_eq_getElem (by omega), hu]; rfl
    have gv : (bsL c)[j]? = some (Ub v) := by rw [bsL_get, List.getElem?_eq_getElem (by omega), hv2]; rfl
    have hnx := hc.next hlt
    rw [hjI] at hI w2
    have ci : c.length = l.length := hcl
    have blen : (bsL c).length = l.length := by rw [bsL_len, hcl]
    simp [-wi_st, -wi_stD, hv, hjI, hI, hil, hjl, g0, blen, bsL_ge, hu, hv2]
    rw [wi_stD]
    have hb1 : lk ≤ b := hlk
    have g1 : (H.set b (.cells (bsL (c.set i v))))[b]? = some (.cells (bsL (c.set i v))) := by rw [List.getElem?_set_self hbl]
    have up1 := bsL_upd c i v (by omega)
    have up2 := bsL_upd (c.set i v) j u (by simp; omega)
    have bl2 : (bsL (c.set i v)).length = l.length := by rw [bsL_len]; simp [hcl]
    have hi1 : i + 1 ≤ l.length := hil
    have hj1 : j + 1 ≤ l.length := hjl
    simp [-wi_st, -wi_stD, hv, hil, hjl, hi1, hj1, g0, blen, setH, hlk, up1]
    rw [wi_stD]
    simp [-wi_st, -wi_stD, -wb_regN, hv, hil, hjl, hi1, hj1, g1, bl2, setH, hlk, up2]
    rw [wb_regN]
    simp [-wb_regN, w1, w2]
    rw [rnd_nrm]
    have eu : u = l[i] := by
      have h := hc.at_ i hil
      rw [if_neg (by omega), List.getElem?_eq_getElem (by omega), List.getElem?_eq_getElem hil] at h
      exact hu.symm.trans (Option.some.inj h)
    have ev : v = l[l.length - 1 - i]'(by omega) := by
      have h := hc.at_ j hjl
      rw [if_neg (by omega), List.getElem?_eq_getElem (by omega), List.getElem?_eq_getElem hjl] at h
      have h3 : c[j]'(by omega) = l[j] := Option.some.inj h
      refine hv2.symm.trans (h3.trans ?_)
      simp only [hj]
    have hnx2 : RevI l ((c.set i v).set j u) (i + 1) := by
      rw [eu, ev]
      have e : ∀ k, l.length - 1 - i = k → RevI l ((c.set i (l[l.length - 1 - i]'(by omega))).set k l[i]) (i + 1) := fun k hk => by subst hk; exact hnx
      exact e j hj
    refine ⟨(i + 1, (c.set i v).set j u), ⟨hnx2, by simp only; omega⟩, by simp only; omega, ?_, rfl⟩
    simp
  · have hI : ¬ (i : Int) < (l.length : Int) - 1 - i := by omega
    have hfin := hc.fin (by omega)
    rw [hfin]
    simp [hv, hI]
    exact List.take_of_length_le (by simp)
end Go.Proofs.Ytdbbaopgmapmaaa
