import Derived.Test.YtoiolinclpiohaaN
set_option linter.unusedSimpArgs false
set_option linter.unusedVariables false
namespace Go.Proofs.Ytoiolinclpiohaa
open Go Go.Hm

theorem Sg_ge (l : List UInt8) (i : Nat) (h : i < (⟨⟨l⟩⟩ : ByteArray).size) : (⟨⟨l⟩⟩ : ByteArray)[i]'h = l[i]'h := rfl
set_option maxRecDepth 20000 in
theorem rnext_code {lk lim : Nat} {H : Heap} (nx rl : List Int) (l : List UInt8) (a : Int) (h1 : nx.length ≤ 1000000) (h2 : rl.length ≤ 1000000) (h3 : l.length ≤ 1000000) : callW X A lk lim 18 [.agg (Dv nx rl), Sg l, I a] H = some (nextV nx rl l a, H) := by
  refine wb_callB [3, 6, 8] rfl A18 rfl rfl ?_
  unfold t18B
  have kc := check_code (lk := lk) (lim := H.length) (H := H) nx rl h1 h2
  by_cases c3 : chk nx rl = true
  case neg =>
    have e : nextV nx rl l a = .tup [.agg zL, Bo false] := by unfold nextV; rw [if_neg (by simp [c3])]
    rw [e]
    rw [chkE_neg c3] at kc
    simp [replaceAt, zL, Sg_size, kc]
  rw [chkE_pos c3] at kc
  by_cases c1 : a < 0
  · have e : nextV nx rl l a = .tup [.agg zL, Bo false] := by unfold nextV; rw [if_neg (by omega)]
    rw [e]
    simp [c1, replaceAt, zL, kc]
  by_cases c2 : (l.length : Int) ≤ a
  · have e : nextV nx rl l a = .tup [.agg zL, Bo false] := by unfold nextV; rw [if_neg (by omega)]
    rw [e]
    simp [c1, c2, replaceAt, zL, Sg_size, kc]
  have e : nextV nx rl l a = .tup [.agg (lexC a.toNat (nextM nx rl l a.toNat)), Bo true] := by unfold nextV; rw [if_pos ⟨by omega, by omega, c3⟩]
  rw [e]
  obtain ⟨a, rfl⟩ := Int.eq_ofNat_of_zero_le (by omega : 0 ≤ a)
  have w0 : IntKind.i64.wrap ((a : Int) + 1) = (a : Int) + 1 := wrap64 (by omega) (by omega)
  have ok := (chk_ok c3).1
  simp [c1, c2, replaceAt, zL, Sg_size, kc, w0]
  let bx : AV := .box (Dv nx rl)
  refine wb_loop (σ := Nat × Int × Int × Int × Int) (fun s => [(1, Sg l), (3, bx), (6, .box [I 0, I 0, I 0, I 0]), (8, .box [I s.2.2.1, I a, I s.2.2.2.1, I s.2.2.2.2]), (9, I s.2.1), (10, I s.1)])
    (fun _ => H) (fun s => s.1 ≤ l.length ∧ 0 ≤ s.2.1 ∧ s.2.1 < rl.length ∧ goM nx rl (l.drop s.1) s.1 s.2.1 s.2.2.1 s.2.2.2.1 = nextM nx rl l a)
    (fun s => l.length - s.1) ?_ (a, 0, -1, a + 1, 0) ⟨by simp only; omega, by simp, by have := ok.one; simp only; omega, by simp [nextM]⟩ (by simp [bx]) rfl
  rintro ⟨i, st, r, t, e'⟩ ⟨hi, hs1, hs2, hinv⟩
  simp only at hi hs1 hs2 hinv
  obtain ⟨st, rfl⟩ := Int.eq_ofNat_of_zero_le hs1
  unfold t18L1
  have w1 : IntKind.i64.wrap ((i : Int) + 1) = (i : Int) + 1 := wrap64 (by omega) (by omega)
  by_cases hil : i = l.length
  · subst hil
    rw [List.drop_length] at hinv
    simp only [goM] at hinv
    rw [← hinv]
    simp [bx, replaceAt, Sg_size, w1, lexC]
  have hlt : i < l.length := by omega
  have hil' : ((i : Int) == (l.length : Int)) = false := by rw [beq_eq_false_iff_ne]; omega
  obtain ⟨b, hb⟩ : ∃ b, l[i] = b := ⟨_, rfl⟩
  rw [List.drop_eq_getElem_cons hlt, hb] at hinv
  simp only [goM] at hinv
  have hb256 : b.toNat < 256 := b.toNat_lt
  have hst : st < rl.length := by omega
  have hix : 256 * st + b.toNat < nx.length := by rw [ok.len]; omega
  obtain ⟨v, hv⟩ : ∃ v, nx[256 * st + b.toNat] = v := ⟨_, rfl⟩
  have hvb := ok.nxb v (hv ▸ List.getElem_mem hix)
  have w5 : IntKind.i64.wrap (256 * (st : Int)) = 256 * (st : Int) := wrap64 (by omega) (by have := ok.most; omega)
  have w6 : IntKind.i64.wrap (b.toNat : Int) = b.toNat := wrap64 (by omega) (by omega)
  have w7 : IntKind.i64.wrap (256 * (st : Int) + b.toNat) = 256 * (st : Int) + b.toNat := wrap64 (by omega) (by have := ok.most; omega)
  have w8 : (256 * (st : Int) + b.toNat).toNat = 256 * st + b.toNat := by omega
  have w9 : 0 ≤ 256 * (st : Int) + b.toNat := by omega
  have w10 : 256 * (st : Int) + b.toNat < nx.length := by omega
  have hn : nxA nx st b = v := by
    simp [nxA, hix, hv]
  rw [hn] at hinv
  by_cases hv0 : v < 0
  · rw [if_pos hv0] at hinv
    rw [← hinv]
    simp [bx, replaceAt, Sg_size, Sg_get, Sg_ge, w1, hil', hlt, hb, w5, w6, w7, w8, w9, w10, hix, hv, hv0, lexC]
  rw [if_neg hv0] at hinv
  obtain ⟨v, rfl⟩ := Int.eq_ofNat_of_zero_le (by omega : 0 ≤ v)
  have hvr : v < rl.length := by omega
  obtain ⟨q, hq⟩ : ∃ q, rl[v] = q := ⟨_, rfl⟩
  have hqq : rlA rl v = q := by simp [rlA, hvr, hq]
  rw [hqq] at hinv
  by_cases hq0 : 0 ≤ q
  · rw [if_pos hq0] at hinv
    simp [bx, replaceAt, Sg_size, Sg_get, Sg_ge, w1, hil', hlt, hb, w5, w6, w7, w8, w9, w10, hix, hv, hv0, hvr, hq, hq0, rnd_nrm]
    exact ⟨i + 1, v, q, i + 1, ⟨by omega, by omega, by omega, hinv⟩, by omega, by simp⟩
  · rw [if_neg hq0] at hinv
    simp [bx, replaceAt, Sg_size, Sg_get, Sg_ge, w1, hil', hlt, hb, w5, w6, w7, w8, w9, w10, hix, hv, hv0, hvr, hq, hq0, rnd_nrm]
    exact ⟨i + 1, v, r, t, ⟨by omega, by omega, by omega, hinv⟩, by omega, by simp⟩

theorem nextV_in {nx rl : List Int} {l : List UInt8} {a : Nat} (h : a < l.length) (c : chk nx rl = true) : nextV nx rl l a = .tup [.agg (lexC a (nextM nx rl l a)), Bo true] := by
  unfold nextV
  rw [if_pos ⟨by omega, by omega, c⟩]; rfl
theorem nextV_no {nx rl : List Int} {l : List UInt8} {a : Int} (c : ¬ chk nx rl = true) : nextV nx rl l a = .tup [.agg zL, Bo false] := by
  unfold nextV
  rw [if_neg (by simp [c])]
set_option maxRecDepth 20000 in
theorem rall_code {lk lim : Nat} {H : Heap} (nx rl : List Int) (l : List UInt8) (h1 : nx.length ≤ 1000000) (h2 : rl.length ≤ 1000000) (h3 : l.length ≤ 1000000) (hlk : lk ≤ H.length) (hlim : lim ≤ H.length) :
    callW X A lk lim 19 [.agg (Dv nx rl), Sg l] H = some (if chk nx rl = true then (lxV H.length (allM nx rl l), lxH H (allM nx rl l)) else (.e0, H)) := by
  refine wb_callB [2, 7] rfl A19 rfl rfl ?_
  unfold t19B
  by_cases c3 : chk nx rl = true
  case neg =>
    rw [if_neg c3]
    simp
    refine wb_loop0 ?_
    unfold t19L1
    have kn := rnext_code (lk := lk) (lim := lim) (H := H) nx rl l 0 h1 h2 h3
    rw [nextV_no c3] at kn
    by_cases h0 : 0 < l.length
    · have h0' : (0 : Int) < l.length := by omega
      simp [Sg_size, h0, h0', kn, replaceAt, zL]
    · have h0' : ¬ (0 : Int) < l.length := by omega
      simp [Sg_size, h0, h0']
  rw [if_pos c3]
  simp
  let bx : AV := .box (Dv nx rl)
  refine wb_loop (σ := Nat × List Lx) (fun s => [(1, Sg l), (2, bx), (5, lxV H.length s.2), (6, I s.1)])
    (fun s => lxH H s.2) (fun s => s.1 ≤ l.length ∧ s.2.length ≤ s.1 ∧ s.2 ++ allF nx rl l (l.length - s.1) s.1 = allM nx rl l)
    (fun s => l.length - s.1) ?_ (0, []) (by simp [allM]) (by simp [bx, lxV]) (by simp [lxH])
  rintro ⟨a, o⟩ ⟨ha, ho, hinv⟩
  simp only at ha ho hinv
  unfold t19L1
  simp [bx, Sg_size]
  refine wb_if (a < l.length) (by simp) (fun hlt => ?_) (fun hge => ?_)
  · have ht := nextM_t nx rl hlt
    have kn := fun (H' : Heap) => rnext_code (lk := lk) (lim := lim) (H := H') nx rl l a h1 h2 h3
    simp only [nextV_in hlt c3] at kn
    obtain ⟨x, hx⟩ : ∃ x, nextM nx rl l a = x := ⟨_, rfl⟩
    obtain ⟨xr, xt, xe⟩ := x
    rw [show l.length - a = (l.length - a - 1) + 1 by omega] at hinv
    simp only [allF, if_pos hlt, hx] at hinv
    rw [hx] at ht
    simp only at ht
    obtain ⟨t, rfl⟩ := Int.eq_ofNat_of_zero_le (by omega : 0 ≤ xt)
    simp only [hx, lexOf_cells] at kn
    have hro1 : 32 ≤ room := by unfold room; omega
    have hro : (o.length + 1) * 32 ≤ room := by unfold room; omega
    have hmore : allF nx rl l (l.length - a - 1) t = allF nx rl l (l.length - t) t := allF_more nx rl l _ _ _ (by omega) (by omega)
    by_cases ho0 : o = []
    · subst ho0
      simp [lxV, lxH, kn, lexOf, Lx.cells, hro1, srcCells, rnd_nrm, replaceAt]
      refine ⟨t, [⟨xr, a, t, xe⟩], ⟨by omega, by simp; omega, ?_⟩, by omega, by simp, by simp [lxs, Lx.cells]⟩
      rw [← hinv, ← hmore]; rfl
    · simp [lxV, lxH, ho0, kn, lexOf, Lx.cells, hro, srcCells, rnd_nrm, replaceAt, lxs_len, setH, hlk, hlim, (by omega : o.length * 4 = 4 * o.length), (by omega : (o.length + 1) * 4 = 4 * o.length + 4)]
      refine ⟨t, o ++ [⟨xr, a, t, xe⟩], ⟨by omega, by simp; omega, ?_⟩, by omega, by simp [ho0]; omega, by simp [ho0, lxs_app, Lx.cells]⟩
      rw [← hinv, ← hmore]; simp [lexOf]
  · obtain rfl : a = l.length := by omega
    simp only [Nat.sub_self, allF, List.append_nil] at hinv
    rw [← hinv]
    by_cases ho0 : o = []
    · subst ho0
      simp [lxV, lxH]
    · simp [lxV, lxH, ho0]

theorem lex_cells_eq (x : Lx) : eqCells [1, 1, 1, 1] x.cells x.cells = some true := by rw [cells_eq]; simp
set_option maxRecDepth 20000 in
theorem calls_code (nx rl : List Int) (l : List UInt8) (w : Int) (hw : -9223372036854775808 ≤ w ∧ w ≤ 9223372036854775807) : callW X A 0 0 4 [.agg (Dv nx rl), Sg l, I w] [] = some (Bo true, []) := by
  refine wb_callB [3, 7, 9] rfl A4 rfl rfl ?_
  unfold t4B
  have k0 := lives_ok
  have k1 := light_code (lk := 0) (lim := 0) (H := []) nx rl 24 (by omega)
  rw [show ((24 : Nat) : Int) = 24 from rfl] at k1
  by_cases a1 : rl.length ≤ 24 ∧ nx.length ≤ 256 * 24
  case neg =>
    have hf : (decide (rl.length ≤ 24) && decide (nx.length ≤ 256 * 24)) = false := by
      rw [← Bool.decide_and]; exact decide_eq_false a1
    rw [hf] at k1
    generalize callW X A = C at k0 k1 ⊢
    simp [k0, k1]
  have ht : (decide (rl.length ≤ 24) && decide (nx.length ≤ 256 * 24)) = true := by
    rw [← Bool.decide_and]; exact decide_eq_true a1
  rw [ht] at k1
  obtain ⟨b1, b2⟩ := a1
  by_cases a2 : (60 : Int) < l.length
  · generalize callW X A = C at k0 k1 ⊢
    simp [k0, k1, Sg_size, a2]
  have k2 := mnext_code (lk := 0) (lim := 0) (H := []) nx rl l w (by omega) (by omega) (by omega)
  have k3 := rnext_code (lk := 0) (lim := 0) (H := []) nx rl l w (by omega) (by omega) (by omega)
  obtain ⟨x, b, hx⟩ : ∃ (x : Lx) (b : Bool), nextV nx rl l w = .tup [.agg x.cells, Bo b] := by
    unfold nextV
    split
    · exact ⟨lexOf w.toNat (nextM nx rl l w.toNat), true, rfl⟩
    · exact ⟨⟨0, 0, 0, 0⟩, false, rfl⟩
  rw [hx] at k2 k3
  have k4 := all_code (lk := 0) (lim := 0) (H := []) nx rl l (by omega) (by omega) (by omega) (by simp) (by simp)
  have he := lex_cells_eq x
  have hlen : (allM nx rl l).length ≤ l.length := allF_len nx rl l _ _
  by_cases a4 : chk nx rl = true
  case neg =>
    have k5 := rall_code (lk := 0) (lim := 0) (H := []) nx rl l (by omega) (by omega) (by omega) (by simp) (by simp)
    rw [if_neg a4] at k4 k5
    have k6 := same_code (lk := 0) (lim := 0) (H := []) LxD.nil LxD.nil (by simp) (by simp)
    generalize callW X A = C at k0 k1 k2 k3 k4 k5 k6 ⊢
    obtain ⟨x1, x2, x3, x4⟩ := x
    simp only [Lx.cells] at k2 k3 he
    simp [-wi_stL, k0, k1, Sg_size, a2, k2]
    rw [wi_stL]
    simp [-wi_stL, k3, replaceAt]
    rw [wi_stL]
    simp [k4, k5, k6, replaceAt, he]
  obtain ⟨ls, hls⟩ : ∃ ls, allM nx rl l = ls := ⟨_, rfl⟩
  have k5 := rall_code (lk := 0) (lim := 0) (H := lxH [] ls) nx rl l (by omega) (by omega) (by omega) (by simp) (by simp)
  rw [if_pos a4, hls] at k4 k5
  rw [hls] at hlen
  have k6 := same_code (lk := 0) (lim := 0) (H := lxH (lxH [] ls) ls) (v1 := lxV 0 ls) (v2 := lxV (lxH [] ls).length ls) (o1 := ls) (o2 := ls) (by
    have := lxD_of [] ls
    have h2 : ∃ H', lxH (lxH [] ls) ls = lxH [] ls ++ H' := by
      unfold lxH
      split
      · exact ⟨[], rfl⟩
      · exact ⟨_, rfl⟩
    obtain ⟨H', h2⟩ := h2
    rw [h2]
    exact this.mono) (lxD_of (lxH [] ls) ls) (by omega) (by omega)
  rw [decide_eq_true rfl] at k6
  have n0 : ∀ b o, lxV b o = .e0 ∨ ∃ g n, lxV b o = .hs b g 0 n 4 := fun b o => by
    unfold lxV
    split
    · exact .inl rfl
    · exact .inr ⟨_, _, rfl⟩
  have n1 := n0 0 ls
  have n2 := n0 (lxH [] ls).length ls
  generalize lxH (lxH [] ls) ls = H2 at k5 k6
  generalize lxV (lxH [] ls).length ls = v2 at k5 k6 n2
  generalize (lxH [] ls).length = b2' at n2
  simp only [List.length_nil] at k4
  generalize lxH [] ls = H1 at k4 k5
  generalize lxV 0 ls = v1 at k4 k6 n1
  generalize callW X A = C at k0 k1 k2 k3 k4 k5 k6 ⊢
  obtain ⟨x1, x2, x3, x4⟩ := x
  simp only [Lx.cells] at k2 k3 he
  simp [-wi_stL, k0, k1, Sg_size, a2, k2]
  rw [wi_stL]
  simp [-wi_stL, k3, replaceAt]
  rw [wi_stL]
  rcases n1 with rfl | ⟨g, n, rfl⟩ <;> rcases n2 with rfl | ⟨g', n', rfl⟩ <;> simp [k4, k5, k6, replaceAt, he]
end Go.Proofs.Ytoiolinclpiohaa
