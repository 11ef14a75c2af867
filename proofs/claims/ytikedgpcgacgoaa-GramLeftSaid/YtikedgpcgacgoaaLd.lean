import Derived.Test.YtikedgpcgacgoaaLc
set_option linter.unusedSimpArgs false
set_option linter.unusedVariables false
namespace Go.Proofs.Ytikedgpcgacgoaa
open Go Go.Hm

/-! ### A square in memory -/
def rowL (n : Nat) (o : List Bool) (i : Nat) : List Bool := (o.drop (i * n)).take n
def matB (n : Nat) (o : List Bool) : Heap := (List.range n).map fun i => .cells (bools (rowL n o i))
theorem rowL_len {n : Nat} {o : List Bool} {i : Nat} (ho : o.length = n * n) (hi : i < n) : (rowL n o i).length = n := by
  unfold rowL
  rw [List.length_take, List.length_drop, ho]
  have h1 : (i + 1) * n ≤ n * n := Nat.mul_le_mul_right n hi
  rw [Nat.succ_mul] at h1
  omega
theorem rowL_get {n : Nat} {o : List Bool} {i k : Nat} (hk : k < n) : (rowL n o i)[k]? = o[i * n + k]? := by
  unfold rowL
  rw [List.getElem?_take, if_pos hk, List.getElem?_drop]
theorem matB_len (n : Nat) (o : List Bool) : (matB n o).length = n := by simp [matB]
theorem matB_get {n : Nat} {o : List Bool} {i : Nat} (hi : i < n) : (matB n o)[i]? = some (.cells (bools (rowL n o i))) := by
  unfold matB
  rw [List.getElem?_map, List.getElem?_range hi]; rfl
theorem rowL_set {n : Nat} {o : List Bool} {i k i' : Nat} {v : Bool} (ho : o.length = n * n) (hi : i < n) (hk : k < n) (hi' : i' < n) : rowL n (o.set (i * n + k) v) i' = if i' = i then (rowL n o i).set k v else rowL n o i' := by
  apply List.ext_getElem?
  intro j
  rcases Nat.lt_or_ge j n with hj | hj
  · rw [rowL_get hj, List.getElem?_set]
    by_cases h : i' = i
    · subst h
      rw [if_pos rfl, List.getElem?_set, rowL_len ho hi, rowL_get hj]
      by_cases hkj : k = j
      · subst hkj
        rw [if_pos rfl, if_pos rfl, if_pos hk, if_pos (by rw [ho]; exact ix_lt hi hk)]
      · rw [if_neg hkj, if_neg (by omega)]
    · rw [if_neg h, rowL_get hj, if_neg (fun e => h (ix_inj hk hj e).1.symm)]
  · have hl : (rowL n (o.set (i * n + k) v) i').length = n := rowL_len (by rw [List.length_set]; exact ho) hi'
    rw [List.getElem?_eq_none (by omega)]
    split
    · rw [List.getElem?_eq_none (by rw [List.length_set, rowL_len ho hi]; omega)]
    · rw [List.getElem?_eq_none (by rw [rowL_len ho hi']; omega)]
theorem matB_set {n : Nat} {o : List Bool} {i k : Nat} {v : Bool} (ho : o.length = n * n) (hi : i < n) (hk : k < n) : (matB n o).set i (.cells (bools ((rowL n o i).set k v))) = matB n (o.set (i * n + k) v) := by
  apply List.ext_getElem?
  intro j
  rw [List.getElem?_set, matB_len]
  rcases Nat.lt_or_ge j n with hj | hj
  · rw [matB_get hj, matB_get hj, rowL_set ho hi hk hj]
    by_cases h : i = j
    · subst h
      rw [if_pos rfl, if_pos hj, if_pos rfl]
    · rw [if_neg h, if_neg (fun e => h e.symm)]
  · rw [if_neg (by omega), List.getElem?_eq_none (by rw [matB_len]; omega), List.getElem?_eq_none (by rw [matB_len]; omega)]
theorem row_getD {n : Nat} {o : List Bool} {i k : Nat} (ho : o.length = n * n) (hi : i < n) (hk : k < n) : (bools (rowL n o i))[k]? = some (Bo (o.getD (i * n + k) false)) := by
  rw [bools_get, rowL_get hk, List.getD_eq_getElem?_getD, List.getElem?_eq_getElem (by rw [ho]; exact ix_lt hi hk)]
  rfl
theorem row_repl {n : Nat} {o : List Bool} {i k : Nat} {v : Bool} (ho : o.length = n * n) (hi : i < n) (hk : k < n) : replaceAt (bools (rowL n o i)) k [Bo v] = bools ((rowL n o i).set k v) := by
  rw [replaceAt_one _ (by rw [bools_len, rowL_len ho hi]; exact hk), bools_set]
theorem row_blen {n : Nat} {o : List Bool} {i : Nat} (ho : o.length = n * n) (hi : i < n) : (bools (rowL n o i)).length = n := by rw [bools_len, rowL_len ho hi]
theorem rowL_zero (n i : Nat) (hi : i < n) : rowL n (List.replicate (n * n) false) i = List.replicate n false := by
  unfold rowL
  rw [List.drop_replicate, List.take_replicate]
  congr 1
  have h1 : (i + 1) * n ≤ n * n := Nat.mul_le_mul_right n hi
  rw [Nat.succ_mul] at h1
  omega
/-- The rows' slices. -/
def rowV (b n m : Nat) : List AV := (List.range m).map fun i => .hs (b + i) n 0 n 1
theorem rowV_get {b n m i : Nat} (h : i < m) : (rowV b n m)[i]? = some (.hs (b + i) n 0 n 1) := by
  unfold rowV
  rw [List.getElem?_map, List.getElem?_range h]; rfl
theorem rowV_ge {b n m i : Nat} (h : i < (rowV b n m).length) : (rowV b n m)[i] = .hs (b + i) n 0 n 1 := by simp [rowV]
theorem rowV_len (b n m : Nat) : (rowV b n m).length = m := by simp [rowV]
/-- Behind m rows. -/
def outC (b n m : Nat) : List AV := rowV b n m ++ List.replicate (n - m) .e0
theorem outC_set {b n m : Nat} (h : m < n) : (outC b n m).set m (.hs (b + m) n 0 n 1) = outC b n (m + 1) := by
  unfold outC
  rw [List.set_append_right _ _ (by rw [rowV_len]; omega), rowV_len, Nat.sub_self, show n - m = (n - (m + 1)) + 1 by omega, List.replicate_succ, List.set_cons_zero]
  unfold rowV
  rw [List.range_succ, List.map_append, List.append_assoc]
  rfl
theorem outC_len {b n m : Nat} (h : m ≤ n) : (outC b n m).length = n := by
  unfold outC
  rw [List.length_append, rowV_len, List.length_replicate]; omega
theorem outC_all (b n : Nat) : outC b n n = rowV b n n := by
  unfold outC
  rw [Nat.sub_self]; simp
theorem matB_zero (n m : Nat) (h : m ≤ n) : (List.range m).map (fun i => HB.cells (bools (rowL n (List.replicate (n * n) false) i))) = List.replicate m (.cells (bools (List.replicate n false))) := by
  apply List.ext_getElem?
  intro i
  rw [List.getElem?_map, List.getElem?_replicate]
  rcases Nat.lt_or_ge i m with hi | hi
  · rw [List.getElem?_range hi, if_pos hi, Option.map_some, rowL_zero n i (by omega)]
  · rw [List.getElem?_eq_none (by simpa using hi), if_neg (by omega)]; rfl

set_option maxRecDepth 20000 in
/-- What begins a right side. -/
theorem beg_code {lk lim : Nat} {H : Heap} (g : Gm) (ok : GOk g) (null : List Bool) (hn : null.length = g.n.toNat) (r : List Int) (hr : r.length ≤ 8) (hs : ∀ x ∈ r, 0 ≤ x ∧ x < g.t + g.n) (hlk : lk ≤ H.length) :
    callW X A lk lim 40 [gV g, .sl g.n.toNat (bools null), .sl r.length (ints r)] H = some (slvN (bgL g.t null r), H) := by
  refine wb_callB [3] rfl A40 rfl rfl ?_
  generalize callW X A = C
  unfold t40B
  obtain ⟨t, n, k, ps⟩ := g
  obtain ⟨t1, t2, n1, n2, k1, k2, l1, l2, okp⟩ := ok
  simp only at t1 t2 n1 n2 hn hs
  obtain ⟨n, rfl⟩ := Int.eq_ofNat_of_zero_le (by omega : 0 ≤ n)
  simp only [Int.toNat_natCast] at hn ⊢
  simp [Gm.cells]
  let bx : AV := .box [I t, I n, I k, .sl ps.length (psC ps)]
  have hbl := bgL_len (t := t) (null := null) r
  obtain ⟨B, hB⟩ : ∃ B, bgL t null r = B := ⟨_, rfl⟩
  rw [hB] at hbl
  rw [hB]
  refine wb_loop (σ := Nat × List Nat) (fun s => [(1, .sl n (bools null)), (3, bx), (6, oV H s.2), (9, .sl r.length (ints r)), (10, I r.length), (11, I s.1)]) (fun s => oH H s.2)
    (fun s => s.1 ≤ r.length ∧ s.2.length = s.1 ∧ s.2 ++ bgL t null (r.drop s.1) = B) (fun s => r.length - s.1) ?_ (0, []) ⟨Nat.zero_le _, rfl, by rw [← hB]; rfl⟩ (by simp [bx, oV]) (by simp [oH])
  rintro ⟨i, o⟩ ⟨hi, ho, hinv⟩
  simp only at hi ho hinv
  unfold t40L1
  have w1 : IntKind.i64.wrap ((i : Int) + 1) = (i : Int) + 1 := wrap64 (by omega) (by omega)
  have fin : o = B → ∀ e : Env, ev e (.tmp 6) = oV H o → True := fun _ _ _ => trivial
  clear fin
  by_cases hil : i < r.length
  case neg =>
    obtain rfl : i = r.length := by omega
    rw [List.drop_length] at hinv
    have hinv : o = B := by simpa [bgL] using hinv
    subst hinv
    by_cases h0 : o = []
    · simp [bx, oV, oH, slvN, h0]
    · simp [bx, oV, oH, slvN, h0]
  have hro1 : 8 ≤ room := by unfold room; omega
  have hro : (o.length + 1) * 8 ≤ room := by unfold room; omega
  obtain ⟨x, hx⟩ : ∃ x, r[i] = x := ⟨_, rfl⟩
  obtain ⟨x1, x2⟩ := hs x (hx ▸ List.getElem_mem hil)
  rw [List.drop_eq_getElem_cons hil, hx, bgL] at hinv
  by_cases hxt : x < t
  · rw [if_pos hxt, List.append_nil] at hinv
    subst hinv
    by_cases h0 : o = []
    · simp [bx, oV, oH, slvN, h0, hil, hx, hxt]
    · simp [bx, oV, oH, slvN, h0, hil, hx, hxt]
  rw [if_neg hxt] at hinv
  obtain ⟨y, rfl⟩ : ∃ y : Nat, x = t + (y : Int) := ⟨(x - t).toNat, by omega⟩
  have hy2 : (t + (y : Int) - t).toNat = y := by omega
  have w3 : IntKind.i64.wrap (y : Int) = y := wrap64 (by omega) (by omega)
  have hty : ¬ ((y : Int) < 0) := by omega
  have hsub : t + (y : Int) - t = y := by omega
  rw [hy2] at hinv
  have hyn : y < null.length := by omega
  have hyn2 : y < n := by omega
  rw [getD_of hyn] at hinv
  have hnn : (bools null)[y]? = some (Bo null[y]) := by rw [bools_get, List.getElem?_eq_getElem hyn]; rfl
  have hbn : (bools null).length = n := by rw [bools_len, hn]
  have hna : nts o ++ [.val (.int .i64 y)] = nts (o ++ [y]) := by rw [nts_app]; rfl
  have hne : ¬ o ++ [y] = [] := by simp
  have hol : (o ++ [y]).length = o.length + 1 := by simp
  have hro' : (o.length + 1) * 8 ≤ room := hro
  obtain ⟨v, hv⟩ : ∃ v, null[y] = v := ⟨_, rfl⟩
  rw [hv] at hnn hinv
  have hinv2 : v = true → (o ++ [y]) ++ bgL t null (r.drop (i + 1)) = B := fun h => by rw [← hinv, h]; simp
  have hinv3 : v = false → o ++ [y] = B := fun h => by rw [← hinv, h]; simp
  clear hinv
  by_cases h0 : o = []
  · subst h0
    simp only [List.nil_append] at hinv2 hinv3
    have hn1 : nts [y] = [AV.val (.int .i64 y)] := rfl
    cases v with
    | false =>
      have hinv3 := hinv3 rfl
      subst hinv3
      simp [-wi_app, bx, oV, hil, hx, hxt, hsub, w3]
      rw [wi_app]
      simp [oH, slvN, srcCells, hro1, hx, hxt, hty, hsub, w3, hyn2, hbn, hnn, hyn, hv, hn1]
    | true =>
      have hinv2 := hinv2 rfl
      simp [-wi_app, bx, oV, hil, hx, hxt, hsub, w3]
      rw [wi_app]
      simp [oH, srcCells, hro1, hx, hxt, hty, hsub, w3, hyn2, hbn, hnn, hyn, hv, hn1, w1]
      rw [rnd_nrm]
      refine ⟨(i + 1, [y]), ⟨by simp only; omega, by simp only [List.length_nil] at ho; simp; omega, hinv2⟩, by simp only; omega, ?_, ?_⟩
      · simp [bx, oV]
      · simp [oH, hn1]
  · cases v with
    | false =>
      have hinv3 := hinv3 rfl
      subst hinv3
      generalize hoy : o ++ [y] = oy at hna hol hne
      simp [bx, oV, oH, slvN, h0, hil, hx, hxt, hty, hsub, w3, hyn2, hbn, hnn, hyn, hv, hro', srcCells, setH, nts_len, hlk, hna, hne, hol]
    | true =>
      have hinv2 := hinv2 rfl
      simp [bx, oV, oH, h0, hil, hx, hxt, hty, hsub, w3, hyn2, hbn, hnn, hyn, hv, hro', srcCells, setH, nts_len, hlk, w1, hna]
      rw [rnd_nrm]
      refine ⟨(i + 1, o ++ [y]), ⟨by simp only; omega, by simp; omega, hinv2⟩, by simp only; omega, ?_, ?_⟩
      · simp [bx, oV]
      · simp [oH]
end Go.Proofs.Ytikedgpcgacgoaa
