import Derived.Test.YtikedgpcgacgoaaLe2
set_option linter.unusedSimpArgs false
set_option linter.unusedVariables false
namespace Go.Proofs.Ytikedgpcgacgoaa
open Go Go.Hm

/-- Memory of the document's closure. -/
def LQ (H : Heap) (n : Nat) (o : List Bool) : Heap := H ++ (.cells (rowV (H.length + 1) n n) :: matB n o)
def LP (H : Heap) (n i : Nat) : Heap := H ++ (.cells (outC (H.length + 1) n i) :: List.replicate i (.cells (bools (List.replicate n false))))
section
variable {H : Heap} {n i : Nat} {o : List Bool}
theorem LQ_0 : (LQ H n o)[H.length]? = some (.cells (rowV (H.length + 1) n n)) := by unfold LQ; rw [get_at0]; rfl
theorem LQ_row (hi : i < n) : (LQ H n o)[H.length + 1 + i]? = some (.cells (bools (rowL n o i))) := by
  unfold LQ
  rw [Nat.add_assoc, Hm.get_at, show 1 + i = i + 1 by omega, List.getElem?_cons_succ]
  exact matB_get hi
theorem LQ_set {k : Nat} (ho : o.length = n * n) (hi : i < n) (hk : k < n) (v : Bool) : (LQ H n o).set (H.length + 1 + i) (.cells (bools ((rowL n o i).set k v))) = LQ H n (o.set (i * n + k) v) := by
  unfold LQ
  rw [Nat.add_assoc, set_at, show 1 + i = i + 1 by omega, List.set_cons_succ, matB_set ho hi hk]
theorem LQ_take : (LQ H n o).take H.length = H := by unfold LQ; simp
theorem LP_len : (LP H n i).length = H.length + 1 + i := by
  unfold LP
  rw [List.length_append]
  simp only [List.length_cons, List.length_replicate]; omega
theorem LP_0 : (LP H n i)[H.length]? = some (.cells (outC (H.length + 1) n i)) := by unfold LP; rw [get_at0]; rfl
theorem LP_next (hi : i < n) : (LP H n i ++ [HB.cells (bools (List.replicate n false))]).set H.length (.cells ((outC (H.length + 1) n i).set i (.hs (H.length + 1 + i) n 0 n 1))) = LP H n (i + 1) := by
  unfold LP
  rw [List.append_assoc, set_at0, outC_set hi, List.replicate_succ']
  rfl
theorem LP_LQ : LP H n n = LQ H n (List.replicate (n * n) false) := by
  unfold LP LQ matB
  rw [outC_all, matB_zero n n (Nat.le_refl _)]
end
/-- A cell of the square: what is read, what is set. -/
structure Cel (n : Nat) (o : List Bool) (i k : Nat) (R : List Bool) (u : Bool) : Prop where
  row : rowL n o i = R
  len : R.length = n
  lt : k < R.length
  get : R[k] = u
theorem cel {n : Nat} {o : List Bool} {i k : Nat} (ho : o.length = n * n) (hi : i < n) (hk : k < n) : ∃ R, Cel n o i k R (o.getD (i * n + k) false) := by
  have i1 : i * n + k < o.length := by rw [ho]; exact ix_lt hi hk
  have r1 := rowL_len ho hi
  have k1 : k < (rowL n o i).length := by omega
  refine ⟨rowL n o i, rfl, r1, k1, ?_⟩
  have s1 := rowL_get (o := o) (i := i) hk
  rw [List.getElem?_eq_getElem i1, List.getElem?_eq_getElem k1, Option.some.injEq] at s1
  rw [s1, getD_of i1]
set_option maxRecDepth 20000 in
/-- The edges of one production. -/
theorem c26L2 {C : Orc} {Q : Ex → Kt} {env : Env} {lk L : Nat} {H : Heap} {t k' : Int} {ps : List Pr} {null : List Bool} {n l j : Nat} {pr : List Int} {o : List Bool} (t1 : 1 ≤ t) (t2 : t ≤ 8) (hn : n ≤ 16) (hl : l < n) (hnull : null.length = n) (hpr : pr.length ≤ 8) (hs : ∀ x ∈ pr, 0 ≤ x ∧ x < t + n) (ho : o.length = n * n) (hlk : lk ≤ H.length)
    (hE : restrict [1, 4, 5, 7, 8, 9] env = [(1, .box [I t, I n, I k', .sl ps.length (psC ps)]), (4, .sl n (bools null)), (5, .hs H.length n 0 n 1), (7, I j), (8, .box [I l, .sl pr.length (ints pr)]), (9, I 0)])
    (hQ : ∀ env', restrict [1, 4, 5, 7] env' = [(1, .box [I t, I n, I k', .sl ps.length (psC ps)]), (4, .sl n (bools null)), (5, .hs H.length n 0 n 1), (7, I j)] → Q (.exit 4) env' (LQ H n ((bgL t null pr).foldl (edS n l) o))) :
    WB ⟨C, lk, L, [1, 8]⟩ (.loop [1, 4, 5, 7, 8, 9] t26L2) Q env (LQ H n o) := by
  let bx : AV := .box [I t, I n, I k', .sl ps.length (psC ps)]
  let bp : AV := .box [I l, .sl pr.length (ints pr)]
  obtain ⟨res, hres⟩ : ∃ res, (bgL t null pr).foldl (edS n l) o = res := ⟨_, rfl⟩
  rw [hres] at hQ
  refine wb_loop (σ := Nat × List Bool) (fun s => [(1, bx), (4, .sl n (bools null)), (5, .hs H.length n 0 n 1), (7, I j), (8, bp), (9, I s.1)]) (fun s => LQ H n s.2)
    (fun s => s.1 ≤ pr.length ∧ s.2.length = n * n ∧ (bgL t null (pr.drop s.1)).foldl (edS n l) s.2 = res) (fun s => pr.length - s.1) ?_ (0, o) ⟨Nat.zero_le _, ho, hres⟩ hE rfl
  rintro ⟨k, q⟩ ⟨hk, hql, hinv⟩
  simp only at hk hql hinv
  unfold t26L2
  have w1 : IntKind.i64.wrap ((k : Int) + 1) = (k : Int) + 1 := wrap64 (by omega) (by omega)
  by_cases hkl : k < pr.length
  case neg =>
    obtain rfl : k = pr.length := by omega
    rw [List.drop_length] at hinv
    have hinv : q = res := hinv
    subst hinv
    simp [bx, bp]
    refine hQ _ ?_
    simp
  obtain ⟨x1, x2⟩ := hs pr[k] (List.getElem_mem hkl)
  rw [List.drop_eq_getElem_cons hkl, bgL] at hinv
  generalize hx : pr[k] = x at x1 x2 hinv
  by_cases hxt : x < t
  · rw [if_pos hxt] at hinv
    have hinv : q = res := hinv
    subst hinv
    have y0 : ¬ t ≤ x := by omega
    simp [bx, bp, hkl, hx, y0]
    refine hQ _ ?_
    simp
  rw [if_neg hxt] at hinv
  obtain ⟨y, rfl⟩ : ∃ y : Nat, x = t + (y : Int) := ⟨(x - t).toNat, by omega⟩
  have hy2 : (t + (y : Int) - t).toNat = y := by omega
  have w3 : IntKind.i64.wrap (y : Int) = y := wrap64 (by omega) (by omega)
  have hsub : t + (y : Int) - t = y := by omega
  have hty : t ≤ t + (y : Int) := by omega
  rw [hy2] at hinv
  have hyn : y < null.length := by omega
  have hyn2 : y < n := by omega
  rw [getD_of hyn, List.foldl_cons] at hinv
  have g0 := LQ_0 (H := H) (n := n) (o := q)
  have gl := LQ_row (H := H) (o := q) hl
  obtain ⟨R, hR⟩ := cel hql hl hyn2
  have hset := LQ_set (H := H) hql hl hyn2 true
  rw [hR.row] at gl hset
  have b1 : (bools R).length = n := by rw [bools_len, hR.len]
  have hrp := replaceAt_one (Bo true) (show y < (bools R).length by rw [bools_len]; exact hR.lt)
  rw [bools_set] at hrp
  have hrl := rowV_len (H.length + 1) n n
  have hlk1 : lk ≤ H.length + 1 + l := by omega
  have hyn3 : y + 1 ≤ n := hyn2
  have hed : edS n l q y = q.set (l * n + y) true := rfl
  rw [hed] at hinv
  obtain ⟨v, hv⟩ : ∃ v, null[y] = v := ⟨_, rfl⟩
  rw [hv] at hinv
  have hbn : (bools null).length = n := by rw [bools_len, hnull]
  have hql2 : (q.set (l * n + y) true).length = n * n := by rw [List.length_set]; exact hql
  generalize q.set (l * n + y) true = q2 at hset hinv hql2
  cases v with
  | false =>
    rw [if_neg (by simp)] at hinv
    have hinv : q2 = res := hinv
    subst hinv
    simp [bx, bp, hkl, hx, hty, hsub, w3, g0, hl, hrl, rowV_ge, gl, b1, hyn2, hyn3, setH, hlk1, hrp, hset, hbn, bools_get, hyn, hv]
    refine hQ _ ?_
    simp
  | true =>
    rw [if_pos rfl] at hinv
    simp [bx, bp, hkl, hx, hty, hsub, w3, g0, hl, hrl, rowV_ge, gl, b1, hyn2, hyn3, setH, hlk1, hrp, hset, hbn, bools_get, hyn, hv, w1]
    rw [rnd_nrm]
    refine ⟨(k + 1, q2), ⟨by simp only; omega, hql2, hinv⟩, by simp only; omega, ?_, rfl⟩
    simp [bx, bp]
end Go.Proofs.Ytikedgpcgacgoaa
