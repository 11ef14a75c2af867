import Derived.Test.YtikedgpcgacgoaaX
set_option linter.unusedSimpArgs false
set_option linter.unusedVariables false
namespace Go.Proofs.Ytikedgpcgacgoaa
open Go Go.Hm

set_option maxRecDepth 20000 in
/-- Counting the productions of one nonterminal. -/
theorem p6L1 {C : Orc} {Q : Ex → Kt} {env : Env} {t k' : Int} {n i : Nat} {ps : List Pr} {s0 : List Int} {o : List Nat} (hps : ps.length ≤ 64) (hs0 : s0.length = ps.length)
    (hO : ∀ k (h : k < o.length), o[k] < ps.length ∧ (ps.getD o[k] ⟨0, []⟩).l = i) (hS : ∀ j k (hk : k < o.length) (hjk : j < k), o[j]'(by omega) < o[k]) (hol : o.length ≤ ps.length)
    (hE : restrict [1, 3, 4, 5, 6] env = [(1, .box [I t, I n, I k', .sl ps.length (psC ps)]), (3, .hs 0 ps.length 0 ps.length 1), (4, I i), (5, .sl o.length (nts o)), (6, I 0)])
    (hQ : ∀ env', restrict [1, 3, 4] env' = [(1, .box [I t, I n, I k', .sl ps.length (psC ps)]), (3, .hs 0 ps.length 0 ps.length 1), (4, I i)] → Q (.exit 2) env' [.cells (ints (o.foldl inc s0))]) :
    WB ⟨C, 0, 0, [1, 8, 9]⟩ (.loop [1, 3, 4, 5, 6] t6L1) Q env [.cells (ints s0)] := by
  let bx : AV := .box [I t, I n, I k', .sl ps.length (psC ps)]
  refine wb_loop (σ := Nat) (fun k => [(1, bx), (3, .hs 0 ps.length 0 ps.length 1), (4, I i), (5, .sl o.length (nts o)), (6, I k)]) (fun k => [.cells (ints ((o.take k).foldl inc s0))])
    (fun k => k ≤ o.length) (fun k => o.length - k) ?_ 0 (by simp) hE (by simp)
  intro k hk
  unfold t6L1
  have w1 : IntKind.i64.wrap ((k : Int) + 1) = (k : Int) + 1 := wrap64 (by omega) (by omega)
  by_cases hkl : k < o.length
  case neg =>
    obtain rfl : k = o.length := by omega
    rw [List.take_of_length_le (Nat.le_refl _)]
    simp [bx]
    refine hQ _ ?_
    simp
  have hnx : (o.take (k + 1)).foldl inc s0 = inc ((o.take k).foldl inc s0) o[k] := by
    rw [List.take_succ_eq_append_getElem hkl, List.foldl_append]; rfl
  have hsl := foldl_inc_len (o.take k) s0
  obtain ⟨q1, q2⟩ := hO k hkl
  have done : ∀ (E : Env) (H' : Heap), E = [(1, bx), (3, .hs 0 ps.length 0 ps.length 1), (4, I i), (5, .sl o.length (nts o)), (6, I ((k : Int) + 1))] → H' = [.cells (ints (inc ((o.take k).foldl inc s0) o[k]))] →
    ∃ k2 : Nat, k2 ≤ o.length ∧ o.length - k2 < o.length - k ∧ E = [(1, bx), (3, .hs 0 ps.length 0 ps.length 1), (4, I i), (5, .sl o.length (nts o)), (6, I k2)] ∧ H' = [HB.cells (ints ((o.take k2).foldl inc s0))] := fun E H' h1 h2 => ⟨k + 1, by omega, by omega, by rw [h1]; simp, by rw [h2, hnx]⟩
  have hS := hS (k - 1) k hkl
  generalize hx : o[k] = x at q1 q2 done hS
  generalize (o.take k).foldl inc s0 = s at done hsl ⊢
  have hxs : x < s.length := by omega
  have hxi : x < (ints s).length := by rw [ints_len]; omega
  have hgl := psC_l q1
  have gD : ps.getD x ⟨0, []⟩ = ps[x] := by rw [List.getD_eq_getElem?_getD, List.getElem?_eq_getElem q1]; rfl
  rw [gD] at q2
  rw [q2] at hgl
  have hll := psC_len ps
  have hsd : s.getD x 0 = s[x] := by rw [List.getD_eq_getElem?_getD, List.getElem?_eq_getElem hxs]; rfl
  have hset : (ints s).set x (I (IntKind.i64.wrap (s[x] + 1))) = ints (inc s x) := by
    unfold inc
    rw [hsd]
    simp [ints, List.map_set]
  generalize inc s x = s2 at done hset
  have h1 : ¬ ((x : Int) < 0) := by omega
  have h2 : ¬ ((ps.length : Int) ≤ x) := by omega
  have h3 : x + 1 ≤ ps.length := q1
  have hil : (ints s).length = ps.length := by rw [ints_len]; omega
  have hb : ((i : Int) != (i : Int)) = false := by simp
  have hrp := fun v => replaceAt_one (cs := ints s) (k := x) v hxi
  have h5 : x * 2 + 1 ≤ ps.length * 2 := by omega
  by_cases hk0 : k = 0
  · subst hk0
    simp [bx, hkl, nts_get, hx, h1, h2, h3, q1, hgl, hll, hb, hil, ints_get, hxs, setH, hrp, hset]
    rw [rnd_nrm]
    refine done _ _ ?_ ?_
    · have w0 : IntKind.i64.wrap 1 = 1 := rfl
      simp [bx, w0]
    · rfl
  · have w2 : IntKind.i64.wrap ((k : Int) - 1) = (k : Int) - 1 := wrap64 (by omega) (by omega)
    have hk1 : k - 1 < o.length := by omega
    have hS := hS (by omega)
    generalize hy : o[k - 1] = y at hS
    have h4 : ¬ ((x : Int) ≤ y) := by omega
    have h6 : (0 : Int) < k := by omega
    have h7 : 0 < k := by omega
    have h8 : 0 ≤ (k : Int) - 1 := by omega
    have h11 : (1 : Int) ≤ k := by omega
    have h9 : (k : Int) - 1 < o.length := by omega
    have h10 : ((k : Int) - 1).toNat = k - 1 := by omega
    simp [bx, hkl, nts_get, hx, h1, h2, h3, q1, hgl, hll, hb, hil, ints_get, hxs, setH, hrp, hset, w1, w2, hk1, hy, h4, h6, h7, h8, h9, h10, h11]
    rw [rnd_nrm]
    refine done _ _ ?_ ?_
    · simp [bx]
    · rfl
end Go.Proofs.Ytikedgpcgacgoaa
