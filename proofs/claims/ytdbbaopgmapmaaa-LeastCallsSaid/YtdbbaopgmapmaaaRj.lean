import Derived.Test.YtdbbaopgmapmaaaRi
set_option linter.unusedSimpArgs false
set_option linter.unusedVariables false
namespace Go.Proofs.Ytdbbaopgmapmaaa
open Go Go.Hm
/-! ### All answers, of any tables -/
def leastV (nx rl : List Int) : AV := if chk nx rl = true then .tup [.agg (Dv (lN nx rl) (lR nx rl)), I 0] else .tup [.agg [.e0, .e0], I 2]
def witO (nx1 rl1 nx2 rl2 : List Int) : Option (List UInt8) := if chk nx1 rl1 = true ∧ chk nx2 rl2 = true then witM nx1 rl1 nx2 rl2 else none
def shortO (nx rl : List Int) (r : Int) : Option (List UInt8) := if chk nx rl = true then (if r < 0 then none else shortM nx rl r) else none
def eqO (nx1 rl1 nx2 rl2 : List Int) : Bool := chk nx1 rl1 && chk nx2 rl2 && (witM nx1 rl1 nx2 rl2).isNone
set_option maxRecDepth 20000 in
theorem least_any {lk lim : Nat} {H : Heap} (nx rl : List Int) (h1 : nx.length ≤ 1000000) (h2 : rl.length ≤ 1000000) (hlk : lk ≤ H.length) : callW X A lk lim 12 [.agg (Dv nx rl)] H = some (leastV nx rl, H) := by
  unfold leastV
  by_cases hc : chk nx rl = true
  · rw [if_pos hc]; exact least_code nx rl hc hlk
  · rw [if_neg hc]
    have kc := fun (L : Nat) => dcheck_code (lk := lk) (lim := L) (H := H) nx rl h1 h2
    rw [chkE_neg hc] at kc
    refine wb_callB [1, 2, 8] rfl A12 rfl rfl ?_
    unfold t12B
    generalize callW X A = C at kc ⊢
    simp [kc, replaceAt]
set_option maxRecDepth 20000 in
theorem rleast_any {lk lim : Nat} {H : Heap} (nx rl : List Int) (h1 : nx.length ≤ 1000000) (h2 : rl.length ≤ 1000000) (hlk : lk ≤ H.length) : callW X A lk lim 22 [.agg (Dv nx rl)] H = some (leastV nx rl, H) := by
  unfold leastV
  by_cases hc : chk nx rl = true
  · rw [if_pos hc]; exact rleast_code nx rl hc hlk
  · rw [if_neg hc]
    have kc := fun (L : Nat) => check_code (lk := lk) (lim := L) (H := H) nx rl h1 h2
    rw [chkE_neg hc] at kc
    refine wb_callB [1, 2, 10] rfl A22 rfl rfl ?_
    unfold t22B
    generalize callW X A = C at kc ⊢
    simp [kc, replaceAt]
theorem chkE_any (nx rl : List Int) : chkE nx rl = if chk nx rl = true then 0 else 2 := rfl
set_option maxRecDepth 20000 in
theorem wit_any {lk lim : Nat} {H : Heap} (nx1 rl1 nx2 rl2 : List Int) (h1 : nx1.length ≤ 1000000) (h2 : rl1.length ≤ 1000000) (h3 : nx2.length ≤ 1000000) (h4 : rl2.length ≤ 1000000) (hlk : lk ≤ H.length) :
    callW X A lk lim 19 [.agg (Dv nx1 rl1), .agg (Dv nx2 rl2)] H = some (txtV (witO nx1 rl1 nx2 rl2), H) := by
  unfold witO
  by_cases hc : chk nx1 rl1 = true ∧ chk nx2 rl2 = true
  · rw [if_pos hc]; exact wit_code nx1 rl1 nx2 rl2 hc.1 hc.2 hlk
  · rw [if_neg hc]
    let H1 : Heap := H ++ [.cells (Dv nx1 rl1), .cells (Dv nx2 rl2)]
    have kc1 := fun (K L : Nat) => dcheck_code (lk := K) (lim := L) (H := H1) nx1 rl1 h1 h2
    have kc2 := fun (K L : Nat) => dcheck_code (lk := K) (lim := L) (H := H1) nx2 rl2 h3 h4
    refine wb_callB [] rfl A19 rfl rfl ?_
    unfold t19B
    by_cases hc1 : chk nx1 rl1 = true
    · have hc2 : ¬ chk nx2 rl2 = true := fun h => hc ⟨hc1, h⟩
      rw [chkE_pos hc1] at kc1
      rw [chkE_neg hc2] at kc2
      generalize callW X A = C at kc1 kc2 ⊢
      simp only [H1] at kc1 kc2
      simp [kc1, kc2, txtV]
    · rw [chkE_neg hc1] at kc1
      generalize callW X A = C at kc1 kc2 ⊢
      simp only [H1] at kc1 kc2
      simp [kc1, kc2, txtV]
set_option maxRecDepth 20000 in
theorem rwit_any {lk lim : Nat} {H : Heap} (nx1 rl1 nx2 rl2 : List Int) (h1 : nx1.length ≤ 1000000) (h2 : rl1.length ≤ 1000000) (h3 : nx2.length ≤ 1000000) (h4 : rl2.length ≤ 1000000) (hlk : lk ≤ H.length) :
    callW X A lk lim 23 [.agg (Dv nx1 rl1), .agg (Dv nx2 rl2)] H = some (txtV (witO nx1 rl1 nx2 rl2), H) := by
  unfold witO
  by_cases hc : chk nx1 rl1 = true ∧ chk nx2 rl2 = true
  · rw [if_pos hc]; exact rwit_code nx1 rl1 nx2 rl2 hc.1 hc.2 hlk
  · rw [if_neg hc]
    have kc1 := fun (K L : Nat) => check_code (lk := K) (lim := L) (H := H) nx1 rl1 h1 h2
    have kc2 := fun (K L : Nat) => check_code (lk := K) (lim := L) (H := H) nx2 rl2 h3 h4
    refine wb_callB [2, 3] rfl A23 rfl rfl ?_
    unfold t23B
    by_cases hc1 : chk nx1 rl1 = true
    · have hc2 : ¬ chk nx2 rl2 = true := fun h => hc ⟨hc1, h⟩
      rw [chkE_pos hc1] at kc1
      rw [chkE_neg hc2] at kc2
      generalize callW X A = C at kc1 kc2 ⊢
      simp [kc1, kc2, txtV]
    · rw [chkE_neg hc1] at kc1
      generalize callW X A = C at kc1 kc2 ⊢
      simp [kc1, kc2, txtV]
set_option maxRecDepth 20000 in
theorem short_any {lk lim : Nat} {H : Heap} (nx rl : List Int) (r : Int) (h1 : nx.length ≤ 1000000) (h2 : rl.length ≤ 1000000) (hlk : lk ≤ H.length) : callW X A lk lim 14 [.agg (Dv nx rl), I r] H = some (txtV (shortO nx rl r), H) := by
  unfold shortO
  by_cases hc : chk nx rl = true
  · rw [if_pos hc]; exact short_code nx rl r hc hlk
  · rw [if_neg hc]
    let H1 : Heap := H ++ [.cells (Dv nx rl), .cells [I r]]
    have kc := fun (K L : Nat) => dcheck_code (lk := K) (lim := L) (H := H1) nx rl h1 h2
    rw [chkE_neg hc] at kc
    refine wb_callB [] rfl A14 rfl rfl ?_
    unfold t14B
    generalize callW X A = C at kc ⊢
    simp only [H1] at kc
    by_cases hr : r < 0
    · simp [kc, hr, txtV]
    · simp [kc, hr, txtV]
set_option maxRecDepth 20000 in
theorem rshort_any {lk lim : Nat} {H : Heap} (nx rl : List Int) (r : Int) (h1 : nx.length ≤ 1000000) (h2 : rl.length ≤ 1000000) (hlk : lk ≤ H.length) : callW X A lk lim 24 [.agg (Dv nx rl), I r] H = some (txtV (shortO nx rl r), H) := by
  unfold shortO
  by_cases hc : chk nx rl = true
  · rw [if_pos hc]; exact rshort_code nx rl r hc hlk
  · rw [if_neg hc]
    have kc := fun (K L : Nat) => check_code (lk := K) (lim := L) (H := H) nx rl h1 h2
    rw [chkE_neg hc] at kc
    refine wb_callB [2] rfl A24 rfl rfl ?_
    unfold t24B
    generalize callW X A = C at kc ⊢
    simp [kc, txtV]
set_option maxRecDepth 20000 in
theorem equal_any {lk lim : Nat} {H : Heap} (nx1 rl1 nx2 rl2 : List Int) (h1 : nx1.length ≤ 1000000) (h2 : rl1.length ≤ 1000000) (h3 : nx2.length ≤ 1000000) (h4 : rl2.length ≤ 1000000) (hlk : lk ≤ H.length) :
    callW X A lk lim 17 [.agg (Dv nx1 rl1), .agg (Dv nx2 rl2)] H = some (Bo (eqO nx1 rl1 nx2 rl2), H) := by
  unfold eqO
  by_cases hc1 : chk nx1 rl1 = true
  · by_cases hc2 : chk nx2 rl2 = true
    · rw [hc1, hc2]; exact equal_code nx1 rl1 nx2 rl2 hc1 hc2 hlk
    · have kc1 := fun (K L : Nat) => dcheck_code (lk := K) (lim := L) (H := H) nx1 rl1 h1 h2
      have kc2 := fun (K L : Nat) => dcheck_code (lk := K) (lim := L) (H := H) nx2 rl2 h3 h4
      rw [chkE_pos hc1] at kc1
      rw [chkE_neg hc2] at kc2
      have e : chk nx2 rl2 = false := by simpa using hc2
      rw [e, Bool.and_false, Bool.false_and]
      refine wb_callB [2, 3] rfl A17 rfl rfl ?_
      unfold t17B
      generalize callW X A = C at kc1 kc2 ⊢
      simp [kc1, kc2]
  · have kc1 := fun (K L : Nat) => dcheck_code (lk := K) (lim := L) (H := H) nx1 rl1 h1 h2
    rw [chkE_neg hc1] at kc1
    have e : chk nx1 rl1 = false := by simpa using hc1
    rw [e, Bool.false_and, Bool.false_and]
    refine wb_callB [2, 3] rfl A17 rfl rfl ?_
    unfold t17B
    generalize callW X A = C at kc1 ⊢
    simp [kc1]
set_option maxRecDepth 20000 in
theorem requal_any {lk lim : Nat} {H : Heap} (nx1 rl1 nx2 rl2 : List Int) (h1 : nx1.length ≤ 1000000) (h2 : rl1.length ≤ 1000000) (h3 : nx2.length ≤ 1000000) (h4 : rl2.length ≤ 1000000) (hlk : lk ≤ H.length) :
    callW X A lk lim 26 [.agg (Dv nx1 rl1), .agg (Dv nx2 rl2)] H = some (Bo (eqO nx1 rl1 nx2 rl2), H) := by
  have kw := fun L => rwit_any (lk := lk) (lim := L) (H := H) nx1 rl1 nx2 rl2 h1 h2 h3 h4 hlk
  have kc1 := fun (K L : Nat) => check_code (lk := K) (lim := L) (H := H) nx1 rl1 h1 h2
  have kc2 := fun (K L : Nat) => check_code (lk := K) (lim := L) (H := H) nx2 rl2 h3 h4
  rw [chkE_any] at kc1 kc2
  refine wb_callB [2, 3] rfl A26 rfl rfl ?_
  unfold t26B
  unfold eqO
  unfold witO at kw
  cases hc1 : chk nx1 rl1 with
  | false =>
    rw [hc1] at kc1 kw
    rw [if_neg (by simp)] at kc1
    rw [if_neg (by simp)] at kw
    generalize callW X A = C at kw kc1 ⊢
    simp [kw, kc1, txtV]
  | true =>
    rw [hc1] at kc1 kw
    rw [if_pos rfl] at kc1
    cases hc2 : chk nx2 rl2 with
    | false =>
      rw [hc2] at kc2 kw
      rw [if_neg (by simp)] at kc2
      rw [if_neg (by simp)] at kw
      generalize callW X A = C at kw kc1 kc2 ⊢
      simp [kw, kc1, kc2, txtV]
    | true =>
      rw [hc2] at kc2 kw
      rw [if_pos rfl] at kc2
      rw [if_pos (by simp)] at kw
      generalize callW X A = C at kw kc1 kc2 ⊢
      generalize witM nx1 rl1 nx2 rl2 = o at kw ⊢
      cases o with
      | none => simp [kw, kc1, kc2, txtV]
      | some w => simp [kw, kc1, kc2, txtV]
/-! Rows that are the same. -/
set_option maxRecDepth 20000 in
theorem sameb_code {lk lim : Nat} {H : Heap} (v : List Bool) (h : v.length ≤ 1000000) : callW X A lk lim 21 [.sl v.length (bools v), .sl v.length (bools v)] H = some (Bo true, H) := by
  refine wb_callB [] rfl A21 rfl rfl ?_
  unfold t21B
  simp
  refine wb_loop (σ := Nat) (fun k => [(0, .sl v.length (bools v)), (1, .sl v.length (bools v)), (5, I k)]) (fun _ => H) (fun k => k ≤ v.length) (fun k => v.length - k) ?_ 0 (Nat.zero_le _) (by simp) rfl
  intro k hk
  unfold t21L1
  have w1 : IntKind.i64.wrap ((k : Int) + 1) = (k : Int) + 1 := wrap64 (by omega) (by omega)
  by_cases hkl : k < v.length
  · obtain ⟨x, hx⟩ : ∃ x, v[k] = x := ⟨_, rfl⟩
    simp [hkl, hx, w1]
    rw [rnd_nrm]
    exact ⟨k + 1, hkl, by omega, by simp, rfl⟩
  · obtain rfl : k = v.length := by omega
    simp
set_option maxRecDepth 20000 in
theorem sameb_e0 {lk lim : Nat} {H : Heap} : callW X A lk lim 21 [.e0, .e0] H = some (Bo true, H) := by
  refine wb_callB [] rfl A21 rfl rfl ?_
  unfold t21B
  simp
  refine wb_loop0 ?_
  unfold t21L1
  simp
set_option maxRecDepth 20000 in
theorem same_e0 {lk lim : Nat} {H : Heap} : callW X A lk lim 16 [.agg [.e0, .e0], .agg [.e0, .e0]] H = some (Bo true, H) := by
  refine wb_callB [2, 3] rfl A16 rfl rfl ?_
  unfold t16B
  simp
  refine wb_loop0 ?_
  unfold t16L1
  simp
  refine wb_loop0 ?_
  unfold t16L2
  simp
end Go.Proofs.Ytdbbaopgmapmaaa
