import Derived.Test.YtdbbaopgmapmaaaGF
set_option linter.unusedSimpArgs false
set_option linter.unusedVariables false
namespace Go.Proofs.Ytdbbaopgmapmaaa
open Go Go.Hm
theorem take_ext {l m : List Int} (hl : l.length = m.length) {k : Nat} (h : ∀ j, j < k → l[j]? = m[j]?) (hk : k = l.length) : l = m := by
  refine List.ext_getElem? fun j => ?_
  by_cases hj : j < k
  · exact h j hj
  · rw [List.getElem?_eq_none (by omega), List.getElem?_eq_none (by omega)]
set_option maxRecDepth 20000 in
/-- Are two tables the same? -/
theorem same_code {lk lim : Nat} {H : Heap} (nx1 rl1 nx2 rl2 : List Int) (h1 : nx1.length ≤ 1000000) (h2 : rl1.length ≤ 1000000) (h3 : nx2.length ≤ 1000000) (h4 : rl2.length ≤ 1000000) :
    callW X A lk lim 16 [.agg (Dv nx1 rl1), .agg (Dv nx2 rl2)] H = some (Bo (decide (nx1 = nx2) && decide (rl1 = rl2)), H) := by
  refine wb_callB [2, 3] rfl A16 rfl rfl ?_
  unfold t16B
  by_cases a1 : nx1.length = nx2.length
  case neg =>
    have e : decide (nx1 = nx2) = false := decide_eq_false fun e => a1 (by rw [e])
    have a1' : ((nx1.length : Int) == nx2.length) = false := by rw [beq_eq_false_iff_ne]; omega
    have a1'' : ((nx1.length : Int) != nx2.length) = true := by rw [bne_iff_ne]; omega
    simp [a1', a1'', e]
  by_cases a2 : rl1.length = rl2.length
  case neg =>
    have e : decide (rl1 = rl2) = false := decide_eq_false fun e => a2 (by rw [e])
    have a2' : ((rl1.length : Int) == rl2.length) = false := by rw [beq_eq_false_iff_ne]; omega
    have a2'' : ((rl1.length : Int) != rl2.length) = true := by rw [bne_iff_ne]; omega
    have a1' : ((nx1.length : Int) = nx2.length) := by omega
    simp [a1', a2', a2'', e]
  have a1' : ((nx1.length : Int) = nx2.length) := by omega
  have a2' : ((rl1.length : Int) = rl2.length) := by omega
  simp [a1', a2']
  let bx1 : AV := .box (Dv nx1 rl1)
  let bx2 : AV := .box (Dv nx2 rl2)
  refine wb_loop (σ := Nat) (fun k => [(2, bx1), (3, bx2), (5, I k)]) (fun _ => H) (fun k => k ≤ nx1.length ∧ ∀ j, j < k → nx1[j]? = nx2[j]?) (fun k => nx1.length - k) ?_ 0 ⟨Nat.zero_le _, fun j hj => by omega⟩ (by simp [bx1, bx2]) rfl
  rintro k ⟨hk, hinv⟩
  unfold t16L1
  have w1 : IntKind.i64.wrap ((k : Int) + 1) = (k : Int) + 1 := wrap64 (by omega) (by omega)
  by_cases hkl : k < nx1.length
  case pos =>
    have hkl2 : k < nx2.length := by omega
    obtain ⟨x, hx⟩ : ∃ x, nx1[k] = x := ⟨_, rfl⟩
    obtain ⟨y, hy⟩ : ∃ y, nx2[k] = y := ⟨_, rfl⟩
    by_cases hxy : x = y
    · subst hxy
      simp [bx1, bx2, hkl, hkl2, hx, hy, w1, rnd_nrm]
      refine ⟨k + 1, ⟨hkl, fun j hj => ?_⟩, by omega, by simp⟩
      by_cases hjk : j = k
      · subst hjk; rw [List.getElem?_eq_getElem hkl, List.getElem?_eq_getElem hkl2, hx, hy]
      · exact hinv j (by omega)
    · have e : decide (nx1 = nx2) = false := decide_eq_false fun e => by subst e; exact hxy (hx.symm.trans hy)
      simp [bx1, bx2, hkl, hkl2, hx, hy, hxy, e]
  obtain rfl : k = nx1.length := by omega
  have e1 : nx1 = nx2 := take_ext a1 hinv rfl
  have e1' : decide (nx1 = nx2) = true := decide_eq_true e1
  simp [bx1, bx2]
  refine wb_loop (σ := Nat) (fun k => [(2, bx1), (3, bx2), (6, I k)]) (fun _ => H) (fun k => k ≤ rl1.length ∧ ∀ j, j < k → rl1[j]? = rl2[j]?) (fun k => rl1.length - k) ?_ 0 ⟨Nat.zero_le _, fun j hj => by omega⟩ (by simp [bx1, bx2]) rfl
  rintro k ⟨hk, hinv⟩
  unfold t16L2
  have w1 : IntKind.i64.wrap ((k : Int) + 1) = (k : Int) + 1 := wrap64 (by omega) (by omega)
  by_cases hkl : k < rl1.length
  case pos =>
    have hkl2 : k < rl2.length := by omega
    obtain ⟨x, hx⟩ : ∃ x, rl1[k] = x := ⟨_, rfl⟩
    obtain ⟨y, hy⟩ : ∃ y, rl2[k] = y := ⟨_, rfl⟩
    by_cases hxy : x = y
    · subst hxy
      simp [bx1, bx2, hkl, hkl2, hx, hy, w1, rnd_nrm]
      refine ⟨k + 1, ⟨hkl, fun j hj => ?_⟩, by omega, by simp⟩
      by_cases hjk : j = k
      · subst hjk; rw [List.getElem?_eq_getElem hkl, List.getElem?_eq_getElem hkl2, hx, hy]
      · exact hinv j (by omega)
    · have e : decide (rl1 = rl2) = false := decide_eq_false fun e => by subst e; exact hxy (hx.symm.trans hy)
      simp [bx1, bx2, hkl, hkl2, hx, hy, hxy, e]
  obtain rfl : k = rl1.length := by omega
  have e2 : rl1 = rl2 := take_ext a2 hinv rfl
  have e2' : decide (rl1 = rl2) = true := decide_eq_true e2
  simp [bx1, bx2, e1', e2']
end Go.Proofs.Ytdbbaopgmapmaaa
