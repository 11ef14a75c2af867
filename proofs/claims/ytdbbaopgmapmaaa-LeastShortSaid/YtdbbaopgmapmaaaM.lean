import Derived.Test.YtdbbaopgmapmaaaL
set_option linter.unusedSimpArgs false
set_option linter.unusedVariables false
namespace Go.Proofs.Ytdbbaopgmapmaaa
open Go Go.Hm
/-! ### Where a state leads (-1 leads nowhere), its rule -/
def toV (nx : List Int) (s : Int) (c : Nat) : Int := if s < 0 then -1 else nx.getD (256 * s.toNat + c) 0
def rulV (rl : List Int) (s : Int) : Int := if s < 0 then -1 else rl.getD s.toNat 0
theorem toV_b {nx rl : List Int} (ok : TOk nx rl) {s : Int} (h2 : s < rl.length) {c : Nat} (hc : c < 256) : -1 ≤ toV nx s c ∧ toV nx s c < rl.length := by
  unfold toV
  have := ok.one
  split
  · omega
  · have hl := ok.len
    have hi : 256 * s.toNat + c < nx.length := by omega
    rw [List.getD_eq_getElem?_getD, List.getElem?_eq_getElem hi]
    exact ok.nxb _ (List.getElem_mem hi)
theorem to_code {lk lim : Nat} {H : Heap} (nx rl : List Int) (ok : TOk nx rl) (s : Int) (h2 : s < rl.length) (c : Nat) (hc : c < 256) : callW X A lk lim 47 [.agg (Dv nx rl), I s, I (c : Int)] H = some (I (toV nx s c), H) := by
  refine wb_callB [3] rfl A47 rfl rfl ?_
  unfold t47B
  unfold toV
  have hl := ok.len
  have hm := ok.most
  by_cases h : s < 0
  · simp [h]
  · obtain ⟨k, rfl⟩ := Int.eq_ofNat_of_zero_le (by omega : 0 ≤ s)
    have w1 : IntKind.i64.wrap (256 * (k : Int)) = 256 * (k : Int) := wrap64 (by omega) (by omega)
    have w2 : IntKind.i64.wrap (256 * (k : Int) + (c : Int)) = 256 * (k : Int) + (c : Int) := wrap64 (by omega) (by omega)
    have e1 : (256 * (k : Int) + (c : Int)).toNat = 256 * k + c := by omega
    have e2 : 0 ≤ 256 * (k : Int) + (c : Int) := by omega
    have e3 : 256 * (k : Int) + (c : Int) < (nx.length : Int) := by omega
    have hi : 256 * k + c < nx.length := by omega
    obtain ⟨x, hx⟩ : ∃ x, nx[256 * k + c] = x := ⟨_, rfl⟩
    simp [h, w1, w2, e1, e2, e3, hi, hx]
theorem rule_code {lk lim : Nat} {H : Heap} (nx rl : List Int) (s : Int) (h2 : s < rl.length) : callW X A lk lim 33 [.agg (Dv nx rl), I s] H = some (I (rulV rl s), H) := by
  refine wb_callB [2] rfl A33 rfl rfl ?_
  unfold t33B
  unfold rulV
  by_cases h : s < 0
  · simp [h]
  · obtain ⟨k, rfl⟩ := Int.eq_ofNat_of_zero_le (by omega : 0 ≤ s)
    have hi : k < rl.length := by omega
    obtain ⟨x, hx⟩ : ∃ x, rl[k] = x := ⟨_, rfl⟩
    simp [h, hi, hx]
/-- The first text with a rule: what is looked for. -/
theorem c32_code {lk lim : Nat} {H : Heap} (nx rl : List Int) (r x y : Int) (b : Nat) (h2 : x < rl.length) (hlk : lk ≤ H.length) (g0 : H[b]? = some (.cells (Dv nx rl))) (g1 : H[b + 1]? = some (.cells [I r])) :
    callW X A lk lim 32 [I x, I y, .hp b 2 0, .hp (b + 1) 1 0] H = some (Bo (decide (rulV rl x = r)), H) := by
  have k := fun K L => rule_code (lk := K) (lim := L) (H := H) nx rl x h2
  refine wb_callB [] rfl A32 rfl rfl ?_
  unfold t32B
  generalize callW X A = C at k ⊢
  simp [g0, g1, k]
  rw [Bool.eq_iff_iff]; simp
end Go.Proofs.Ytdbbaopgmapmaaa
