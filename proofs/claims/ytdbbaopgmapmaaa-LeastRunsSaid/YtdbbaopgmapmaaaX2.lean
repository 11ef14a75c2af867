import Derived.Test.YtdbbaopgmapmaaaX1
import Derived.Test.YtdbbaopgmapmaaaF4
set_option linter.unusedSimpArgs false
set_option linter.unusedVariables false
namespace Go.Proofs.Ytdbbaopgmapmaaa
open Go Go.Hm
theorem sg_toList (a : List UInt8) : (⟨⟨a⟩⟩ : ByteArray).toList = a := by rw [ByteArray.toList_eq]
theorem sg_eqlN (a : List UInt8) : abins .eql ⟨⟨a⟩⟩ ⟨#[]⟩ = some (Bo (a == [])) := by
  rw [show (⟨#[]⟩ : ByteArray) = ⟨⟨[]⟩⟩ from rfl]
  simp only [abins, sg_toList]
theorem sg_eql (a b : List UInt8) : abins .eql ⟨⟨a⟩⟩ ⟨⟨b⟩⟩ = some (Bo (a == b)) := by
  simp only [abins, sg_toList]
theorem sg_neq (a b : List UInt8) : abins .neq ⟨⟨a⟩⟩ ⟨⟨b⟩⟩ = some (Bo (!(a == b))) := by
  simp only [abins, sg_toList]
theorem sg_leq (a b : List UInt8) : abins .leq ⟨⟨a⟩⟩ ⟨⟨b⟩⟩ = some (Bo (Op.bytesLess a b || a == b)) := by
  simp only [abins, sg_toList]
theorem txF_le (Q : List Stp) : ∀ f k, (txF Q f k).length ≤ f
  | 0, _ => Nat.le_refl _
  | f + 1, k => by
    simp only [txF]
    split
    · simp
    · split
      · simp only [List.length_cons]
        have := txF_le Q f ‹Stp›.par
        omega
      · simp
theorem bfs_le (nx1 nx2 : List Int) (P : Int → Int → Bool) : ∀ (f : Nat) (Q : List Stp) (i : Nat) (w : List UInt8), bfs nx1 nx2 P f Q i = some w → w.length ≤ f + i
  | 0, _, _, _, h => by cases h
  | f + 1, Q, i, w, h => by
    simp only [bfs] at h
    split at h
    · cases h
    · split at h
      · obtain rfl := Option.some.inj h
        rw [List.length_reverse]
        have := txF_le Q i i
        omega
      · have := bfs_le nx1 nx2 P f _ _ w h
        omega
theorem bfs_len {nx1 nx2 rl1 rl2 : List Int} (m1 : rl1.length ≤ 512) (m2 : rl2.length ≤ 512) {P : Int → Int → Bool} {w : List UInt8} (h : bfs nx1 nx2 P ((rl1.length + 1) * (rl2.length + 1) + 1) [⟨0, 0, 0, 0⟩] 0 = some w) : w.length ≤ 1000000 := by
  have h2 := bfs_le _ _ _ _ _ _ _ h
  have h3 : (rl1.length + 1) * (rl2.length + 1) ≤ 513 * 513 := Nat.mul_le_mul (by omega) (by omega)
  omega
/-- w is not behind s, as the program tells it. -/
theorem sle_bool {w s : List UInt8} (h : SLe w s) : ((w.length : Int) < s.length ∨ ((w.length : Int) = s.length ∧ (Op.bytesLess w s || w == s) = true)) := by
  rcases h with (h | ⟨h1, h2⟩) | rfl
  · exact .inl (by omega)
  · exact .inr ⟨by omega, by rw [h2]; rfl⟩
  · exact .inr ⟨rfl, by simp⟩
set_option maxRecDepth 20000 in
theorem lshort_code (nx rl : List Int) (r : Int) (s : List UInt8) : callW X A 0 0 4 [.agg (Dv nx rl), I r, Sg s] [] = some (Bo true, []) := by
  refine wb_callB [3] rfl A4 rfl rfl ?_
  unfold t4B
  have k0 := lives_ok
  have k1 := light_code (lk := 0) (lim := 0) (H := []) nx rl 16 (by omega)
  rw [show ((16 : Nat) : Int) = 16 from rfl] at k1
  by_cases a1 : rl.length ≤ 16 ∧ nx.length ≤ 256 * 16
  case neg =>
    have hf : (decide (rl.length ≤ 16) && decide (nx.length ≤ 256 * 16)) = false := by
      rw [← Bool.decide_and]; exact decide_eq_false a1
    rw [hf] at k1
    generalize callW X A = C at k0 k1 ⊢
    simp [k0, k1]
  have ht : (decide (rl.length ≤ 16) && decide (nx.length ≤ 256 * 16)) = true := by
    rw [← Bool.decide_and]; exact decide_eq_true a1
  rw [ht] at k1
  obtain ⟨b1, b2⟩ := a1
  by_cases a2 : (12 : Int) < s.length
  · generalize callW X A = C at k0 k1 ⊢
    simp [k0, k1, Sg_size, a2]
  have k2 := check_code (lk := 0) (lim := 0) (H := []) nx rl (by omega) (by omega)
  by_cases a5 : chk nx rl = true
  case neg =>
    rw [chkE_neg a5] at k2
    generalize callW X A = C at k0 k1 k2 ⊢
    simp [k0, k1, Sg_size, a2, k2]
  rw [chkE_pos a5] at k2
  obtain ⟨ok, m1, _⟩ := chk_ok a5
  have k3 := short_code (lk := 0) (lim := 0) (H := []) nx rl r a5 (by simp)
  have k4 := run_code (lk := 0) (lim := 0) (H := []) nx rl s a5 (by omega)
  have law := short_law ok r
  by_cases hr : r < 0
  · rw [if_pos hr] at k3
    simp only [txtV] at k3
    have hr' : ¬ 0 ≤ r := by omega
    generalize callW X A = C at k0 k1 k2 k3 ⊢
    simp [k0, k1, Sg_size, a2, k2, k3, hr', sg_eqlN]
  rw [if_neg hr] at k3
  have hr' : 0 ≤ r := by omega
  cases ho : shortM nx rl r with
  | none =>
    rw [ho] at k3 law
    have hn := law s
    simp only [decide_eq_false_iff_not] at hn
    simp only [txtV] at k3
    generalize callW X A = C at k0 k1 k2 k3 k4 ⊢
    simp [k0, k1, Sg_size, a2, k2, k3, k4, hr', hn, sg_eqlN]
  | some w =>
    rw [ho] at k3 law
    have hwl := bfs_len m1 m1 ho
    have k5 := run_code (lk := 0) (lim := 0) (H := []) nx rl w a5 hwl
    have hw := law.1
    simp only [decide_eq_true_eq] at hw
    rw [hw] at k5
    simp only [txtV] at k3
    by_cases hs : runM nx rl s = r
    · have hle := sle_bool (law.2 s (by simp only [decide_eq_true_eq]; exact hs))
      rw [hs] at k4
      generalize callW X A = C at k0 k1 k2 k3 k4 k5 ⊢
      by_cases c1 : (w.length : Int) < s.length
      · simp [k0, k1, Sg_size, a2, k2, k3, k4, k5, hr', c1]
      · obtain ⟨c2, c3⟩ := hle.resolve_left c1
        simp [k0, k1, Sg_size, a2, k2, k3, k4, k5, hr', c2, sg_leq, c3]
    · have hb : (runM nx rl s == r) = false := by simpa using hs
      generalize callW X A = C at k0 k1 k2 k3 k4 k5 ⊢
      simp [k0, k1, Sg_size, a2, k2, k3, k4, k5, hr', hb]
end Go.Proofs.Ytdbbaopgmapmaaa
