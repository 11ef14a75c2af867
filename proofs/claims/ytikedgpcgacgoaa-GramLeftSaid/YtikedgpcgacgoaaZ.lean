import Derived.Test.YtikedgpcgacgoaaY
set_option linter.unusedSimpArgs false
set_option linter.unusedVariables false
namespace Go.Proofs.Ytikedgpcgacgoaa
open Go Go.Hm

abbrev cbx (t k' : Int) (n N : Nat) : AV := .box [I t, I n, I k', .hs 1 (2 * N) 0 N 2]
set_option maxRecDepth 20000 in
/-- A row of a copy is changed. -/
theorem p6L4 {C : Orc} {Q : Ex → Kt} {env : Env} {t k' : Int} {n j N : Nat} {b1 b8 : AV} {cs : List AV} {H : Heap} (hw : WC N cs H) (hN : N ≤ 64) (hj : j < N) {v : AV} (hv : cs[j * 2 + 1]? = some v) (hvr : v = .e0 ∨ ∃ b r, v = .hs b (List.length (α := Int) r) 0 r.length 1 ∧ b ≠ 1 ∧ H[b]? = some (.cells (ints r)) ∧ r.length ≤ 1000)
    (hE : restrict [1, 8, 9, 10, 11] env = [(1, b1), (8, b8), (9, cbx t k' n N), (10, I j), (11, I 0)])
    (hQ : ∀ env' H', restrict [1, 8, 9, 10] env' = [(1, b1), (8, b8), (9, cbx t k' n N), (10, I j)] → WC N cs H' → Q (.exit 8) env' H') :
    WB ⟨C, 0, 0, [1, 8, 9]⟩ (.loop [1, 8, 9, 10, 11] t6L4) Q env H := by
  have hcl := hw.len
  have hlt : j * 2 + 2 ≤ 2 * N := by omega
  have hbk := hw.blk
  rcases hvr with rfl | ⟨b, r0, rfl, hb1, hr0, hrl⟩
  · refine wb_loop0 ?_
    unfold t6L4
    rw [wb_seq, wb_seq, wb_regN, hE]
    simp [hj, hbk, hcl, hv, hlt]
    refine hQ _ _ ?_ hw
    simp
  refine wb_loop (σ := Nat × Heap) (fun s => [(1, b1), (8, b8), (9, cbx t k' n N), (10, I j), (11, I s.1)]) (fun s => s.2)
    (fun s => s.1 ≤ r0.length ∧ WC N cs s.2 ∧ ∃ r, s.2[b]? = some (.cells (ints r)) ∧ r.length = r0.length) (fun s => r0.length - s.1) ?_ (0, H) ⟨Nat.zero_le _, hw, r0, hr0, rfl⟩ hE rfl
  rintro ⟨m, H⟩ ⟨hm, hw, r, hr, hrr⟩
  simp only at hm hw hr
  have hbk := hw.blk
  unfold t6L4
  have w1 : IntKind.i64.wrap ((m : Int) + 1) = (m : Int) + 1 := wrap64 (by omega) (by omega)
  by_cases hml : m < r0.length
  case neg =>
    obtain rfl : m = r0.length := by omega
    simp [hj, hbk, hcl, hv, hlt]
    refine hQ _ _ ?_ hw
    simp
  have hmr : m < r.length := by omega
  have hir : (ints r).length = r0.length := by rw [ints_len, hrr]
  have hmi : m < (ints r).length := by rw [ints_len]; omega
  have hset : (ints r).set m (I (IntKind.i64.wrap (r[m] + 1))) = ints (r.set m (IntKind.i64.wrap (r[m] + 1))) := by simp [ints, List.map_set]
  have hmr2 : m + 1 ≤ r0.length := hml
  have hrp := fun v => replaceAt_one (cs := ints r) (k := m) v hmi
  have hw2 := hw.right (r' := r.set m (IntKind.i64.wrap (r[m] + 1))) hb1 hr (by simp)
  have hg2 : (H.set b (.cells (ints (r.set m (IntKind.i64.wrap (r[m] + 1))))))[b]? = some (.cells (ints (r.set m (IntKind.i64.wrap (r[m] + 1))))) := by rw [List.getElem?_set_self (get_ltG hr)]
  simp [hj, hbk, hcl, hv, hlt, hml, hr, hir, ints_get, hmr, setH, hmr2, hrp, hset, w1]
  rw [rnd_nrm]
  refine ⟨(m + 1, _), ⟨by simp only; omega, hw2, _, hg2, by simp [hrr]⟩, by simp only; omega, ?_, rfl⟩
  simp
set_option maxRecDepth 20000 in
/-- A copy is changed. -/
theorem p6L5 {C : Orc} {Q : Ex → Kt} {env : Env} {t k' : Int} {n N : Nat} {l0 : Int} {b1 b8 : AV} {cs : List AV} {H : Heap} (hN : N ≤ 64) (hw : WC N cs H) (h0 : cs[0]? = some (I l0))
    (hlen : ∀ i v, cs[i * 2 + 1]? = some v → v = .e0 ∨ ∃ b m, v = .hs b m 0 m 1 ∧ m ≤ 1000)
    (hE : restrict [1, 8, 9, 10] env = [(1, b1), (8, b8), (9, cbx t k' n N), (10, I 0)])
    (hQ : ∀ env' H' cs', restrict [1, 8, 9] env' = [(1, b1), (8, b8), (9, cbx t k' n N)] → WC N cs' H' → (0 < N → cs'[0]? = some (I (IntKind.i64.wrap (l0 + 1)))) → (∀ i v, cs'[i * 2 + 1]? = some v → v = .e0 ∨ ∃ b m, v = .hs b m 0 m 1 ∧ m ≤ 1000) → Q (.exit 6) env' H') :
    WB ⟨C, 0, 0, [1, 8, 9]⟩ (.loop [1, 8, 9, 10] t6L5) Q env H := by
  refine wb_loop (σ := Nat × Heap) (fun s => [(1, b1), (8, b8), (9, cbx t k' n N), (10, I s.1)]) (fun s => s.2)
    (fun s => s.1 ≤ N ∧ ∃ cs', WC N cs' s.2 ∧ cs'[0]? = some (I (if s.1 = 0 then l0 else IntKind.i64.wrap (l0 + 1))) ∧ ∀ i v, cs'[i * 2 + 1]? = some v → v = .e0 ∨ ∃ b m, v = .hs b m 0 m 1 ∧ m ≤ 1000) (fun s => N - s.1) ?_ (0, H) ⟨Nat.zero_le _, cs, hw, h0, hlen⟩ hE rfl
  rintro ⟨j, H⟩ ⟨hj, cs', hw, h0, hlen⟩
  simp only at hj hw h0
  unfold t6L5
  have w1 : IntKind.i64.wrap ((j : Int) + 1) = (j : Int) + 1 := wrap64 (by omega) (by omega)
  by_cases hjl : j < N
  case neg =>
    obtain rfl : j = N := by omega
    simp
    refine hQ _ _ cs' ?_ hw (fun h => ?_) hlen
    · simp
    · rw [if_neg (by omega)] at h0; exact h0
  obtain ⟨⟨l, hl⟩, v, hv, hvr⟩ := hw.row j hjl
  have hcl := hw.len
  have hbk := hw.blk
  have hlt : j * 2 + 1 ≤ 2 * N := by omega
  have hjc : j * 2 < cs'.length := by omega
  have hrp := fun v => replaceAt_one (cs := cs') (k := j * 2) v hjc
  have hw2 := hw.left hjl (IntKind.i64.wrap (l + 1))
  have hv2 : (cs'.set (j * 2) (I (IntKind.i64.wrap (l + 1))))[j * 2 + 1]? = some v := by rw [List.getElem?_set_ne (by omega)]; exact hv
  have h02 : (cs'.set (j * 2) (I (IntKind.i64.wrap (l + 1))))[0]? = some (I (IntKind.i64.wrap (l0 + 1))) := by
    by_cases hj0 : j = 0
    · subst hj0
      rw [if_pos rfl] at h0
      have hl : cs'[0]? = some (I l) := by simpa using hl
      rw [h0] at hl
      have : l0 = l := by simpa using hl
      rw [this, List.getElem?_set_self (by omega)]
    · rw [List.getElem?_set_ne (by omega)]
      rw [if_neg hj0] at h0; exact h0
  have hlen2 : ∀ i v, (cs'.set (j * 2) (I (IntKind.i64.wrap (l + 1))))[i * 2 + 1]? = some v → v = .e0 ∨ ∃ b m, v = .hs b m 0 m 1 ∧ m ≤ 1000 := fun i v h => by
    rw [List.getElem?_set_ne (by omega)] at h
    exact hlen i v h
  have hvr2 : v = .e0 ∨ ∃ b r, v = .hs b (List.length (α := Int) r) 0 r.length 1 ∧ b ≠ 1 ∧ (H.set 1 (.cells (cs'.set (j * 2) (I (IntKind.i64.wrap (l + 1))))))[b]? = some (.cells (ints r)) ∧ r.length ≤ 1000 := by
    rcases hvr with h | ⟨b, r, h1, h2, h3⟩
    · exact .inl h
    · refine .inr ⟨b, r, h1, h2, by rw [List.getElem?_set_ne (by omega)]; exact h3, ?_⟩
      rcases hlen j v hv with h | ⟨b', m, h, hm⟩
      · rw [h1] at h; cases h
      · rw [h1] at h
        cases h
        exact hm
  generalize hcc : cs'.set (j * 2) (I (IntKind.i64.wrap (l + 1))) = cs2 at hw2 hv2 h02 hlen2 hvr2
  simp [hjl, hbk, hcl, hl, hlt, setH, hrp, hcc]
  refine p6L4 (t := t) (k' := k') (n := n) (b1 := b1) (b8 := b8) hw2 hN hjl hv2 hvr2 (by simp) (fun env' H' hE' hw' => ?_)
  rw [blk_exit, if_pos rfl, blk_nrm, fol_nrm, wb_regN, hE']
  simp [w1]
  rw [rnd_nrm]
  refine ⟨(j + 1, H'), ⟨by simp only; omega, cs2, hw', by simp only; rw [if_neg (by omega)]; exact h02, hlen2⟩, by simp only; omega, ?_, rfl⟩
  simp
end Go.Proofs.Ytikedgpcgacgoaa
