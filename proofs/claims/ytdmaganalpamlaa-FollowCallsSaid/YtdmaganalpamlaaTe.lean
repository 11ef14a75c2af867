import Derived.Test.YtdmaganalpamlaaTd
import Derived.Test.YtdmaganalpamlaaGO
set_option linter.unusedSimpArgs false
set_option linter.unusedVariables false
namespace Go.Proofs.Ytdmaganalpamlaa
open Go Go.Hm

set_option maxRecDepth 20000 in
set_option maxHeartbeats 1000000 in
theorem rends_code {lk lim : Nat} {H : Heap} (hlk : lk ≤ H.length) (g : Gm) (hl : g.ps.length ≤ 1000000) (hr : ∀ p ∈ g.ps, p.r.length ≤ 1000000) (left : Int) : callW X A lk lim 27 [gV g, I left] H = some (Bo (endM g left), H) := by
  obtain ⟨v, h', ks, hh, hv⟩ := rsets_code (lk := lk) (lim := H.length) (H := H) hlk g hl hr
  rw [hh] at ks
  have kh := fun (L : Nat) (v : AV) (l : List (List UInt8)) (hv : RV v l) h => has2_code (lk := lk) (lim := L) (H := H) hv [255] h
  have hcl : (g.cells).length = 4 := rfl
  have ht4 : List.take 4 g.cells = g.cells := rfl
  refine wb_callB [2] rfl A27 rfl rfl ?_
  unfold t27B
  have hsh : v = .e0 ∨ ∃ cs, v = .sl cs.length cs := by
    split at hv
    · obtain ⟨cs, h, _⟩ := hv; exact .inr ⟨cs, h⟩
    · exact .inl hv
  by_cases h0 : 0 ≤ left
  case neg =>
    rw [endM_no (fun h => h0 h.2.1)]
    generalize callW X A = C at ks ⊢
    clear hv
    rcases hsh with rfl | ⟨cs, rfl⟩
    all_goals
      simp [-wb_true, -wb_false, -wb_regN]
      rw [wb_regN]
      simp [-wb_true, -wb_false, -wb_regN, hcl]
      rw [wb_regN]
      simp [-wb_true, -wb_false, -wb_regN, -wb_regD, hcl, ht4, ks]
      rw [wb_regD rfl]
      simp [h0]
  by_cases hc : chkE g = 0
  case neg =>
    rw [endM_no (fun h => hc h.1)]
    rw [if_neg hc] at hv
    subst hv
    have h1 : ¬ left < 0 := by omega
    generalize callW X A = C at ks ⊢
    simp [-wb_true, -wb_false, -wb_regN]
    rw [wb_regN]
    simp [-wb_true, -wb_false, -wb_regN, hcl]
    rw [wb_regN]
    simp [-wb_true, -wb_false, -wb_regN, -wb_regD, hcl, ht4, ks]
    rw [wb_regD rfl]
    simp [h0, h1]
  rw [if_pos hc] at hv
  obtain ⟨cs, rfl, hS⟩ := hv
  have ok := gok_of hc
  have hfo := fol_ok ok
  have hn1 := ok.n1
  have hcn : cs.length = g.n.toNat := by rw [hS.1, hfo.len]
  obtain ⟨m, rfl⟩ := Int.eq_ofNat_of_zero_le h0
  by_cases hm : (m : Int) < g.n
  case neg =>
    rw [endM_no (fun h => hm h.2.2)]
    have h1 : ¬ (m : Int) < cs.length := by omega
    have h2 : ¬ m < cs.length := by omega
    generalize callW X A = C at ks ⊢
    simp [-wb_true, -wb_false, -wb_regN]
    rw [wb_regN]
    simp [-wb_true, -wb_false, -wb_regN, hcl]
    rw [wb_regN]
    simp [-wb_true, -wb_false, -wb_regN, -wb_regD, hcl, ht4, ks]
    rw [wb_regD rfl]
    simp [h0, h1, h2]
  rw [endM_ok hc hm]
  have h2 : m < cs.length := by omega
  obtain ⟨w, hw, hrw⟩ := hS.get (j := m) (by rw [← hS.1]; exact h2)
  have hwE : ∀ h, cs[m]'h = w := fun h => by rw [List.getElem?_eq_getElem h] at hw; simpa using hw
  have kh1 := fun L => kh L w _ hrw (by have := (hfo.get m).size ok; omega)
  generalize hasV ((folM g).getD m []) [255] = b at kh1 ⊢
  generalize (folM g).getD m [] = lm at hrw kh1
  have hb1 : bytesOf [.val (.int .u8 255)] = some [255] := rfl
  have hsg : AV.val (.string ⟨#[255]⟩) = Sg [255] := rfl
  generalize callW X A = C at ks kh1 ⊢
  rcases rv_noRp hrw with rfl | rfl
  all_goals
    simp [-wb_true, -wb_false, -wb_regN]
    rw [wb_regN]
    simp [-wb_true, -wb_false, -wb_regN, hcl]
    rw [wb_regN]
    simp [-wb_true, -wb_false, -wb_regN, -wb_regD, hcl, ht4, ks]
    rw [wb_regD rfl]
    simp [h2, hw, hwE, hb1, hsg, kh1]
theorem srows_nil {lk lim : Nat} {H : Heap} : callW X A lk lim 17 [.e0, .e0] H = some (Bo true, H) := by
  refine wb_callB [] rfl A17 rfl rfl ?_
  unfold t17B
  generalize callW X A = C
  simp
  refine wb_loop (σ := Unit) (fun _ => [(0, .e0), (1, .e0), (5, I 0)]) (fun _ => H) (fun _ => True) (fun _ => 0) ?_ () trivial rfl rfl
  intro _ _
  unfold t17L1
  simp
set_option maxRecDepth 20000 in
set_option maxHeartbeats 1000000 in
theorem fcalls_code {lk lim : Nat} {H : Heap} (hlk : lk ≤ H.length) (g : Gm) (left : Int) : callW X A lk lim 7 [gV g, I left] H = some (Bo true, H) := by
  have k9 := fun (L : Nat) => lives_at (lk := lk) (lim := L) (H := H)
  have kk := fun (L : Nat) => light_code (lk := lk) (lim := L) (H := H) g
  have hcl : (g.cells).length = 4 := rfl
  have ht4 : List.take 4 g.cells = g.cells := rfl
  refine wb_callB [2] rfl A7 rfl rfl ?_
  unfold t7B
  by_cases hli : light g = true
  case neg =>
    have hli : light g = false := by simpa using hli
    rw [hli] at kk
    generalize callW X A = C at k9 kk ⊢
    simp [-wb_true, -wb_false, -wb_regN]
    rw [wb_regN]
    simp [-wb_true, -wb_false, -wb_regN, hcl]
    rw [wb_regN]
    simp [-wb_true, -wb_false, -wb_regN, k9]
    rw [wb_false rfl, wb_skip, fol_nrm, wb_seq, wb_seq, wb_regN]
    simp [-wb_true, -wb_false, -wb_regN, kk, hcl, ht4]
    rw [wb_true rfl]
    simp
  rw [hli] at kk
  obtain ⟨hl, hr⟩ := light_bd hli
  have k23 := fun (L : Nat) => ends_code (lk := lk) (lim := L) (H := H) hlk g hl hr left
  have k27 := fun (L : Nat) => rends_code (lk := lk) (lim := L) (H := H) hlk g hl hr left
  have k25 := fun (L : Nat) => next_code (lk := lk) (lim := L) (H := H) hlk g hl hr
  have k28 := fun (L : Nat) => rnext_code (lk := lk) (lim := L) (H := H) hlk g hl hr
  obtain ⟨v, h', ks, hh, hv⟩ := fsets_code (lk := lk) (lim := H.length) (H := H) hlk g hl hr
  rw [hh] at ks
  obtain ⟨w, h', kr, hh, hw⟩ := rsets_code (lk := lk) (lim := H.length) (H := H) hlk g hl hr
  rw [hh] at kr
  have k17 : ∀ L, callW X A lk L 17 [v, w] H = some (Bo true, H) := fun L => by
    by_cases hc : chkE g = 0
    · rw [if_pos hc] at hv hw
      obtain ⟨cs, rfl, hS⟩ := hv
      obtain ⟨ds, rfl, hT⟩ := hw
      have ok := gok_of hc
      have hfo := fol_ok ok
      have hn2 := ok.n2
      have := srows_code (lk := lk) (lim := L) (H := H) hS hT (by rw [hfo.len]; omega) rfl (fun l hl => by have := (hfo.r l hl).size ok; omega)
      rwa [decide_eq_true rfl] at this
    · rw [if_neg hc] at hv hw
      subst hv; subst hw
      exact srows_nil
  obtain ⟨nv, hnv⟩ : ∃ nv, (if chkE g = 0 then nxV (nextM g) else .e0) = nv := ⟨_, rfl⟩
  have k24 : ∀ L, callW X A lk L 24 [nv, nv] H = some (Bo true, H) := fun L => by
    have hz : ∀ ls : List (List Bool), decide (ls = ls) = true := fun ls => by simp
    by_cases hc : chkE g = 0
    · rw [if_pos hc] at hnv
      subst hnv
      have ok := gok_of hc
      have hn2 := ok.n2
      have ht2 := ok.t2
      have := srowsb_code (lk := lk) (lim := L) (H := H) (nextM g) (nextM g) (by unfold nextM; rw [List.length_map, (fol_ok ok).len]; omega) (fun l hl => by
        unfold nextM at hl
        obtain ⟨x, _, rfl⟩ := List.mem_map.1 hl
        rw [nxB_len]; omega)
      rwa [hz] at this
    · rw [if_neg hc] at hnv
      subst hnv
      have := srowsb_code (lk := lk) (lim := L) (H := H) [] [] (by simp) (by simp)
      rwa [hz] at this
  have hsv : (v = .e0 ∧ w = .e0) ∨ ∃ cs ds, v = .sl cs.length cs ∧ w = .sl ds.length ds := by
    by_cases hc : chkE g = 0
    · rw [if_pos hc] at hv hw
      obtain ⟨cs, h, _⟩ := hv
      obtain ⟨ds, h2, _⟩ := hw
      exact .inr ⟨cs, ds, h, h2⟩
    · rw [if_neg hc] at hv hw
      exact .inl ⟨hv, hw⟩
  have hsn : nv = .e0 ∨ ∃ n c, nv = .sl n c := by
    rw [← hnv]
    unfold nxV
    split
    · split
      · exact .inl rfl
      · exact .inr ⟨_, _, rfl⟩
    · exact .inl rfl
  rw [hnv] at k25 k28
  clear hv hw hnv
  generalize endM g left = b at k23 k27
  have heb : (Bo b = Bo b) = True := by simp
  generalize callW X A = C at *
  rcases hsv with ⟨rfl, rfl⟩ | ⟨cs, ds, rfl, rfl⟩ <;> rcases hsn with rfl | ⟨n, c, rfl⟩
  all_goals
    simp [-wb_true, -wb_false, -wb_regN]
    rw [wb_regN]
    simp [-wb_true, -wb_false, -wb_regN, hcl]
    rw [wb_regN]
    simp [-wb_true, -wb_false, -wb_regN, k9]
    rw [wb_false rfl, wb_skip, fol_nrm, wb_seq, wb_seq, wb_regN]
    simp [-wb_true, -wb_false, -wb_regN, -wb_regD, kk, hcl, ht4]
    rw [wb_false rfl, wb_skip, fol_nrm, wb_seq, wb_regD rfl]
    simp [hcl, ht4, ks, kr, k17, k23, k27, k25, k28, k24]
end Go.Proofs.Ytdmaganalpamlaa
