import Derived.Test.YtoiolinclpiohaaS
set_option linter.unusedSimpArgs false
set_option linter.unusedVariables false
namespace Go.Proofs.Ytoiolinclpiohaa
open Go Go.Hm

set_option maxRecDepth 20000 in
theorem stepped_code (nx rl : List Int) (l : List UInt8) (w : Int) (hw : -9223372036854775808 ≤ w ∧ w ≤ 9223372036854775807) : callW X A 0 0 10 [.agg (Dv nx rl), Sg l, I w] [] = some (Bo true, []) := by
  refine wb_callB [3, 7, 12, 16] rfl A10 rfl rfl ?_
  unfold t10B
  have k0 := lives_ok
  have k1 := light_code (lk := 0) (lim := 0) (H := []) nx rl 24 (by omega)
  rw [show ((24 : Nat) : Int) = 24 from rfl] at k1
  by_cases a1 : rl.length ≤ 24 ∧ nx.length ≤ 256 * 24
  case neg =>
    have hf : (decide (rl.length ≤ 24) && decide (nx.length ≤ 256 * 24)) = false := by
      rw [← Bool.decide_and]; exact decide_eq_false a1
    rw [hf] at k1
    generalize callW X A = C at k0 k1 ⊢
    simp [k0, k1]
  have ht : (decide (rl.length ≤ 24) && decide (nx.length ≤ 256 * 24)) = true := by
    rw [← Bool.decide_and]; exact decide_eq_true a1
  rw [ht] at k1
  obtain ⟨b1, b2⟩ := a1
  by_cases a2 : (60 : Int) < l.length
  · generalize callW X A = C at k0 k1 ⊢
    simp [k0, k1, Sg_size, a2]
  by_cases a3 : l.length = 0
  · generalize callW X A = C at k0 k1 ⊢
    simp [k0, k1, Sg_size, a2, a3]
  have a3' : ((l.length : Int) == 0) = false := by rw [beq_eq_false_iff_ne]; omega
  have k2 := check_code (lk := 0) (lim := 0) (H := []) nx rl (by omega) (by omega)
  by_cases a4 : chk nx rl = true
  case neg =>
    rw [chkE_neg a4] at k2
    generalize callW X A = C at k0 k1 k2 ⊢
    simp [k0, k1, Sg_size, a2, a3, a3', k2]
  rw [chkE_pos a4] at k2
  have ok := (chk_ok a4).1
  have k4 := pick_code (lk := 0) (lim := 0) (H := []) w l.length (by omega) hw
  rw [if_neg (by omega)] at k4
  have hm1 := Int.emod_nonneg w (by omega : (l.length : Int) ≠ 0)
  have hm2 := Int.emod_lt_of_pos w (by omega : (0 : Int) < l.length)
  obtain ⟨a, ha⟩ := Int.eq_ofNat_of_zero_le hm1
  rw [ha] at k4 hm2
  have hal : a < l.length := by omega
  have k5 := mnext_code (lk := 0) (lim := 0) (H := []) nx rl l a (by omega) (by omega) (by omega)
  rw [nextV_in hal a4] at k5
  have t1 := nextM_t nx rl hal
  have e1 := nextM_e nx rl (Nat.le_of_lt hal)
  have k6 := new_code (lk := 0) (lim := 0) (H := []) nx rl (by omega) (by omega)
  rw [if_pos a4] at k6
  simp only [List.length_nil, List.nil_append] at k6
  have k7 := hbegin_code (lk := 0) (lim := 0) (H := [scB nx rl scZ]) (b := 0) rfl (Nat.le_refl _) a
  rw [if_neg (by omega)] at k7
  have w2 : IntKind.i64.wrap ((a : Int) + 1) = a + 1 := wrap64 (by omega) (by omega)
  simp only [sc0, w2, List.set_cons_zero] at k7
  have hst : Stp nx rl l a (nextM nx rl l a) (nextM nx rl l a).2.2.toNat 1 ⟨a, 0, 0, -1, a, a + 1, 0, true, false⟩ :=
    .inl ⟨Nat.le_refl _, by omega, ⟨rfl, rfl, rfl, by simp, by simp only; omega, by simp, by simp only; have := ok.one; omega, by simp [nextM]⟩, rfl, rfl⟩
  have h25 := fun (s : Sc) => hlex_code (lk := 0) (lim := 0) (H := [scB nx rl s]) (b := 0) (s := s) rfl
  have h26 := fun (s : Sc) => hext_code (lk := 0) (lim := 0) (H := [scB nx rl s]) (b := 0) (s := s) rfl
  have h27 := fun (s : Sc) => hsteps_code (lk := 0) (lim := 0) (H := [scB nx rl s]) (b := 0) (s := s) rfl
  have h23 := fun (s : Sc) => hstep_code (lk := 0) (lim := 0) (H := [scB nx rl s]) (b := 0) (s := s) (l := l) rfl (Nat.le_refl _) ok
  simp only [List.set_cons_zero] at h23
  obtain ⟨⟨r, t, e⟩, hx⟩ : ∃ x, nextM nx rl l a = x := ⟨_, rfl⟩
  rw [hx] at k5 t1 e1 hst
  simp only at t1 e1 hst
  simp only [lexC] at k5
  obtain ⟨e, rfl⟩ := Int.eq_ofNat_of_zero_le (by omega : 0 ≤ e)
  simp only [Int.toNat_natCast] at hst
  have w1 : IntKind.i64.wrap ((l.length : Int) + 1) = l.length + 1 := wrap64 (by omega) (by omega)
  have n4 : ¬ (l.length : Int) + 1 < e := by omega
  have wea : IntKind.i64.wrap ((e : Int) - a) = e - a := wrap64 (by omega) (by omega)
  have he := lex_cells_eq ⟨r, a, t, e⟩
  simp only [Lx.cells] at he
  have main : WB ⟨callW X A, 0, 0, [3, 7, 12, 16]⟩ (.loop [1, 2, 7, 9, 11] t10L1) (BlkE 0 (Fol ⟨callW X A, 0, 0, [3, 7, 12, 16]⟩ (.seq (.regN [7, 9] [
    ⟨(some 127), none, .mv (.tmp 9), 0, false⟩,
    ⟨(some 128), none, .call 25 [(.tmp 127)], 0, false⟩,
    ⟨(some 126), none, .mv (.tmp 128), 0, false⟩,
    ⟨(some 129), none, .ext (.tmp 126) 0, 0, false⟩,
    ⟨(some 130), none, .ext (.tmp 126) 1, 0, false⟩,
    ⟨(some 16), none, .allocR [(.val (.int .i64 0)), (.val (.int .i64 0)), (.val (.int .i64 0)), (.val (.int .i64 0))], 0, false⟩,
    ⟨none, none, .st (some 16) 4 (.tmp 16) (.tmp 129), 0, false⟩,
    ⟨(some 17), none, .mv (.tmp 130), 0, false⟩])
  (.seq (.regN [7, 16, 17] [
    ⟨(some 131), none, .mv (.tmp 17), 0, false⟩,
    ⟨(some 132), none, .mv (.tmp 131), 0, false⟩,
    ⟨(some 133), (some (132, true)), .ldA (some 16) 4 (.tmp 16), 0, false⟩,
    ⟨(some 134), (some (132, true)), .ldA (some 7) 4 (.tmp 7), 0, false⟩,
    ⟨(some 135), (some (132, true)), .eqa false [1, 1, 1, 1] (.tmp 133) (.tmp 134), 0, false⟩,
    ⟨(some 136), none, .pick (.tmp 132) (.tmp 135) (.con (.val (.bool false))), 0, false⟩,
    ⟨(some 6), none, .mv (.tmp 136), 0, false⟩])
  .ret)) (FinT [.tmp 6] true [] (Bo true, []))))
      [(11, I 1), (1, Sg l), (2, I a), (7, .box [I r, I a, I t, I e]), (9, pS 0)] [scB nx rl ⟨a, 0, 0, -1, a, a + 1, 0, true, false⟩] := by
    refine wb_loop (σ := Nat × Sc) (fun s => [(1, Sg l), (2, I a), (7, .box [I r, I a, I t, I e]), (9, pS 0), (11, I s.1)])
      (fun s => [scB nx rl s.2]) (fun s => Stp nx rl l a (r, t, e) e s.1 s.2) (fun s => e + 1 - a - s.1) ?_ (1, ⟨a, 0, 0, -1, a, a + 1, 0, true, false⟩) hst (by simp) rfl
    rintro ⟨i, s⟩ hs
    simp only at hs
    unfold t10L1
    rcases hs with ⟨g1, g2, g3, g4, g5⟩ | ⟨g1, g2, g3, g4⟩
    · have hlv : hlexV s = .tup [.agg zL, Bo false] := by unfold hlexV; rw [g3.idn]; rfl
      have k25 := h25 s
      rw [hlv] at k25
      have hia := g3.ia
      have k23 := h23 s g5 g3.idn (by omega) (by omega) g3.ik g3.ile (by omega) g3.ist g3.ist2
      obtain ⟨q1, q2⟩ := stp_step ok rfl g1 g2 g3 g4 g5
      obtain ⟨p1, p2, p3⟩ := lookM_a nx rl l s
      obtain ⟨s', hs'⟩ : ∃ s', lookM nx rl l s = s' := ⟨_, rfl⟩
      rw [hs'] at k23 q1 q2 p1 p2 p3
      have k26 := h26 s'
      have k27 := h27 s'
      rw [p1, p2, hia, g4] at k26
      rw [p2, g4] at k27
      rw [q1] at k23
      have wk : IntKind.i64.wrap ((a : Int) + ((i : Int) - 1 + 1)) = a + i := by rw [wrap64 (by omega) (by omega)]; omega
      rw [wk] at k26
      rw [show (i : Int) - 1 + 1 = i by omega] at k27
      have wi : IntKind.i64.wrap ((i : Int) + 1) = (i : Int) + 1 := wrap64 (by omega) (by omega)
      have wai : IntKind.i64.wrap ((a : Int) + i) = (a : Int) + i := wrap64 (by omega) (by omega)
      have c1 : (i : Int) ≤ (e : Int) - a := by omega
      have c2 : ((i : Int) == (e : Int) - a) = decide (a + i = e) := by rw [Bool.eq_iff_iff]; simp; omega
      generalize callW X A = C at k25 k23 k26 k27 ⊢
      simp [-wi_stL, wea, c1, k25]
      rw [wi_stL]
      simp [replaceAt, zL, k23, k26, k27, wea, c2, wai, wi, rnd_nrm]
      exact ⟨i + 1, s', q2, by omega, by simp, rfl⟩
    · have c1 : ¬ (i : Int) ≤ (e : Int) - a := by omega
      have hlv : hlexV s = .tup [.agg [I r, I a, I t, I e], Bo true] := by
        simp only [Prod.mk.injEq] at g3
        unfold hlexV; rw [g2, if_pos rfl, g3.1, g3.2.1, g3.2.2, g4]
      have k25 := h25 s
      rw [hlv] at k25
      generalize callW X A = C at k25 ⊢
      simp [-wi_stL, wea, c1, k25]
      rw [wi_stL]
      simp [replaceAt, he]
  generalize callW X A = C at k0 k1 k2 k4 k5 k6 k7 main ⊢
  simp [-wi_stL, k0, k1, Sg_size, a2, a3, a3', k2, k4, k5]
  rw [wi_stL]
  simp [replaceAt, k6, n4, w1, eqPtr, isPtr, k7, Sg_size]
  simpa using main
end Go.Proofs.Ytoiolinclpiohaa
