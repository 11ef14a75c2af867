import Derived.Test.YtikedgpcgacgoaaCa1
set_option linter.unusedSimpArgs false
set_option linter.unusedVariables false
namespace Go.Proofs.Ytikedgpcgacgoaa
open Go Go.Hm

theorem same15_e0 {lk lim : Nat} {H : Heap} : callW X A lk lim 15 [.e0, .e0] H = some (Bo true, H) := by
  refine wb_callB [] rfl A15 rfl rfl ?_
  generalize callW X A = C
  unfold t15B
  simp
  refine wb_loop0 ?_
  unfold t15L1
  simp
theorem same15_der {lk lim : Nat} {H : Heap} (g : Gm) (tok : Bool) : callW X A lk lim 15 [derV g tok, derV g tok] H = some (Bo true, H) := by
  unfold derV
  by_cases hc : chkE g = 0
  · rw [if_pos hc]
    have n2 := (gok_of hc).n2
    have := sameB_code (lk := lk) (lim := lim) (H := H) g.n.toNat g.n.toNat (derM g tok) (derM g tok) (derM_len g tok) (derM_len g tok) (by omega) (by omega) _ _ (.inl rfl) (.inl rfl)
    simpa using this
  · rw [if_neg hc]; exact same15_e0
theorem same15_rch {lk lim : Nat} {H : Heap} (g : Gm) : callW X A lk lim 15 [rchV g, rchV g] H = some (Bo true, H) := by
  unfold rchV
  by_cases hc : chkE g = 0
  · rw [if_pos hc]
    have n2 := (gok_of hc).n2
    have := sameB_code (lk := lk) (lim := lim) (H := H) g.n.toNat g.n.toNat (rchM g) (rchM g) (rchM_len g) (rchM_len g) (by omega) (by omega) _ _ (.inl rfl) (.inl rfl)
    simpa using this
  · rw [if_neg hc]; exact same15_e0
theorem same24_e0 {lk lim : Nat} {H : Heap} : callW X A lk lim 24 [.e0, .e0] H = some (Bo true, H) := by
  refine wb_callB [] rfl A24 rfl rfl ?_
  generalize callW X A = C
  unfold t24B
  simp
  refine wb_loop0 ?_
  unfold t24L1
  simp
theorem same24_sl {lk lim : Nat} {H : Heap} (o : List Nat) (ho : o.length ≤ 1000000) : callW X A lk lim 24 [.sl o.length (nts o), .sl o.length (nts o)] H = some (Bo true, H) := by
  refine wb_callB [] rfl A24 rfl rfl ?_
  generalize callW X A = C
  unfold t24B
  have hb : ((o.length : Int) != (o.length : Int)) = false := by simp
  simp [hb]
  refine wb_loop (σ := Nat) (fun i => [(0, .sl o.length (nts o)), (1, .sl o.length (nts o)), (5, I i)]) (fun _ => H) (fun i => i ≤ o.length) (fun i => o.length - i) ?_ 0 (by simp) (by simp) rfl
  intro i hi
  unfold t24L1
  have w1 : IntKind.i64.wrap ((i : Int) + 1) = (i : Int) + 1 := wrap64 (by omega) (by omega)
  by_cases hil : i < o.length
  · obtain ⟨x, hx⟩ : ∃ x, o[i] = x := ⟨_, rfl⟩
    have hb2 : ((x : Int) != (x : Int)) = false := by simp
    simp [hil, nts_get, hx, hb2, w1]
    rw [rnd_nrm]
    refine ⟨i + 1, by omega, by omega, ?_, rfl⟩
    simp
  · obtain rfl : i = o.length := by omega
    simp
theorem same24_of {lk lim : Nat} {H : Heap} (g : Gm) (left : Int) : callW X A lk lim 24 [ofV g left, ofV g left] H = some (Bo true, H) := by
  unfold ofV
  by_cases hc : chkE g = 0
  · rw [if_pos hc]
    unfold slvN
    by_cases ho : ofN g.ps left g.ps.length = []
    · rw [if_pos ho]; exact same24_e0
    · rw [if_neg ho]
      have := ofN_len g.ps left g.ps.length
      have := (gok_of hc).l2
      exact same24_sl _ (by omega)
  · rw [if_neg hc]; exact same24_e0
theorem derV_one (g : Gm) (tok : Bool) : derV g tok = .e0 ∨ ∃ n c, derV g tok = .sl n c := derV_arg g tok
theorem rchV_one (g : Gm) : rchV g = .e0 ∨ ∃ n c, rchV g = .sl n c := by
  unfold rchV
  split
  · exact .inr ⟨_, _, rfl⟩
  · exact .inl rfl
theorem ofV_one (g : Gm) (l : Int) : ofV g l = .e0 ∨ ∃ n c, ofV g l = .sl n c := by
  unfold ofV slvN
  split
  · split
    · exact .inl rfl
    · exact .inr ⟨_, _, rfl⟩
  · exact .inl rfl
set_option maxRecDepth 20000 in
theorem calls_code (g h : Gm) (l : Int) : callW X A 0 0 8 [gV g, gV h, I l] [] = some (Bo true, []) := by
  have kl := fun (L : Nat) => lives_code L
  have kk := fun (L : Nat) (H : Heap) => light_code (lk := 0) (lim := L) (H := H) g
  have kk2 := fun (L : Nat) (H : Heap) => light_code (lk := 0) (lim := L) (H := H) h
  refine wb_callB [3, 4] rfl A8 rfl rfl ?_
  unfold t8B
  by_cases hli : light g = true
  case neg =>
    have hli : light g = false := by simpa using hli
    rw [hli] at kk
    obtain ⟨t, n, k, ps⟩ := g
    obtain ⟨t', n', k', qs⟩ := h
    simp only [gV, Gm.cells] at kk
    generalize callW X A = C at kl kk ⊢
    simp [Gm.cells, kl, kk]
  rw [hli] at kk
  by_cases hli2 : light h = true
  case neg =>
    have hli2 : light h = false := by simpa using hli2
    rw [hli2] at kk2
    obtain ⟨t, n, k, ps⟩ := g
    obtain ⟨t', n', k', qs⟩ := h
    simp only [gV, Gm.cells] at kk kk2
    generalize callW X A = C at kl kk kk2 ⊢
    simp [Gm.cells, kl, kk, kk2]
  rw [hli2] at kk2
  obtain ⟨hl, hr⟩ := light_bd hli
  obtain ⟨hl2, hr2⟩ := light_bd hli2
  have z := Nat.zero_le 0
  have c1 := fun (L : Nat) => red_code (lk := 0) (lim := L) (H := []) g hl hr (Nat.zero_le _)
  have c2 := fun (L : Nat) => rred_code (lk := 0) (lim := L) (H := []) g hl hr (Nat.zero_le _)
  have c3 := fun (L : Nat) => left_code13 (lk := 0) (lim := L) (H := []) g hl hr (Nat.zero_le _)
  have c4 := fun (L : Nat) => left_code26 (lk := 0) (lim := L) (H := []) g hl hr (Nat.zero_le _)
  have c5 := fun (L : Nat) => check_code (lk := 0) (lim := L) (H := []) g hl hr
  have c6 := fun (L : Nat) => rcheck_code (lk := 0) (lim := L) (H := []) g hl hr
  have c7 := fun (L : Nat) => of_code (lk := 0) (lim := L) (H := []) g l hl hr (Nat.zero_le _)
  have c8 := fun (L : Nat) => rof_code (lk := 0) (lim := L) (H := []) g l hl hr (Nat.zero_le _)
  have c9 := fun (L : Nat) => same24_of (lk := 0) (lim := L) (H := []) g l
  have d1 := fun (L : Nat) => null_code (lk := 0) (lim := L) (H := []) g hl hr (Nat.zero_le _)
  have d2 := fun (L : Nat) => rnull_code (lk := 0) (lim := L) (H := []) g hl hr (Nat.zero_le _)
  have d3 := fun (L : Nat) (tok : Bool) => same15_der (lk := 0) (lim := L) (H := []) g tok
  have d4 := fun (L : Nat) => prod_code (lk := 0) (lim := L) (H := []) g hl hr (Nat.zero_le _)
  have d5 := fun (L : Nat) => rprod_code (lk := 0) (lim := L) (H := []) g hl hr (Nat.zero_le _)
  have d6 := fun (L : Nat) => rch_code (lk := 0) (lim := L) (H := []) g hl hr (Nat.zero_le _)
  have d7 := fun (L : Nat) => rrch_code (lk := 0) (lim := L) (H := []) g hl hr (Nat.zero_le _)
  have d8 := fun (L : Nat) => same15_rch (lk := 0) (lim := L) (H := []) g
  have e1 := fun (L : Nat) => same22_code (lk := 0) (lim := L) (H := []) g h hl hl2 hr hr2 _ _ (PS_psC [] g.ps) (PS_psC [] h.ps)
  have e2 := fun (L : Nat) => rsame_code (lk := 0) (lim := L) (H := []) g h hl hr _ (PS_psC [] g.ps)
  have e3 := copy21_code (lk := 0) (lim := 0) (H := []) g hl hr (Nat.zero_le _) (Nat.zero_le _)
  have e4 := fun (L : Nat) => rsame_code (lk := 0) (lim := L) (H := copH [] g.ps) g g hl hr _ (cop_ps [] g.ps)
  rw [decide_eq_true rfl] at e4
  have f : (derV g false = .e0 ∧ derV g true = .e0 ∧ rchV g = .e0 ∧ ofV g l = .e0) ∨ ((∃ n c, derV g false = .sl n c) ∧ (∃ n c, derV g true = .sl n c) ∧ (∃ n c, rchV g = .sl n c) ∧ (ofV g l = .e0 ∨ ∃ n c, ofV g l = .sl n c)) := by
    have f4 := ofV_one g l
    unfold derV rchV
    by_cases hc : chkE g = 0
    · simp only [if_pos hc]
      exact .inr ⟨⟨_, _, rfl⟩, ⟨_, _, rfl⟩, ⟨_, _, rfl⟩, f4⟩
    · simp only [if_neg hc]
      refine .inl ⟨trivial, trivial, trivial, ?_⟩
      unfold ofV
      rw [if_neg hc]
  have f5 : copV [] g.ps = .e0 ∨ ∃ b, copV [] g.ps = .hs b (2 * g.ps.length) 0 g.ps.length 2 := by
    unfold copV
    split
    · exact .inl rfl
    · exact .inr ⟨_, rfl⟩
  have d3a := fun L => d3 L false
  have d3b := fun L => d3 L true
  clear d3
  unfold redV at c1 c2
  unfold leftV at c3 c4
  generalize redP g = rr at c1 c2
  generalize leftR g = ll at c3 c4
  generalize chkE g = cc at c5 c6
  generalize ofV g l = oo at c7 c8 c9 f
  generalize derV g false = na at d1 d2 d3a f
  generalize derV g true = pa at d4 d5 d3b f
  generalize rchV g = ra at d6 d7 d8 f
  generalize decide (g = h) = eqb at e1 e2
  generalize copH [] g.ps = hh at e3 e4
  obtain ⟨t, n, k, ps⟩ := g
  obtain ⟨t', n', k', qs⟩ := h
  simp only [gW] at e3 e4 f5
  generalize copV [] ps = cv at e3 e4 f5
  simp only [gV, gW, Gm.cells] at kk kk2 c1 c2 c3 c4 c5 c6 c7 c8 d1 d2 d4 d5 d6 d7 e1 e2 e3 e4
  generalize callW X A = C at *
  have hbr : ∀ x : Int, (x == x) = true := fun x => by simp
  have hbb : ∀ x : Bool, (x == x) = true := fun x => by simp
  simp [-wb_regD, Gm.cells, kl, kk, kk2, c1, c2, c3, c4]
  rw [wb_regD rfl]
  obtain ⟨r1, r2⟩ := rr
  obtain ⟨s1, s2⟩ := ll
  clear kl kk kk2 c1 c2 c3 c4
  rcases f with ⟨rfl, rfl, rfl, rfl⟩ | ⟨⟨n1, x1, rfl⟩, ⟨n2, x2, rfl⟩, ⟨n3, x3, rfl⟩, f4⟩
  · rcases f5 with rfl | ⟨b, rfl⟩
    · simp [hbr, hbb, c5, c6, c7, c8, c9, d1, d2, d3a, d3b, d4, d5, d6, d7, d8, e1, e2, e3, e4]
    · simp [hbr, hbb, c5, c6, c7, c8, c9, d1, d2, d3a, d3b, d4, d5, d6, d7, d8, e1, e2, e3, e4]
  · rcases f4 with rfl | ⟨n4, x4, rfl⟩
    · rcases f5 with rfl | ⟨b, rfl⟩
      · simp [hbr, hbb, c5, c6, c7, c8, c9, d1, d2, d3a, d3b, d4, d5, d6, d7, d8, e1, e2, e3, e4]
      · simp [hbr, hbb, c5, c6, c7, c8, c9, d1, d2, d3a, d3b, d4, d5, d6, d7, d8, e1, e2, e3, e4]
    · rcases f5 with rfl | ⟨b, rfl⟩
      · simp [hbr, hbb, c5, c6, c7, c8, c9, d1, d2, d3a, d3b, d4, d5, d6, d7, d8, e1, e2, e3, e4]
      · simp [hbr, hbb, c5, c6, c7, c8, c9, d1, d2, d3a, d3b, d4, d5, d6, d7, d8, e1, e2, e3, e4]
end Go.Proofs.Ytikedgpcgacgoaa
