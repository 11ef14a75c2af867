import Derived.Test.YtoiolinclpiohaaV
set_option linter.unusedSimpArgs false
set_option linter.unusedVariables false
namespace Go.Proofs.Ytoiolinclpiohaa
open Go Go.Hm

/-- An act. -/
structure Ac where
  k : Int
  a : Int
  s : List UInt8
def Ac.cells (x : Ac) : List AV := [I x.k, I x.a, Sg x.s]
def acC : List Ac → List AV
  | [] => []
  | x :: l => x.cells ++ acC l
def Ac.ok (x : Ac) : Prop := (-9223372036854775808 ≤ x.k ∧ x.k ≤ 9223372036854775807) ∧ (-9223372036854775808 ≤ x.a ∧ x.a ≤ 9223372036854775807)
theorem acC_len : ∀ l : List Ac, (acC l).length = 3 * l.length
  | [] => rfl
  | x :: l => by simp only [acC, Ac.cells, List.length_append, List.length_cons, List.length_nil, acC_len l]; omega
theorem acC_drop : ∀ (l : List Ac) (n : Nat), (acC l).drop (n * 3) = acC (l.drop n)
  | [], n => by simp [acC]
  | x :: l, 0 => by simp
  | x :: l, n + 1 => by
    rw [show (n + 1) * 3 = 3 + n * 3 by omega, ← List.drop_drop]
    simp only [acC, Ac.cells, List.drop_succ_cons, List.cons_append, List.nil_append, List.drop_zero]
    exact acC_drop l n
theorem acC_get {l : List Ac} {i : Nat} (h : i < l.length) (j : Nat) (hj : j < 3) : (acC l)[i * 3 + j]? = l[i].cells[j]? := by
  have : ((acC l).drop (i * 3)).take 3 = l[i].cells := by
    rw [acC_drop, List.drop_eq_getElem_cons h]
    simp [acC, Ac.cells]
  rw [← this, List.getElem?_take, if_pos hj, List.getElem?_drop]
theorem acC_0 {l : List Ac} {i : Nat} (h : i < l.length) : (acC l)[i * 3]? = some (I l[i].k) := acC_get h 0 (by omega)
theorem acC_1 {l : List Ac} {i : Nat} (h : i < l.length) : (acC l)[i * 3 + 1]? = some (I l[i].a) := acC_get h 1 (by omega)
theorem acC_2 {l : List Ac} {i : Nat} (h : i < l.length) : (acC l)[i * 3 + 2]? = some (Sg l[i].s) := acC_get h 2 (by omega)

/-- What a scanner that goes on is like. -/
structure Go' (nx rl : List Int) (s : Sc) : Prop where
  a0 : 0 ≤ s.a
  a1 : s.a ≤ 9223372036854775807
  k0 : 0 ≤ s.k
  k1 : s.k ≤ 61
  ka : s.k = 0 ∨ s.a < 60
  st : s.bg = true → s.dn = false → 0 ≤ s.st ∧ s.st < rl.length
  dn : s.dn = true → s.e = s.a + s.k
theorem go_zero {nx rl : List Int} : Go' nx rl scZ := ⟨by simp [scZ], by simp [scZ], by simp [scZ], by simp [scZ], .inl rfl, by simp [scZ], by simp [scZ]⟩
theorem go_begin {nx rl : List Int} (ok : TOk nx rl) {a : Int} (h : 0 ≤ a) (h2 : a ≤ 9223372036854775807) : Go' nx rl (sc0 a) :=
  ⟨h, h2, by simp [sc0], by simp [sc0], .inl rfl, fun _ _ => by have := ok.one; simp [sc0]; omega, by simp [sc0]⟩
theorem go_wrap {nx rl : List Int} {s : Sc} (h : Go' nx rl s) : IntKind.i64.wrap (s.a + s.k) = s.a + s.k := by
  have := h.a0; have := h.a1; have := h.k0; have := h.k1
  exact wrap64 (by omega) (by rcases h.ka with h | h <;> omega)
theorem go_look {nx rl : List Int} {l : List UInt8} {s : Sc} (ok : TOk nx rl) (h : Go' nx rl s) (hl : l.length ≤ 60) (he : stpE l s = 0) : (s.bg = true ∧ s.dn = false ∧ s.a < l.length ∧ s.a + s.k ≤ l.length) ∧ Go' nx rl (lookM nx rl l s) := by
  unfold stpE at he
  split at he
  · omega
  · split at he
    · omega
    · rename_i h1 h2
      simp only [not_or, Bool.not_eq_false, Bool.not_eq_true] at h1
      have hb : s.bg = true ∧ s.dn = false ∧ s.a < l.length ∧ s.a + s.k ≤ l.length := ⟨h1.1, h1.2, by omega, by omega⟩
      refine ⟨hb, ?_⟩
      obtain ⟨p1, p2, p3⟩ := lookM_a nx rl l s
      have p4 := lookM_e nx rl l s
      have := h.a0; have := h.k0
      refine ⟨by omega, by omega, by omega, by omega, .inr (by omega), fun _ hd => ?_, fun _ => by omega⟩
      unfold lookM at hd ⊢
      by_cases c1 : s.a + s.k = l.length
      · rw [if_pos c1] at hd; simp at hd
      · rw [if_neg c1] at hd ⊢
        by_cases c2 : nxA nx s.st (l.getD (s.a + s.k).toNat 0) < 0
        · rw [if_pos c2] at hd; simp at hd
        · rw [if_neg c2]
          have hlt := nxA_lt ok s.st (l.getD (s.a + s.k).toNat 0)
          split <;> exact ⟨by simp only; omega, hlt⟩
theorem lex_same {nx rl : List Int} {s : Sc} (h : Go' nx rl s) : hlexV s = rlexV s := by
  unfold hlexV rlexV
  split
  · rename_i hd
    rw [go_wrap h, h.dn hd]
  · rfl
/-- Both scanners, in memory. -/
abbrev H2 (nx rl : List Int) (s : Sc) : Heap := [scB nx rl s, rB nx rl s]
set_option maxRecDepth 20000 in
/-- Steps of both, till it is done. -/
theorem s9L1 {C : Orc} {Q : Ex → Kt} {env : Env} {nx rl : List Int} {l : List Ac} {i times : Nat} {s : Sc} (ok : TOk nx rl) (hi : i < l.length) (hl : l.length ≤ 40) (hs : l[i].s.length ≤ 60) (ht : times ≤ 200)
    (k1 : ∀ s : Sc, s.bg = true → s.dn = false → 0 ≤ s.a → s.a < l[i].s.length → 0 ≤ s.k → s.a + s.k ≤ l[i].s.length → 0 ≤ s.st → s.st < rl.length → C 0 0 23 [pS 0, Sg l[i].s] (H2 nx rl s) = some (.tup [Bo (lookM nx rl l[i].s s).dn, I 0], [scB nx rl (lookM nx rl l[i].s s), rB nx rl s]))
    (k2 : ∀ s : Sc, s.bg = true → s.dn = false → 0 ≤ s.a → s.a < l[i].s.length → 0 ≤ s.k → s.a + s.k ≤ l[i].s.length → 0 ≤ s.st → s.st < rl.length → ∀ x, C 0 0 30 [pS 1, Sg l[i].s] [x, rB nx rl s] = some (.tup [Bo (lookM nx rl l[i].s s).dn, I 0], [x, rB nx rl (lookM nx rl l[i].s s)]))
    (e1 : ∀ s : Sc, IntKind.i64.wrap (s.a + s.k) = s.a + s.k → stpE l[i].s s ≠ 0 → C 0 0 23 [pS 0, Sg l[i].s] (H2 nx rl s) = some (.tup [Bo false, I (stpE l[i].s s)], H2 nx rl s))
    (e2 : ∀ s : Sc, IntKind.i64.wrap (s.a + s.k) = s.a + s.k → stpE l[i].s s ≠ 0 → C 0 0 30 [pS 1, Sg l[i].s] (H2 nx rl s) = some (.tup [Bo false, I (stpE l[i].s s)], H2 nx rl s))
    (hg : Go' nx rl s)
    (hE : restrict [1, 5, 7, 9, 10, 11] env = [(1, .sl l.length (acC l)), (5, pS 0), (7, pS 1), (9, I i), (10, I times), (11, I 0)])
    (hQ : ∀ env' s', restrict [1, 5, 7, 9] env' = [(1, .sl l.length (acC l)), (5, pS 0), (7, pS 1), (9, I i)] → Go' nx rl s' → Q (.exit 2) env' (H2 nx rl s')) :
    WB ⟨C, 0, 0, [2, 16, 18]⟩ (.loop [1, 5, 7, 9, 10, 11] t9L1) Q env (H2 nx rl s) := by
  refine wb_loop (σ := Nat × Sc) (fun x => [(1, .sl l.length (acC l)), (5, pS 0), (7, pS 1), (9, I i), (10, I times), (11, I x.1)]) (fun x => H2 nx rl x.2)
    (fun x => x.1 ≤ times ∧ Go' nx rl x.2) (fun x => times - x.1) ?_ (0, s) ⟨Nat.zero_le _, hg⟩ hE rfl
  rintro ⟨k, s⟩ ⟨hk, hg⟩
  simp only at hk hg
  unfold t9L1
  have w1 : IntKind.i64.wrap ((k : Int) + 1) = (k : Int) + 1 := wrap64 (by omega) (by omega)
  have a2 := acC_2 hi
  have hal := acC_len l
  by_cases hkt : k < times
  case neg =>
    obtain rfl : k = times := by omega
    simp
    refine hQ _ s ?_ hg
    simp
  by_cases he : stpE l[i].s s = 0
  · obtain ⟨⟨c1, c2, c3, c4⟩, hg2⟩ := go_look ok hg hs he
    obtain ⟨c5, c6⟩ := hg.st c1 c2
    have k1 := k1 s c1 c2 hg.a0 c3 hg.k0 c4 c5 c6
    have k2 := k2 s c1 c2 hg.a0 c3 hg.k0 c4 c5 c6
    generalize lookM nx rl l[i].s s = s2 at k1 k2 hg2
    have k2 := k2 (scB nx rl s2)
    simp only [H2] at k1 k2
    generalize l[i].s = q at *
    cases hd : s2.dn with
    | true =>
      rw [hd] at k1 k2
      simp [hkt, hi, a2, hal, k1, k2]
      refine hQ _ s2 ?_ hg2
      simp
    | false =>
      rw [hd] at k1 k2
      simp [hkt, hi, a2, hal, k1, k2, w1]
      rw [rnd_nrm]
      refine ⟨(k + 1, s2), ⟨by simp only; omega, hg2⟩, by simp only; omega, ?_, rfl⟩
      simp
  · have e1 := e1 s (go_wrap hg) he
    have e2 := e2 s (go_wrap hg) he
    generalize stpE l[i].s s = e at *
    simp only [H2] at e1 e2
    generalize l[i].s = q at *
    have hb : (e != e) = false := by simp
    have hb2 : (e != 0) = true := bne_iff_ne.2 he
    simp [hkt, hi, a2, hal, e1, e2, hb, hb2]
    refine hQ _ s ?_ hg
    simp
set_option maxRecDepth 20000 in
/-- What is told behind an act. -/
theorem s9T {C : Orc} {Q : Ex → Kt} {env : Env} {nx rl : List Int} {l : List Ac} {i : Nat} {s : Sc} (hg : Go' nx rl s)
    (h25 : C 0 0 25 [pS 0] (H2 nx rl s) = some (hlexV s, H2 nx rl s)) (h31 : C 0 0 31 [pS 1] (H2 nx rl s) = some (rlexV s, H2 nx rl s))
    (h26 : C 2 0 26 [pS 0] (H2 nx rl s) = some (I (IntKind.i64.wrap (s.a + s.k)), H2 nx rl s)) (h32 : C 2 0 32 [pS 1] (H2 nx rl s) = some (I (IntKind.i64.wrap (s.a + s.k)), H2 nx rl s)) (h27 : C 2 0 27 [pS 0] (H2 nx rl s) = some (I s.k, H2 nx rl s))
    (hE : restrict [1, 5, 7, 9] env = [(1, .sl l.length (acC l)), (5, pS 0), (7, pS 1), (9, I i)])
    (hQ : ∀ env', restrict [1, 5, 7, 9] env' = [(1, .sl l.length (acC l)), (5, pS 0), (7, pS 1), (9, I i)] → Q .nrm env' (H2 nx rl s)) :
    WB ⟨C, 0, 0, [2, 16, 18]⟩ (.seq (.regN [1, 5, 7, 9] [
          ⟨(some 135), none, .mv (.tmp 5), 0, false⟩,
          ⟨(some 136), none, .call 25 [(.tmp 135)], 0, false⟩,
          ⟨(some 134), none, .mv (.tmp 136), 0, false⟩,
          ⟨(some 137), none, .ext (.tmp 134) 0, 0, false⟩,
          ⟨(some 138), none, .ext (.tmp 134) 1, 0, false⟩,
          ⟨(some 16), none, .allocR [(.val (.int .i64 0)), (.val (.int .i64 0)), (.val (.int .i64 0)), (.val (.int .i64 0))], 0, false⟩,
          ⟨none, none, .st (some 16) 4 (.tmp 16) (.tmp 137), 0, false⟩,
          ⟨(some 17), none, .mv (.tmp 138), 0, false⟩])
        (.seq (.regN [1, 5, 7, 9, 16, 17] [
          ⟨(some 140), none, .mv (.tmp 7), 0, false⟩,
          ⟨(some 141), none, .call 31 [(.tmp 140)], 0, false⟩,
          ⟨(some 139), none, .mv (.tmp 141), 0, false⟩,
          ⟨(some 142), none, .ext (.tmp 139) 0, 0, false⟩,
          ⟨(some 143), none, .ext (.tmp 139) 1, 0, false⟩,
          ⟨(some 18), none, .allocR [(.val (.int .i64 0)), (.val (.int .i64 0)), (.val (.int .i64 0)), (.val (.int .i64 0))], 0, false⟩,
          ⟨none, none, .st (some 18) 4 (.tmp 18) (.tmp 142), 0, false⟩,
          ⟨(some 19), none, .mv (.tmp 143), 0, false⟩])
        (.seq (.regD [1, 5, 7, 9, 16, 17, 18, 19] 0 [
          ⟨(some 144), none, .ldA (some 16) 4 (.tmp 16), 0, false⟩,
          ⟨(some 145), none, .ldA (some 18) 4 (.tmp 18), 0, false⟩,
          ⟨(some 146), none, .eqa true [1, 1, 1, 1] (.tmp 144) (.tmp 145), 0, false⟩,
          ⟨(some 147), none, .mv (.tmp 146), 0, false⟩,
          ⟨(some 148), (some (147, false)), .mv (.tmp 17), 0, false⟩,
          ⟨(some 149), (some (147, false)), .mv (.tmp 19), 0, false⟩,
          ⟨(some 150), (some (147, false)), .eqb true (.tmp 148) (.tmp 149), 0, false⟩,
          ⟨(some 151), none, .pick (.tmp 147) (.con (.val (.bool true))) (.tmp 150), 0, false⟩,
          ⟨(some 152), none, .mv (.tmp 151), 0, false⟩,
          ⟨(some 153), (some (152, false)), .mv (.tmp 5), 0, false⟩,
          ⟨(some 154), (some (152, false)), .call 26 [(.tmp 153)], 0, false⟩,
          ⟨(some 155), (some (152, false)), .mv (.tmp 7), 0, false⟩,
          ⟨(some 156), (some (152, false)), .call 32 [(.tmp 155)], 0, false⟩,
          ⟨(some 157), (some (152, false)), .bini .neq (.tmp 154) (.tmp 156), 0, false⟩,
          ⟨(some 158), none, .pick (.tmp 152) (.con (.val (.bool true))) (.tmp 157), 0, false⟩,
          ⟨(some 159), none, .mv (.tmp 158), 0, false⟩,
          ⟨(some 160), (some (159, false)), .mv (.tmp 5), 0, false⟩,
          ⟨(some 161), (some (159, false)), .call 27 [(.tmp 160)], 0, false⟩,
          ⟨(some 162), (some (159, false)), .mv (.tmp 7), 0, false⟩,
          ⟨(some 163), (some (159, false)), .nilc (.tmp 162), 0, false⟩,
          ⟨(some 164), (some (159, false)), .fldA 5 (.tmp 163), 0, false⟩,
          ⟨(some 165), (some (159, false)), .ld1 none (.tmp 164), 0, false⟩,
          ⟨(some 166), (some (159, false)), .bini .neq (.tmp 161) (.tmp 165), 0, false⟩,
          ⟨(some 167), none, .pick (.tmp 159) (.con (.val (.bool true))) (.tmp 166), 0, false⟩])
        (.cond (.tmp 167)
          (.seq (.regN [] [
            ⟨(some 4), none, .mv (.con (.val (.bool false))), 0, false⟩])
          .ret)
          .skip)))) Q env (H2 nx rl s) := by
  rw [lex_same hg] at h25
  rw [wb_seq, wb_regN, hE]
  generalize IntKind.i64.wrap (s.a + s.k) = ak at h26 h32
  have hb : ∀ x : Int, (x != x) = false := fun x => by simp
  have hbb : ∀ x : Bool, (x != x) = false := fun x => by simp
  have hx : ∃ x1 x2 x3 x4 b, rlexV s = .tup [.agg [I x1, I x2, I x3, I x4], Bo b] := by
    unfold rlexV
    split
    · exact ⟨_, _, _, _, _, rfl⟩
    · exact ⟨_, _, _, _, _, rfl⟩
  obtain ⟨x1, x2, x3, x4, b, hx⟩ := hx
  rw [hx] at h25 h31
  have he := lex_cells_eq ⟨x1, x2, x3, x4⟩
  simp only [Lx.cells] at he
  obtain ⟨R, hR, hRl, hR5⟩ : ∃ R, rB nx rl s = .cells R ∧ R.length = 11 ∧ R[5]? = some (I s.k) := ⟨_, rfl, rfl, rfl⟩
  simp only [H2, hR] at *
  generalize scB nx rl s = S at *
  generalize s.k = sk at *
  simp [-wi_stL, h25]
  rw [wi_stL]
  simp [-wi_stL, replaceAt, h31]
  rw [wi_stL]
  simp [-wb_regD, replaceAt]
  rw [wb_regD rfl]
  have hR5' : ∀ h, R[5]'h = I sk := fun h => by rw [List.getElem?_eq_getElem h] at hR5; simpa using hR5
  simp [he, h26, h32, h27, hb, hbb, hR5', hRl]
  refine hQ _ ?_
  simp
set_option maxRecDepth 20000 in
theorem script_code (nx rl : List Int) (l : List Ac) (hl : ∀ x ∈ l, x.ok) : callW X A 0 0 9 [.agg (Dv nx rl), .sl l.length (acC l)] [] = some (Bo true, []) := by
  refine wb_callB [2, 16, 18] rfl A9 rfl rfl ?_
  unfold t9B
  have k0 := lives_ok
  have k1 := light_code (lk := 0) (lim := 0) (H := []) nx rl 24 (by omega)
  rw [show ((24 : Nat) : Int) = 24 from rfl] at k1
  by_cases a1 : rl.length ≤ 24 ∧ nx.length ≤ 256 * 24
  case neg =>
    have hf : (decide (rl.length ≤ 24) && decide (nx.length ≤ 256 * 24)) = false := by
      rw [← Bool.decide_and]; exact decide_eq_false a1
    rw [hf] at k1
    generalize callW X A = C at k0 k1 ⊢
    simp [k0, k1]
  have ht : (decide (rl.length ≤ 24) && decide (nx.length ≤ 256 * 24)) = true := by
    rw [← Bool.decide_and]; exact decide_eq_true a1
  rw [ht] at k1
  obtain ⟨b1, b2⟩ := a1
  by_cases a2 : (40 : Int) < l.length
  · generalize callW X A = C at k0 k1 ⊢
    simp [k0, k1, a2]
  have k2 := new_code (lk := 0) (lim := 0) (H := []) nx rl (by omega) (by omega)
  by_cases a4 : chk nx rl = true
  case neg =>
    rw [if_neg a4] at k2
    have k3 := rnew_code (lk := 0) (lim := 0) (H := []) nx rl (by omega) (by omega)
    rw [if_neg a4] at k3
    generalize callW X A = C at k0 k1 k2 k3 ⊢
    have hb : ((2 : Int) != 2) = false := by decide
    simp [k0, k1, a2, k2, k3, hb, eqPtr, isPtr]
    refine wb_loop0 ?_
    unfold t9L2
    by_cases h0 : 0 < l.length
    · simp [h0, eqPtr, isPtr]
    · simp [h0]
  rw [if_pos a4] at k2
  have k3 := rnew_code (lk := 0) (lim := 0) (H := [scB nx rl scZ]) nx rl (by omega) (by omega)
  rw [if_pos a4] at k3
  have ok := (chk_ok a4).1
  simp only [List.length_nil, List.nil_append, List.length_singleton, List.cons_append, List.length_cons] at k2 k3
  have hp := fun (H : Heap) (n : Int) hn => pick_code (lk := 0) (lim := 0) (H := H) n 3 (by omega) hn
  have h24 := fun (s : Sc) (y : HB) (a : Int) => hbegin_code (lk := 0) (lim := 0) (H := [scB nx rl s, y]) (b := 0) (s := s) (nx := nx) (rl := rl) rfl (Nat.le_refl _) a
  have h29 := fun (s : Sc) (y : HB) (a : Int) => rbegin_code (lk := 0) (lim := 0) (H := [y, rB nx rl s]) (b := 1) (s := s) (nx := nx) (rl := rl) rfl (Nat.zero_le _) a
  have h25 := fun (s : Sc) => hlex_code (lk := 0) (lim := 0) (H := H2 nx rl s) (b := 0) (s := s) (nx := nx) (rl := rl) rfl
  have h31 := fun (s : Sc) => rlex_code (lk := 0) (lim := 0) (H := H2 nx rl s) (b := 1) (s := s) (nx := nx) (rl := rl) rfl
  have h26 := fun (s : Sc) => hext_code (lk := 2) (lim := 0) (H := H2 nx rl s) (b := 0) (s := s) (nx := nx) (rl := rl) rfl
  have h32 := fun (s : Sc) => rext_code (lk := 2) (lim := 0) (H := H2 nx rl s) (b := 1) (s := s) (nx := nx) (rl := rl) rfl
  have h27 := fun (s : Sc) => hsteps_code (lk := 2) (lim := 0) (H := H2 nx rl s) (b := 0) (s := s) (nx := nx) (rl := rl) rfl
  have h23 := fun (t : List UInt8) (ht : t.length ≤ 60) (s : Sc) c1 c2 c3 c4 c5 c6 c7 c8 => hstep_code (lk := 0) (lim := 0) (H := H2 nx rl s) (b := 0) (s := s) (l := t) (nx := nx) (rl := rl) rfl (Nat.le_refl _) ok c1 c2 c3 c4 c5 c6 (by omega) c7 c8
  have h30 := fun (t : List UInt8) (ht : t.length ≤ 60) (s : Sc) c1 c2 c3 c4 c5 c6 c7 c8 (y : HB) => rstep_code (lk := 0) (lim := 0) (H := [y, rB nx rl s]) (b := 1) (s := s) (l := t) (nx := nx) (rl := rl) rfl (Nat.zero_le _) ok c1 c2 c3 c4 c5 c6 (by omega) c7 c8
  have g23 := fun (t : List UInt8) (s : Sc) c1 c2 => hstep_err (lk := 0) (lim := 0) (H := H2 nx rl s) (b := 0) (s := s) (l := t) (nx := nx) (rl := rl) rfl c1 c2
  have g30 := fun (t : List UInt8) (s : Sc) c1 c2 => rstep_err (lk := 0) (lim := 0) (H := H2 nx rl s) (b := 1) (s := s) (l := t) (nx := nx) (rl := rl) rfl c1 c2
  simp only [List.set_cons_zero, List.set_cons_succ] at h24 h29 h23 h30
  generalize callW X A = C at *
  have hb0 : ((0 : Int) != 0) = false := by decide
  simp [k0, k1, a2, k2, k3, hb0, eqPtr, isPtr]
  refine wb_loop (σ := Nat × Sc) (fun x => [(1, .sl l.length (acC l)), (5, pS 0), (7, pS 1), (9, I x.1)]) (fun x => H2 nx rl x.2)
    (fun x => x.1 ≤ l.length ∧ Go' nx rl x.2) (fun x => l.length - x.1) ?_ (0, scZ) ⟨Nat.zero_le _, go_zero⟩ (by simp) rfl
  rintro ⟨i, s⟩ ⟨hi, hg⟩
  simp only at hi hg
  unfold t9L2
  have w1 : IntKind.i64.wrap ((i : Int) + 1) = (i : Int) + 1 := wrap64 (by omega) (by omega)
  by_cases hil : i < l.length
  case neg =>
    obtain rfl : i = l.length := by omega
    simp
  have a0 := acC_0 hil
  have a1 := acC_1 hil
  have a2' := acC_2 hil
  have hal := acC_len l
  obtain ⟨o1, o2⟩ := hl l[i] (List.getElem_mem hil)
  by_cases hlong : (60 : Int) < l[i].s.length
  · simp [hil, eqPtr, isPtr, a2', hal, Sg_size, hlong]
  have hp := fun H => hp H l[i].k o1
  simp only [if_neg (by omega : ¬ (3 : Nat) < 1)] at hp
  rw [show ((3 : Nat) : Int) = 3 from rfl] at hp
  have m1 := Int.emod_nonneg l[i].k (by omega : (3 : Int) ≠ 0)
  have m2 := Int.emod_lt_of_pos l[i].k (by omega : (0 : Int) < 3)
  generalize l[i].k % (3 : Int) = pk at hp m1 m2
  have loop : ∀ (env : Env) (times : Nat) (s : Sc), times ≤ 200 → Go' nx rl s → restrict [1, 5, 7, 9, 10, 11] env = [(1, .sl l.length (acC l)), (5, pS 0), (7, pS 1), (9, I i), (10, I times), (11, I 0)] → ∀ Q : Ex → Kt, (∀ env' s', restrict [1, 5, 7, 9] env' = [(1, .sl l.length (acC l)), (5, pS 0), (7, pS 1), (9, I i)] → Go' nx rl s' → Q (.exit 2) env' (H2 nx rl s')) → WB ⟨C, 0, 0, [2, 16, 18]⟩ (.loop [1, 5, 7, 9, 10, 11] t9L1) Q env (H2 nx rl s) :=
    fun env times s ht hg hE Q hQ => s9L1 ok hil (by omega) (by omega) ht (h23 l[i].s (by omega)) (h30 l[i].s (by omega)) (g23 l[i].s) (g30 l[i].s) hg hE hQ
  have fin : ∀ (s' : Sc), Go' nx rl s' → ∀ E : Env, E = [(1, .sl l.length (acC l)), (5, pS 0), (7, pS 1), (9, I ((i : Int) + 1))] → ∃ x : Nat × Sc, (x.1 ≤ l.length ∧ Go' nx rl x.2) ∧ l.length - x.1 < l.length - i ∧ E = [(1, .sl l.length (acC l)), (5, pS 0), (7, pS 1), (9, I x.1)] ∧ H2 nx rl s' = H2 nx rl x.2 :=
    fun s' hg' E hE => ⟨(i + 1, s'), ⟨by simp only; omega, hg'⟩, by simp only; omega, by rw [hE]; simp, rfl⟩
  generalize l[i].s = q at *
  generalize l[i].k = kk at *
  generalize l[i].a = aa at *
  have hH2 : H2 nx rl s = [scB nx rl s, rB nx rl s] := rfl
  by_cases p0 : pk = 0
  · subst p0
    have h24 := h24 s (rB nx rl s) aa
    have h29 := fun y => h29 s y aa
    by_cases ha : aa < 0
    · rw [if_pos ha] at h24
      have h29 := h29 (scB nx rl s)
      rw [if_pos ha] at h29
      have hb : ((2 : Int) != 2) = false := by decide
      simp [hil, eqPtr, isPtr, a0, a1, a2', hal, Sg_size, hlong, hp, h24, h29, hb]
      refine loop _ 0 s (by omega) hg (by simp) _ (fun env' s' hE' hg' => ?_)
      rw [blk_exit, if_pos rfl, fol_nrm]
      refine s9T hg' (h25 s') (h31 s') (h26 s') (h32 s') (h27 s') hE' (fun env'' hE'' => ?_)
      rw [blk_nrm, fol_nrm, wb_regN, hE'']
      simp [w1]
      rw [rnd_nrm]
      refine fin s' hg' _ ?_
      simp
    · rw [if_neg ha] at h24
      have h29 := h29 (scB nx rl (sc0 aa))
      rw [if_neg ha] at h29
      have hg0 := go_begin ok (by omega : 0 ≤ aa) o2.2
      simp [hil, eqPtr, isPtr, a0, a1, a2', hal, Sg_size, hlong, hp, h24, h29, hb0]
      refine loop _ 0 (sc0 aa) (by omega) hg0 (by simp) _ (fun env' s' hE' hg' => ?_)
      rw [blk_exit, if_pos rfl, fol_nrm]
      refine s9T hg' (h25 s') (h31 s') (h26 s') (h32 s') (h27 s') hE' (fun env'' hE'' => ?_)
      rw [blk_nrm, fol_nrm, wb_regN, hE'']
      simp [w1]
      rw [rnd_nrm]
      refine fin s' hg' _ ?_
      simp
  by_cases p2 : pk = 2
  · subst p2
    simp [hil, eqPtr, isPtr, a0, a1, a2', hal, Sg_size, hlong, hp]
    refine loop _ 200 s (by omega) hg (by simp) _ (fun env' s' hE' hg' => ?_)
    rw [blk_exit, if_pos rfl, fol_nrm]
    refine s9T hg' (h25 s') (h31 s') (h26 s') (h32 s') (h27 s') hE' (fun env'' hE'' => ?_)
    rw [blk_nrm, fol_nrm, wb_regN, hE'']
    simp [w1]
    rw [rnd_nrm]
    refine fin s' hg' _ ?_
    simp
  · obtain rfl : pk = 1 := by omega
    simp [hil, eqPtr, isPtr, a0, a1, a2', hal, Sg_size, hlong, hp]
    refine loop _ 1 s (by omega) hg (by simp) _ (fun env' s' hE' hg' => ?_)
    rw [blk_exit, if_pos rfl, fol_nrm]
    refine s9T hg' (h25 s') (h31 s') (h26 s') (h32 s') (h27 s') hE' (fun env'' hE'' => ?_)
    rw [blk_nrm, fol_nrm, wb_regN, hE'']
    simp [w1]
    rw [rnd_nrm]
    refine fin s' hg' _ ?_
    simp
end Go.Proofs.Ytoiolinclpiohaa
