import Derived.Test.YtoiolinclpiohaaP
set_option linter.unusedSimpArgs false
set_option linter.unusedVariables false
namespace Go.Proofs.Ytoiolinclpiohaa
open Go Go.Hm

/-! ### What a text leads to -/
def stM (nx : List Int) : List UInt8 → Int → Int
  | [], st => st
  | b :: l, st => if nxA nx st b < 0 then -1 else stM nx l (nxA nx st b)
def runM (nx rl : List Int) (l : List UInt8) : Int := if stM nx l 0 < 0 then -1 else rlA rl (stM nx l 0)
theorem stM_b {nx rl : List Int} (ok : TOk nx rl) : ∀ (l : List UInt8) (st : Int), st < rl.length → stM nx l st < rl.length
  | [], _, h => h
  | b :: l, st, h => by
    simp only [stM]
    split
    · omega
    · exact stM_b ok l _ (nxA_lt ok st b)
theorem nxA_ge {nx rl : List Int} (ok : TOk nx rl) (st : Int) (b : UInt8) : -1 ≤ nxA nx st b := by
  unfold nxA
  rw [List.getD_eq_getElem?_getD]
  by_cases h : 256 * st.toNat + b.toNat < nx.length
  · rw [List.getElem?_eq_getElem h]
    exact (ok.nxb _ (List.getElem_mem h)).1
  · rw [List.getElem?_eq_none (by omega)]
    simp
theorem rlA_of {rl : List Int} {v : Nat} {q : Int} (h : v < rl.length) (hq : rl[v] = q) : rlA rl v = q := by simp [rlA, h, hq]
set_option maxRecDepth 20000 in
theorem run_code {lk lim : Nat} {H : Heap} (nx rl : List Int) (l : List UInt8) (c3 : chk nx rl = true) (h3 : l.length ≤ 1000000) : callW X A lk lim 20 [.agg (Dv nx rl), Sg l] H = some (I (runM nx rl l), H) := by
  have ok := (chk_ok c3).1
  have h512 := (chk_ok c3).2.1
  have hlen := ok.len
  have kc := check_code (lk := lk) (lim := H.length) (H := H) nx rl (by omega) (by omega)
  rw [chkE_pos c3] at kc
  refine wb_callB [2] rfl A20 rfl rfl ?_
  unfold t20B
  simp [kc]
  let bx : AV := .box (Dv nx rl)
  refine wb_loop (σ := Nat × Int) (fun s => [(1, Sg l), (2, bx), (5, I s.2), (6, I s.1)])
    (fun _ => H) (fun s => s.1 ≤ l.length ∧ -1 ≤ s.2 ∧ s.2 < rl.length ∧ stM nx l 0 = if s.2 < 0 then -1 else stM nx (l.drop s.1) s.2)
    (fun s => l.length - s.1) ?_ (0, 0) ⟨by simp, by simp, by have := ok.one; simp only; omega, by simp⟩ (by simp [bx]) rfl
  rintro ⟨i, st⟩ ⟨hi, hs1, hs2, hinv⟩
  simp only at hi hs1 hs2 hinv
  unfold t20L1
  have w1 : IntKind.i64.wrap ((i : Int) + 1) = (i : Int) + 1 := wrap64 (by omega) (by omega)
  have fin : ∀ v : Int, stM nx l 0 = v → v < 0 → runM nx rl l = -1 := fun v h1 h2 => by unfold runM; rw [h1, if_pos h2]
  have fin2 : ∀ v : Int, stM nx l 0 = v → ¬ v < 0 → runM nx rl l = rlA rl v := fun v h1 h2 => by unfold runM; rw [h1, if_neg h2]
  by_cases hs0 : st < 0
  · rw [if_pos hs0] at hinv
    have hr := fin _ hinv (by omega)
    have hs0' : ¬ 0 ≤ st := by omega
    by_cases hil : i < l.length
    · simp [bx, Sg_size, hil, hs0, hs0', hr]
    · simp [bx, Sg_size, hil, hs0, hs0', hr]
  rw [if_neg hs0] at hinv
  obtain ⟨st, rfl⟩ := Int.eq_ofNat_of_zero_le (by omega : 0 ≤ st)
  have hst : st < rl.length := by omega
  by_cases hil : i < l.length
  case neg =>
    obtain rfl : i = l.length := by omega
    rw [List.drop_length] at hinv
    have hr := fin2 _ hinv (by simp only [stM]; omega)
    simp only [stM] at hr
    obtain ⟨q, hq⟩ : ∃ q, rl[st] = q := ⟨_, rfl⟩
    rw [rlA_of hst hq] at hr
    simp [bx, Sg_size, hs0, hst, hq, hr]
  obtain ⟨b, hb⟩ : ∃ b, l[i] = b := ⟨_, rfl⟩
  rw [List.drop_eq_getElem_cons hil, hb] at hinv
  simp only [stM] at hinv
  have hb256 : b.toNat < 256 := b.toNat_lt
  have hix : 256 * st + b.toNat < nx.length := by rw [ok.len]; omega
  obtain ⟨v, hv⟩ : ∃ v, nx[256 * st + b.toNat] = v := ⟨_, rfl⟩
  have hvb := ok.nxb v (hv ▸ List.getElem_mem hix)
  have w5 : IntKind.i64.wrap (256 * (st : Int)) = 256 * (st : Int) := wrap64 (by omega) (by omega)
  have w6 : IntKind.i64.wrap (b.toNat : Int) = b.toNat := wrap64 (by omega) (by omega)
  have w7 : IntKind.i64.wrap (256 * (st : Int) + b.toNat) = 256 * (st : Int) + b.toNat := wrap64 (by omega) (by omega)
  have w8 : (256 * (st : Int) + b.toNat).toNat = 256 * st + b.toNat := by omega
  have w9 : 0 ≤ 256 * (st : Int) + b.toNat := by omega
  have w10 : 256 * (st : Int) + b.toNat < nx.length := by omega
  have hn : nxA nx st b = v := by
    simp [nxA, hix, hv]
  rw [hn] at hinv
  simp [bx, Sg_size, Sg_get, Sg_ge, w1, hil, hb, w5, w6, w7, w8, w9, w10, hix, hv, rnd_nrm]
  exact ⟨i + 1, v, ⟨by omega, by omega, by omega, hinv⟩, by omega, by simp⟩

/-! ### The plain law: the longest match -/
theorem stM_app (nx : List Int) : ∀ (l : List UInt8) (b : UInt8) (st : Int), 0 ≤ st → stM nx (l ++ [b]) st = if stM nx l st < 0 then -1 else if nxA nx (stM nx l st) b < 0 then -1 else nxA nx (stM nx l st) b
  | [], b, st, h => by 
    show (if nxA nx st b < 0 then -1 else nxA nx st b) = if st < 0 then -1 else if nxA nx st b < 0 then -1 else nxA nx st b
    rw [if_neg (by omega : ¬ st < 0)]
  | a :: l, b, st, h => by
    simp only [List.cons_append, stM]
    split
    · simp
    · rename_i h2
      exact stM_app nx l b _ (by omega)
theorem stM_dead (nx : List Int) : ∀ (p q : List UInt8) (st : Int), 0 ≤ st → stM nx p st < 0 → stM nx (p ++ q) st < 0
  | [], q, st, h, h2 => by simp only [stM] at h2; omega
  | a :: p, q, st, h, h2 => by
    simp only [List.cons_append, stM] at h2 ⊢
    split
    · omega
    · rename_i h3
      rw [if_neg h3] at h2
      exact stM_dead nx p q _ (by omega) h2
/-- A beginning's rule. -/
def ruM (nx rl : List Int) (l : List UInt8) (a to : Nat) : Int := runM nx rl ((l.drop a).take (to - a))
/-- The best as far as i. -/
def Best (nx rl : List Int) (l : List UInt8) (a i : Nat) (r t : Int) : Prop :=
  (r = -1 ∧ t = a + 1 ∧ ∀ to : Nat, a < to → to ≤ i → ruM nx rl l a to < 0) ∨
  (0 ≤ r ∧ (a : Int) < t ∧ t ≤ i ∧ ruM nx rl l a t.toNat = r ∧ ∀ to : Nat, t < to → to ≤ i → ruM nx rl l a to < 0)
theorem goM_best {nx rl : List Int} (ok : TOk nx rl) (l : List UInt8) (a : Nat) : ∀ (q : List UInt8) (i : Nat) (st r t : Int), a ≤ i → i ≤ l.length → l.drop i = q → 0 ≤ st → stM nx ((l.drop a).take (i - a)) 0 = st → Best nx rl l a i r t →
    Best nx rl l a l.length (goM nx rl q i st r t).1 (goM nx rl q i st r t).2.1
  | [], i, st, r, t, h1, h2, hq, h3, h4, hb => by
    have : i = l.length := by
      have := congrArg List.length hq
      simp at this; omega
    subst this
    exact hb
  | b :: q, i, st, r, t, h1, h2, hq, h3, h4, hb => by
    have hlt : i < l.length := by
      have := congrArg List.length hq
      simp at this; omega
    have hq2 : l.drop (i + 1) = q ∧ l[i] = b := by
      rw [List.drop_eq_getElem_cons hlt] at hq
      exact ⟨(List.cons.inj hq).2, (List.cons.inj hq).1⟩
    have htk : (l.drop a).take (i + 1 - a) = (l.drop a).take (i - a) ++ [b] := by
      rw [show i + 1 - a = (i - a) + 1 by omega, List.take_succ_eq_append_getElem (by simp; omega)]
      congr 2
      rw [List.getElem_drop, ← hq2.2]
      congr 1; omega
    have hst := stM_app nx ((l.drop a).take (i - a)) b 0 (Int.le_refl _)
    rw [h4, if_neg (by omega : ¬ st < 0), ← htk] at hst
    simp only [goM]
    by_cases hv : nxA nx st b < 0
    · rw [if_pos hv]
      rw [if_pos hv] at hst
      have dead : ∀ to : Nat, i < to → to ≤ l.length → ruM nx rl l a to < 0 := fun to hto _ => by
        unfold ruM runM
        have : (l.drop a).take (to - a) = (l.drop a).take (i + 1 - a) ++ ((l.drop a).take (to - a)).drop (i + 1 - a) := by
          have := (List.take_append_drop (i + 1 - a) ((l.drop a).take (to - a))).symm
          rw [List.take_take, Nat.min_eq_left (by omega)] at this
          exact this
        rw [this, if_pos (stM_dead nx _ _ 0 (Int.le_refl _) (by rw [hst]; omega))]
        omega
      rcases hb with ⟨b1, b2, b3⟩ | ⟨b1, b2, b3, b4, b5⟩
      · exact .inl ⟨b1, b2, fun to h5 h6 => by
          by_cases h7 : to ≤ i
          · exact b3 to h5 h7
          · exact dead to (by omega) h6⟩
      · exact .inr ⟨b1, b2, (by show t ≤ _; omega), b4, fun to h5 h6 => by
          by_cases h7 : to ≤ i
          · exact b5 to h5 h7
          · exact dead to (by omega) h6⟩
    · rw [if_neg hv]
      rw [if_neg hv] at hst
      have hr : ruM nx rl l a (i + 1) = rlA rl (nxA nx st b) := by
        unfold ruM runM
        rw [hst, if_neg hv]
      split
      · rename_i h5
        refine goM_best ok l a q (i + 1) _ _ _ (by omega) (by omega) hq2.1 (by omega) hst (.inr ⟨h5, by omega, by omega, ?_, fun to h6 h7 => by omega⟩)
        rw [show ((i : Int) + 1).toNat = i + 1 by omega, hr]
      · rename_i h5
        refine goM_best ok l a q (i + 1) _ _ _ (by omega) (by omega) hq2.1 (by omega) hst ?_
        rcases hb with ⟨b1, b2, b3⟩ | ⟨b1, b2, b3, b4, b5⟩
        · exact .inl ⟨b1, b2, fun to h6 h7 => by
            by_cases h8 : to ≤ i
            · exact b3 to h6 h8
            · rw [show to = i + 1 by omega, hr]; omega⟩
        · exact .inr ⟨b1, b2, by omega, b4, fun to h6 h7 => by
            by_cases h8 : to ≤ i
            · exact b5 to h6 h8
            · rw [show to = i + 1 by omega, hr]; omega⟩
theorem goM_te (nx rl : List Int) : ∀ (l : List UInt8) (i st r t : Int), t ≤ i + 1 → (goM nx rl l i st r t).2.1 ≤ (goM nx rl l i st r t).2.2
  | [], i, st, r, t, h => h
  | b :: l, i, st, r, t, h => by
    simp only [goM]
    split
    · exact h
    · split
      · exact goM_te nx rl l (i + 1) _ _ (i + 1) (by omega)
      · exact goM_te nx rl l (i + 1) _ r t (by omega)
theorem nextM_best {nx rl : List Int} (ok : TOk nx rl) (l : List UInt8) (a : Nat) (h : a < l.length) : Best nx rl l a l.length (nextM nx rl l a).1 (nextM nx rl l a).2.1 :=
  goM_best ok l a _ a 0 (-1) (a + 1) (Nat.le_refl _) (by omega) rfl (Int.le_refl _) (by simp [stM]) (.inl ⟨rfl, rfl, fun to h1 h2 => by omega⟩)
theorem runM_ge {nx rl : List Int} (ok : TOk nx rl) (l : List UInt8) : -1 ≤ runM nx rl l := by
  unfold runM
  split
  · omega
  · have h1 := stM_b ok l 0 (by have := ok.one; omega)
    unfold rlA
    rw [List.getD_eq_getElem?_getD, List.getElem?_eq_getElem (by omega)]
    exact (ok.rlb _ (List.getElem_mem (by omega))).1

set_option maxRecDepth 20000 in
theorem longest_code (nx rl : List Int) (l : List UInt8) (w : Int) (hw : -9223372036854775808 ≤ w ∧ w ≤ 9223372036854775807) : callW X A 0 0 5 [.agg (Dv nx rl), Sg l, I w] [] = some (Bo true, []) := by
  refine wb_callB [3, 7] rfl A5 rfl rfl ?_
  unfold t5B
  have k0 := lives_ok
  have k1 := light_code (lk := 0) (lim := 0) (H := []) nx rl 24 (by omega)
  rw [show ((24 : Nat) : Int) = 24 from rfl] at k1
  by_cases a1 : rl.length ≤ 24 ∧ nx.length ≤ 256 * 24
  case neg =>
    have hf : (decide (rl.length ≤ 24) && decide (nx.length ≤ 256 * 24)) = false := by
      rw [← Bool.decide_and]; exact decide_eq_false a1
    rw [hf] at k1
    generalize callW X A = C at k0 k1 ⊢
    simp [k0, k1]
  have ht : (decide (rl.length ≤ 24) && decide (nx.length ≤ 256 * 24)) = true := by
    rw [← Bool.decide_and]; exact decide_eq_true a1
  rw [ht] at k1
  obtain ⟨b1, b2⟩ := a1
  by_cases a2 : (60 : Int) < l.length
  · generalize callW X A = C at k0 k1 ⊢
    simp [k0, k1, Sg_size, a2]
  by_cases a3 : l.length = 0
  · generalize callW X A = C at k0 k1 ⊢
    simp [k0, k1, Sg_size, a2, a3]
  have a3' : ((l.length : Int) == 0) = false := by rw [beq_eq_false_iff_ne]; omega
  have k2 := check_code (lk := 0) (lim := 0) (H := []) nx rl (by omega) (by omega)
  by_cases a4 : chk nx rl = true
  case neg =>
    rw [chkE_neg a4] at k2
    generalize callW X A = C at k0 k1 k2 ⊢
    simp [k0, k1, Sg_size, a2, a3, a3', k2]
  rw [chkE_pos a4] at k2
  have ok := (chk_ok a4).1
  have k4 := pick_code (lk := 0) (lim := 0) (H := []) w l.length (by omega) hw
  rw [if_neg (by omega)] at k4
  have hm1 := Int.emod_nonneg w (by omega : (l.length : Int) ≠ 0)
  have hm2 := Int.emod_lt_of_pos w (by omega : (0 : Int) < l.length)
  obtain ⟨a, ha⟩ := Int.eq_ofNat_of_zero_le hm1
  rw [ha] at k4 hm2
  have hal : a < l.length := by omega
  have k5 := mnext_code (lk := 0) (lim := 0) (H := []) nx rl l a (by omega) (by omega) (by omega)
  rw [nextV_in hal a4] at k5
  have t1 := nextM_t nx rl hal
  have e1 := nextM_e nx rl (Nat.le_of_lt hal)
  have hbest := nextM_best ok l a hal
  obtain ⟨⟨r, t, e⟩, hx⟩ : ∃ x, nextM nx rl l a = x := ⟨_, rfl⟩
  rw [hx] at k5 t1 e1 hbest
  simp only at t1 e1 hbest
  simp only [lexC] at k5
  have hr1 : r < 0 → t = a + 1 := fun h => by
    rcases hbest with ⟨_, h2, _⟩ | ⟨h2, _⟩
    · exact h2
    · omega
  have hte : t ≤ e := by
    have := goM_te nx rl (l.drop a) a 0 (-1) (a + 1) (Int.le_refl _)
    unfold nextM at hx
    rw [hx] at this
    exact this
  obtain ⟨t, rfl⟩ := Int.eq_ofNat_of_zero_le (by omega : 0 ≤ t)
  have k6 := fun (to : Nat) => run_code (lk := 0) (lim := 0) (H := []) nx rl ((l.take to).drop a) a4 (by simp; omega)
  have hru : ∀ to : Nat, a < to → to ≤ l.length → (to = t → runM nx rl ((l.take to).drop a) = r) ∧ (t < to ∨ r < 0 → runM nx rl ((l.take to).drop a) < 0) := by
    intro to h1 h2
    have e0 : runM nx rl ((l.take to).drop a) = ruM nx rl l a to := by unfold ruM; rw [List.drop_take]
    have hge := runM_ge ok ((l.take to).drop a)
    rw [e0] at hge ⊢
    rcases hbest with ⟨c1, c2, c3⟩ | ⟨c1, c2, c3, c4, c5⟩
    · exact ⟨fun _ => by have := c3 to h1 h2; omega, fun _ => c3 to h1 h2⟩
    · refine ⟨fun h => by subst h; simpa using c4, fun h => ?_⟩
      rcases h with h | h
      · exact c5 to (by omega) h2
      · omega
  have w1 : IntKind.i64.wrap ((l.length : Int) + 1) = l.length + 1 := wrap64 (by omega) (by omega)
  have w2 : IntKind.i64.wrap ((a : Int) + 1) = a + 1 := wrap64 (by omega) (by omega)
  have n1 : ¬ (t : Int) ≤ a := by omega
  have n1' : ¬ t ≤ a := by omega
  have n2 : ¬ (l.length : Int) < t := by omega
  have n2' : ¬ l.length < t := by omega
  have n3 : ¬ e < (t : Int) := by omega
  have n4 : ¬ (l.length : Int) + 1 < e := by omega
  have main : WB ⟨callW X A, 0, 0, [3, 7]⟩ (.loop [1, 2, 3, 7, 9] t5L1) (BlkE 0 (Fol ⟨callW X A, 0, 0, [3, 7]⟩ (.seq (.regN [] [⟨some 6, none, .mv (.con (.val (.bool true))), 0, false⟩]) .ret) (FinT [.tmp 6] true [] (Bo true, []))))
      [(9, I (a + 1 : Nat)), (91, I (a + 1 : Nat)), (90, I a), (1, Sg l), (2, I a), (3, .box (Dv nx rl)), (7, .box [I r, I a, I t, I e])] [] := by
    let bx : AV := .box (Dv nx rl)
    refine wb_loop (σ := Nat) (fun to => [(1, Sg l), (2, I a), (3, bx), (7, .box [I r, I a, I t, I e]), (9, I to)])
      (fun _ => []) (fun to => a < to ∧ to ≤ l.length + 1) (fun to => l.length + 1 - to) ?_ (a + 1) ⟨by omega, by omega⟩ (by simp [bx]) rfl
    rintro to ⟨g1, g2⟩
    unfold t5L1
    have w3 : IntKind.i64.wrap ((to : Int) + 1) = (to : Int) + 1 := wrap64 (by omega) (by omega)
    by_cases hto : to ≤ l.length
    case neg => simp [bx, Sg_size, hto]
    obtain ⟨q1, q2⟩ := hru to g1 hto
    have k6' := k6 to
    have g3 : a ≤ to := by omega
    obtain ⟨v, hv⟩ : ∃ v, runM nx rl ((l.take to).drop a) = v := ⟨_, rfl⟩
    rw [hv] at k6' q1 q2
    have g4 : (a : Int) ≤ to := by omega
    have g5 : (to : Int) ≤ l.length := by omega
    by_cases h1 : to = t
    · have q1 := q1 h1
      subst h1
      by_cases h2 : r < 0
      · have h3 := q2 (.inr h2)
        have h4 : ¬ 0 ≤ v := by omega
        have h5 : ¬ 0 ≤ r := by omega
        simp [bx, Sg_size, Sg_ext, bnd, hto, k6', g3, g4, g5, h2, h4, h5, q1, w3, rnd_nrm]
        exact ⟨to + 1, ⟨by omega, by omega⟩, by omega, by simp⟩
      · simp [bx, Sg_size, Sg_ext, bnd, hto, k6', g3, g4, g5, h2, q1, w3, rnd_nrm]
        exact ⟨to + 1, ⟨by omega, by omega⟩, by omega, by simp⟩
    · have h1' : ((to : Int) == (t : Int)) = false := by rw [beq_eq_false_iff_ne]; omega
      by_cases h2 : t < to
      · have h3 := q2 (.inl h2)
        have h4 : ¬ 0 ≤ v := by omega
        simp [bx, Sg_size, Sg_ext, bnd, hto, k6', g3, g4, g5, h1', h2, h4, w3, rnd_nrm]
        exact ⟨to + 1, ⟨by omega, by omega⟩, by omega, by simp⟩
      · by_cases h5 : r < 0
        · have h3 := q2 (.inr h5)
          have h4 : ¬ 0 ≤ v := by omega
          simp [bx, Sg_size, Sg_ext, bnd, hto, k6', g3, g4, g5, h1', h2, h4, h5, w3, rnd_nrm]
          exact ⟨to + 1, ⟨by omega, by omega⟩, by omega, by simp⟩
        · simp [bx, Sg_size, Sg_ext, bnd, hto, k6', g3, g4, g5, h1', h2, h5, w3, rnd_nrm]
          exact ⟨to + 1, ⟨by omega, by omega⟩, by omega, by simp⟩
  generalize callW X A = C at k0 k1 k2 k4 k5 main ⊢
  simp [-wi_stL, k0, k1, Sg_size, a2, a3, a3', k2, k4, k5]
  rw [wi_stL]
  simp [-fol_nrm, replaceAt]
  rw [fol_nrm, wb_seq, wb_seq, wb_regN]
  simp [restrict, find, -wr_cons, -fol_nrm]
  by_cases hr0 : r < 0
  · have hr2 : t = a + 1 := by have := hr1 hr0; omega
    subst hr2
    have p1 : ¬ (a : Int) + 1 ≤ a := by omega
    have p2 : ¬ (l.length : Int) < (a : Int) + 1 := by omega
    have p3 : ¬ e < (a : Int) + 1 := by omega
    have p4 : (a : Int) + 1 = ((a + 1 : Nat) : Int) := by omega
    iterate 48 (rw [wr_cons]; simp [-wr_cons, -wr_nil, p1, p2, p3, n4, w1, w2, hr0, Sg_size])
    rw [wr_nil]
    simp [w2]
    simpa using main
  · iterate 48 (rw [wr_cons]; simp [-wr_cons, -wr_nil, n1, n1', n2, n2', n3, n4, w1, w2, hr0, Sg_size])
    rw [wr_nil]
    simp [w2]
    simpa using main
end Go.Proofs.Ytoiolinclpiohaa
