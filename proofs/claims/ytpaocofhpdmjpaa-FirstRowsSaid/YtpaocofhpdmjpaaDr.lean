import Derived.Test.YtpaocofhpdmjpaaY
set_option linter.unusedSimpArgs false
set_option linter.unusedVariables false
namespace Go.Proofs.Ytpaocofhpdmjpaa
open Go Go.Hm

theorem pick_code {lk lim : Nat} {H : Heap} (n : Int) (m : Nat) (hm : m ≤ 1000000) : callW X A lk lim 25 [I n, I m] H = some (I (if m < 1 then 0 else n % m), H) := by
  refine wb_callB [] rfl A25 rfl rfl ?_
  unfold t25B
  by_cases h : m < 1
  · have h' : (m : Int) < 1 := by omega
    simp [h, h']
  have h' : ¬ (m : Int) < 1 := by omega
  have h0 : ¬ ((m : Int) = 0) := by omega
  have h00 : ¬ m = 0 := by omega
  have hnn := Int.emod_nonneg n (by omega : (m : Int) ≠ 0)
  have hmod := Int.emod_emod_of_dvd n (Int.dvd_refl m)
  by_cases hr : n.tmod m < 0
  · have e : n % m = n.tmod m + m := by
      have := Int.tmod_eq_emod (a := n) (b := m)
      split at this <;> omega
    have hlt := Int.lt_tmod_of_pos n (by omega : (0 : Int) < m)
    have w : IntKind.i64.wrap (n.tmod m + m) = n.tmod m + m := wrap64 (by omega) (by omega)
    simp [h, h', h00, hr, w, e]
  · have e : n % m = n.tmod m := by
      have := Int.tmod_eq_emod (a := n) (b := m)
      have h2 := Int.emod_lt_of_pos n (by omega : (0 : Int) < m)
      split at this <;> omega
    simp [h, h', h00, hr, e]

/-! ### A heap with a stack, and what is left of rows -/
def FH (H : Heap) (S : List AV) (G : Heap) : Heap := H ++ .cells S :: G
theorem FH_len (H : Heap) (S : List AV) (G : Heap) : (FH H S G).length = H.length + 1 + G.length := by simp [FH]; omega
theorem FH_get (H : Heap) (S : List AV) (G : Heap) : (FH H S G)[H.length]? = some (.cells S) := by simp [FH]
theorem FH_set (H : Heap) (S T : List AV) (G : Heap) : (FH H S G).set H.length (.cells T) = FH H T G := by simp [FH]
theorem FH_app (H : Heap) (S : List AV) (G : Heap) (x : HB) : FH H S G ++ [x] = FH H S (G ++ [x]) := by simp [FH]
theorem FH_getL (H : Heap) (S : List AV) (G : Heap) (x : HB) : (FH H S (G ++ [x]))[H.length + 1 + G.length]? = some x := by
  unfold FH
  rw [List.getElem?_append_right (by omega), show H.length + 1 + G.length - H.length = G.length + 1 from by omega, List.getElem?_cons_succ, List.getElem?_append_right (Nat.le_refl _)]
  simp
theorem FH_setL (H : Heap) (S : List AV) (G : Heap) (x y : HB) : (FH H S (G ++ [x])).set (H.length + 1 + G.length) y = FH H S (G ++ [y]) := by
  unfold FH
  rw [List.set_append_right _ _ (by omega), show H.length + 1 + G.length - H.length = G.length + 1 from by omega, List.set_cons_succ, List.set_append_right _ _ (Nat.le_refl _)]
  simp
theorem FH_take (H : Heap) (S : List AV) (G : Heap) : (FH H S G).take H.length = H := by simp [FH]
/-- What is pushed lies at the stack's end. -/
theorem appC_take {n : Nat} {S : List AV} {a : AV} (h : n ≤ S.length) : (appC n S.length S [a]).take (n + 1) = S.take n ++ [a] ∧ (appC n S.length S [a]).length = appG n S.length 1 ∧ n + 1 ≤ (appC n S.length S [a]).length := by
  unfold appC appG
  split
  · rename_i e
    subst e
    refine ⟨?_, by simp, by simp⟩
    rw [List.take_of_length_le (by simp), List.take_length]
  · have hl : n < S.length := by omega
    unfold replaceAt
    refine ⟨?_, ?_, ?_⟩
    · rw [List.take_append_of_le_length (by simp; omega), List.take_of_length_le (by simp; omega)]
    · simp; omega
    · simp; omega
theorem nts_app1 (l : List Nat) (x : Nat) : nts l ++ [I (x : Int)] = nts (l ++ [x]) := by simp [nts]

/-- Production numbers of a left. -/
def lOf (g : Gm) (x : Int) (i : Nat) : List Nat := (List.range i).filter fun k => match g.ps[k]? with | some p => decide (p.l = x) | none => false
theorem lOf_succ (g : Gm) (x : Int) (i : Nat) (p : Pr) (h : g.ps[i]? = some p) : lOf g x (i + 1) = if p.l = x then lOf g x i ++ [i] else lOf g x i := by
  unfold lOf
  rw [List.range_succ, List.filter_append]
  simp only [List.filter_cons, h, List.filter_nil]
  split <;> simp_all
theorem lOf_mem {g : Gm} {x : Int} {i k : Nat} (h : k ∈ lOf g x i) : k < i ∧ ∃ p, g.ps[k]? = some p ∧ p.l = x := by
  unfold lOf at h
  rw [List.mem_filter, List.mem_range] at h
  refine ⟨h.1, ?_⟩
  obtain ⟨_, h⟩ := h
  split at h
  · rename_i p hp
    exact ⟨p, hp, by simpa using h⟩
  · cases h
def lV (B : Nat) (l : List Nat) : AV := if l = [] then .e0 else .hs B l.length 0 l.length 1
def lG (l : List Nat) : Heap := if l = [] then [] else [.cells (nts l)]
theorem lOf_len (g : Gm) (x : Int) (i : Nat) : (lOf g x i).length ≤ i := by
  unfold lOf
  exact Nat.le_trans (List.length_filter_le ..) (by simp)
theorem src_one (H : Heap) (a : AV) : srcCells H (.sl 1 [a]) = some (1, [a]) := rfl
theorem lV_nil (B : Nat) : lV B [] = .e0 := rfl
theorem lG_nil : lG [] = [] := rfl
theorem lV_cons (B a : Nat) (l : List Nat) : lV B (a :: l) = .hs B (l.length + 1) 0 (l.length + 1) 1 := rfl
theorem lG_cons (a : Nat) (l : List Nat) : lG (a :: l) = [.cells (nts (a :: l))] := rfl
theorem lV_snoc (B : Nat) (l : List Nat) (a : Nat) : lV B (l ++ [a]) = .hs B (l.length + 1) 0 (l.length + 1) 1 := by
  unfold lV
  rw [if_neg (by simp)]
  simp
theorem lG_snoc (l : List Nat) (a : Nat) : lG (l ++ [a]) = [.cells (nts (l ++ [a]))] := by
  unfold lG
  rw [if_neg (by simp)]
theorem setH_1 {lk lim : Nat} {H : Heap} {b : Nat} {cs : List AV} {x : Int} (h : lk ≤ b) : setH lk lim 0 H b cs [I x] = some (H.set b (.cells cs)) := by
  unfold setH
  rw [if_pos ⟨h, .inr rfl, .inl (Nat.zero_le _)⟩]
set_option maxRecDepth 20000 in
/-- The productions of a left, put together. -/
theorem d18L1 {C : Orc} {lk : Nat} {Q : Ex → Kt} {env : Env} {H G : Heap} {S : List AV} {t n k x : Int} {ps : List Pr} {c : List Int} {st m sn : Nat} {o : List UInt8} (hlk : lk ≤ H.length) (hpl : ps.length ≤ 64) (hx : 0 ≤ x - t ∧ x - t ≤ 100)
    (hE : restrict [1, 2, 3, 8, 9, 10, 11, 12, 13] env = [(1, .sl c.length (ints c)), (2, I st), (3, .box [I t, I n, I k, .sl ps.length (psC ps)]), (8, .hs H.length S.length 0 sn 1), (9, Sg o), (10, I m), (11, I x), (12, .e0), (13, I 0)])
    (hQ : ∀ env', restrict [1, 2, 3, 8, 9, 10, 12] env' = [(1, .sl c.length (ints c)), (2, I st), (3, .box [I t, I n, I k, .sl ps.length (psC ps)]), (8, .hs H.length S.length 0 sn 1), (9, Sg o), (10, I m), (12, lV (H.length + 1 + G.length) (lOf ⟨t, n, k, ps⟩ (x - t) ps.length))] → Q (.exit 2) env' (FH H S (G ++ lG (lOf ⟨t, n, k, ps⟩ (x - t) ps.length)))) :
    WB ⟨C, lk, H.length, [3, 14]⟩ (.loop [1, 2, 3, 8, 9, 10, 11, 12, 13] t18L1) Q env (FH H S G) := by
  let bx : AV := .box [I t, I n, I k, .sl ps.length (psC ps)]
  let g : Gm := ⟨t, n, k, ps⟩
  refine wb_loop (σ := Nat) (fun i => [(1, .sl c.length (ints c)), (2, I st), (3, bx), (8, .hs H.length S.length 0 sn 1), (9, Sg o), (10, I m), (11, I x), (12, lV (H.length + 1 + G.length) (lOf g (x - t) i)), (13, I i)]) (fun i => FH H S (G ++ lG (lOf g (x - t) i)))
    (fun i => i ≤ ps.length) (fun i => ps.length - i) ?_ 0 (by omega) hE (by simp [lG, lOf])
  intro i hi
  unfold t18L1
  have w1 : IntKind.i64.wrap ((i : Int) + 1) = (i : Int) + 1 := wrap64 (by omega) (by omega)
  have w2 : IntKind.i64.wrap (x - t) = x - t := wrap64 (by omega) (by omega)
  by_cases hil : i < ps.length
  case neg =>
    obtain rfl : i = ps.length := by omega
    show WB _ _ _ [(1, .sl c.length (ints c)), (2, I st), (3, bx), (8, .hs H.length S.length 0 sn 1), (9, Sg o), (10, I m), (11, I x), (12, lV (H.length + 1 + G.length) (lOf ⟨t, n, k, ps⟩ (x - t) ps.length)), (13, I ps.length)] _
    generalize hlv : lV (H.length + 1 + G.length) (lOf ⟨t, n, k, ps⟩ (x - t) ps.length) = lv at hQ ⊢
    simp [bx]
    refine hQ _ ?_
    simp
  obtain ⟨p, hp⟩ : ∃ p, ps[i] = p := ⟨_, rfl⟩
  have hpl2 := psC_l hil
  have hll := psC_len ps
  have h2 : i * 2 + 2 ≤ 2 * ps.length := by omega
  rw [hp] at hpl2
  have hs := lOf_succ g (x - t) i p (by show ps[i]? = _; rw [List.getElem?_eq_getElem hil, hp])
  have hle := lOf_len g (x - t) i
  have hBl := FH_len H S G
  have hne : ∀ l : List Nat, ∀ a, nts l ++ [AV.val (Value.int IntKind.i64 (a : Nat))] = nts (l ++ [a]) := nts_app1
  by_cases hpx : p.l = x - t
  · rw [if_pos hpx] at hs
    have hfin : ∀ s' : Nat, s' = i + 1 → lV (H.length + 1 + G.length) (lOf g (x - t) s') = .hs (H.length + 1 + G.length) ((lOf g (x - t) i).length + 1) 0 ((lOf g (x - t) i).length + 1) 1 ∧ lG (lOf g (x - t) s') = [.cells (nts (lOf g (x - t) i ++ [i]))] := fun s' e => by
      subst e
      rw [hs, lV_snoc, lG_snoc]
      exact ⟨rfl, rfl⟩
    have hfin1 := hfin (i + 1) rfl
    generalize lOf g (x - t) i = l at hle hfin1 ⊢
    cases l with
    | nil =>
      have r1 : (8 : Nat) ≤ room := by decide
      rw [lV_nil, lG_nil]
      simp [bx, hil, hpl2, hpx, w1, w2, rnd_nrm, src_one, r1, FH_app, FH_len]
      exact ⟨i + 1, by omega, by omega, ⟨hfin1.1.symm, by omega⟩, by rw [hfin1.2]; rfl⟩
    | cons a l =>
      have r1 : (l.length + 1 + 1) * 8 ≤ room := by unfold room; simp only [List.length_cons] at hle; omega
      have hlkB : lk ≤ H.length + 1 + G.length := by omega
      rw [lV_cons, lG_cons]
      simp [bx, hil, hpl2, hpx, w1, w2, rnd_nrm, src_one, r1, FH_getL, FH_setL, setH_1, hlkB, appC, appG]
      exact ⟨i + 1, by omega, by omega, ⟨hfin1.1.symm, by omega⟩, by rw [hfin1.2, nts_app1]⟩
  · rw [if_neg hpx] at hs
    have hfin1 : lOf g (x - t) (i + 1) = lOf g (x - t) i := hs
    generalize lOf g (x - t) i = l at hle hfin1 ⊢
    cases l with
    | nil =>
      rw [lV_nil, lG_nil]
      simp [bx, hil, hpl2, hpx, w1, w2, rnd_nrm]
      exact ⟨i + 1, by omega, by omega, ⟨by rw [hfin1]; rfl, by omega⟩, by rw [hfin1]; simp [lG_nil]⟩
    | cons a l =>
      rw [lV_cons, lG_cons]
      simp [bx, hil, hpl2, hpx, w1, w2, rnd_nrm]
      exact ⟨i + 1, by omega, by omega, ⟨by rw [hfin1]; rfl, by omega⟩, by rw [hfin1]; rfl⟩

set_option maxRecDepth 20000 in
/-- A right side is pushed, its end first. -/
theorem d18L2 {C : Orc} {lk : Nat} {Q : Ex → Kt} {env : Env} {H G : Heap} {S : List AV} {v3 : List AV} {pl : Int} {r : List Int} {c : List Int} {st m : Nat} {o : List UInt8} {stk : List Int} (hlk : lk ≤ H.length) (hrl : r.length ≤ 100) (hsl : stk.length ≤ 10000) (hS : S.take stk.length = ints stk) (hSl : stk.length ≤ S.length)
    (hE : restrict [1, 2, 3, 8, 9, 10, 14, 15] env = [(1, .sl c.length (ints c)), (2, I st), (3, .box v3), (8, .hs H.length S.length 0 stk.length 1), (9, Sg o), (10, I m), (14, .box [I pl, .sl r.length (ints r)]), (15, I ((r.length : Int) - 1))])
    (hQ : ∀ env' S', S'.take (stk ++ r.reverse).length = ints (stk ++ r.reverse) → (stk ++ r.reverse).length ≤ S'.length → restrict [1, 2, 3, 8, 9, 10] env' = [(1, .sl c.length (ints c)), (2, I st), (3, .box v3), (8, .hs H.length S'.length 0 (stk ++ r.reverse).length 1), (9, Sg o), (10, I m)] → Q (.exit 4) env' (FH H S' G)) :
    WB ⟨C, lk, H.length, [3, 14]⟩ (.loop [1, 2, 3, 8, 9, 10, 14, 15] t18L2) Q env (FH H S G) := by
  refine wb_loop (σ := Nat × List AV) (fun s => [(1, .sl c.length (ints c)), (2, I st), (3, .box v3), (8, .hs H.length s.2.length 0 (stk ++ (r.drop s.1).reverse).length 1), (9, Sg o), (10, I m), (14, .box [I pl, .sl r.length (ints r)]), (15, I ((s.1 : Int) - 1))]) (fun s => FH H s.2 G)
    (fun s => s.1 ≤ r.length ∧ s.2.take (stk ++ (r.drop s.1).reverse).length = ints (stk ++ (r.drop s.1).reverse) ∧ (stk ++ (r.drop s.1).reverse).length ≤ s.2.length) (fun s => s.1) ?_ (r.length, S) ⟨Nat.le_refl _, by simpa using hS, by simpa using hSl⟩ (by rw [hE]; simp) rfl
  rintro ⟨j, S⟩ ⟨hj, hS, hSl⟩
  simp only at hj hS hSl
  unfold t18L2
  cases j with
  | zero =>
    rw [List.drop_zero] at hS hSl
    show WB _ _ _ [(1, .sl c.length (ints c)), (2, I st), (3, .box v3), (8, .hs H.length S.length 0 (stk ++ r.reverse).length 1), (9, Sg o), (10, I m), (14, .box [I pl, .sl r.length (ints r)]), (15, I (((0 : Nat) : Int) - 1))] (FH H S G)
    have hQ := fun env' => hQ env' S hS hSl
    generalize (stk ++ r.reverse).length = n at hQ ⊢
    simp
    refine hQ _ ?_
    simp
  | succ j =>
    have hjl : j < r.length := by omega
    have hd : (r.drop j).reverse = (r.drop (j + 1)).reverse ++ [r[j]] := by rw [List.drop_eq_getElem_cons hjl, List.reverse_cons]
    have e1 : stk ++ (r.drop j).reverse = (stk ++ (r.drop (j + 1)).reverse) ++ [r[j]] := by rw [hd, List.append_assoc]
    have hlen : (stk ++ (r.drop (j + 1)).reverse).length ≤ 10100 := by simp; omega
    show WB _ _ _ [(1, .sl c.length (ints c)), (2, I st), (3, .box v3), (8, .hs H.length S.length 0 (stk ++ (r.drop (j + 1)).reverse).length 1), (9, Sg o), (10, I m), (14, .box [I pl, .sl r.length (ints r)]), (15, I (((j + 1 : Nat) : Int) - 1))] (FH H S G)
    generalize hq : stk ++ (r.drop (j + 1)).reverse = q at *
    obtain ⟨a1, a2, a3⟩ := appC_take (a := I r[j]) hSl
    generalize hy : r[j] = y at *
    have w1 : IntKind.i64.wrap ((j : Int) - 1) = (j : Int) - 1 := wrap64 (by omega) (by omega)
    have place : q.length = S.length ∨ q.length + 1 ≤ S.length := by omega
    have r1 : (q.length + 1) * 8 ≤ room := by unfold room; omega
    generalize hS2 : appC q.length S.length S [I y] = S2 at *
    have hnq : q.length = stk.length + (r.length - (j + 1)) := by rw [← hq]; simp
    generalize hn : q.length = nq at *
    simp [hjl, hy, src_one, FH_get, FH_set, setH_1, hlk, place, r1, hS2, w1, rnd_nrm]
    refine ⟨j, S2, ⟨by omega, ?_, by omega⟩, by omega, ⟨⟨a2.symm, by omega⟩, rfl⟩, rfl⟩
    rw [show stk.length + (r.length - j) = nq + 1 from by omega, a1, hS, e1, ints_app]
    rfl

theorem ints_last {S : List AV} {q : List Int} {x : Int} (h : S.take (q ++ [x]).length = ints (q ++ [x])) : S.take q.length = ints q ∧ S[q.length]? = some (I x) := by
  rw [List.length_append, List.length_singleton, ints_app] at h
  refine ⟨?_, ?_⟩
  · have := congrArg (List.take q.length) h
    rw [List.take_take, Nat.min_eq_left (by omega), List.take_append_of_le_length (by simp)] at this
    rw [this, List.take_of_length_le (by simp)]
  · have : (S.take (q.length + 1))[q.length]? = some (I x) := by
      rw [h, List.getElem?_append_right (by simp), ints_len, Nat.sub_self]
      rfl
    rw [List.getElem?_take, if_pos (by omega)] at this
    exact this
structure DInv (g : Gm) (st : Nat) (stk : List Int) (S : List AV) (o : List UInt8) (m : Nat) : Prop where
  cS : S.take stk.length = ints stk
  Sl : stk.length ≤ S.length
  r : ∀ x ∈ stk, 0 ≤ x ∧ x < g.t + g.n
  d : ∀ t, Drv g stk.reverse t → Drv g [g.t] (o ++ t)
  b : m + st * 10 + stk.length ≤ 601
  o : o.length ≤ m
theorem DInv.tok {g : Gm} {st : Nat} {q : List Int} {x : Int} {S : List AV} {o : List UInt8} {m : Nat} (h : DInv g st (q ++ [x]) S o m) (hx : x < g.t) : DInv g st q S (o ++ [byteI x]) (m + 1) := by
  have hb := h.b
  rw [List.length_append, List.length_singleton] at hb
  have hl := h.Sl
  rw [List.length_append, List.length_singleton] at hl
  refine ⟨(ints_last h.cS).1, by omega, fun y hy => h.r y (List.mem_append_left _ hy), fun t ht => ?_, by omega, by have := h.o; simp; omega⟩
  have := h.d (byteI x :: t) (by rw [List.reverse_append]; exact .tok x _ _ hx ht)
  rwa [List.append_assoc]
theorem DInv.non {g : Gm} (hg : GOk g) {st : Nat} {q : List Int} {x : Int} {S S' : List AV} {o : List UInt8} {m : Nat} {p : Pr} (h : DInv g (st + 1) (q ++ [x]) S o m) (hp : p ∈ g.ps) (hx : p.l = x - g.t) (hS : S'.take (q ++ p.r.reverse).length = ints (q ++ p.r.reverse)) (hSl : (q ++ p.r.reverse).length ≤ S'.length) : DInv g st (q ++ p.r.reverse) S' o (m + 1) := by
  have hb := h.b
  have pok := hg.p p hp
  have hrl := pok.len
  rw [List.length_append, List.length_singleton] at hb
  refine ⟨hS, hSl, fun y hy => ?_, fun t ht => ?_, by rw [List.length_append, List.length_reverse]; omega, by have := h.o; omega⟩
  · rcases List.mem_append.1 hy with hy | hy
    · exact h.r y (List.mem_append_left _ hy)
    · exact pok.s y (List.mem_reverse.1 hy)
  · rw [List.reverse_append, List.reverse_reverse] at ht
    refine h.d t ?_
    rw [List.reverse_append, show x = g.t + p.l from by omega]
    exact .non p _ _ hp ht
set_option maxRecDepth 20000 in
set_option maxHeartbeats 2000000 in
theorem derives_code {lk lim : Nat} {H : Heap} (hlk : lk ≤ H.length) (g : Gm) (hg : GOk g) (c : List Int) (hc : c.length ≤ 60) :
    ∃ v h', callW X A lk lim 18 [gV g, .sl c.length (ints c), I 60] H = some (v, h') ∧ h' = H ∧ ∃ s ok, v = .tup [Sg s, Bo ok] ∧ (ok = true → Drv g [g.t] s ∧ s.length ≤ 1000) := by
  have k25 := fun (L : Nat) (G : Heap) (n : Int) (m : Nat) h => pick_code (lk := lk) (lim := L) (H := G) n m h
  refine wb_callX [3, 14] rfl A18 rfl rfl ?_
  unfold t18B
  have hg2 := hg
  obtain ⟨t, n, k, ps⟩ := g
  obtain ⟨t1, t2, n1, n2, k1, k2, l1, l2, okp⟩ := hg2
  simp only at t1 t2 n1 n2 k1 k2 l1 l2 okp
  generalize callW X A = C at k25 ⊢
  simp [Gm.cells]
  let bx : List AV := [I t, I n, I k, .sl ps.length (psC ps)]
  refine wb_loop (σ := Nat × List Int × List AV × List UInt8 × Nat × Heap) (fun s => [(1, .sl c.length (ints c)), (2, I s.1), (3, .box bx), (8, .hs H.length s.2.2.1.length 0 s.2.1.length 1), (9, Sg s.2.2.2.1), (10, I s.2.2.2.2.1)]) (fun s => FH H s.2.2.1 s.2.2.2.2.2)
    (fun s => DInv ⟨t, n, k, ps⟩ s.1 s.2.1 s.2.2.1 s.2.2.2.1 s.2.2.2.2.1) (fun s => s.1 * 10 + s.2.1.length) ?_ (60, [t], [I t], [], 0, []) ⟨rfl, Nat.le_refl _, by simp; omega, fun t ht => ht, by simp, Nat.le_refl _⟩ (by simp [bx]) rfl
  rintro ⟨st, stk, S, o, m, G⟩ inv
  simp only at inv
  show WB _ t18L3 _ [(1, .sl c.length (ints c)), (2, I st), (3, .box bx), (8, .hs H.length S.length 0 stk.length 1), (9, Sg o), (10, I m)] (FH H S G)
  unfold t18L3
  rcases List.eq_nil_or_concat stk with rfl | ⟨q, x, rfl⟩
  · simp [bx, finX_ret, FH_take]
    exact ⟨_, _, ⟨rfl, rfl⟩, rfl, o, .inr ⟨rfl, by simpa using inv.d [] .nil, by have := inv.o; have := inv.b; omega⟩⟩
  rw [List.concat_eq_append] at inv ⊢
  obtain ⟨hq, hxS⟩ := ints_last inv.cS
  have hql := inv.Sl
  have hqb := inv.b
  have hxr := inv.r x (by simp)
  simp only at hxr
  rw [List.length_append, List.length_singleton] at hql hqb ⊢
  have hSl : q.length < S.length := by omega
  have hSE : S[q.length] = I x := by rw [List.getElem?_eq_getElem hSl] at hxS; simpa using hxS
  have w0 : IntKind.i64.wrap (q.length : Int) = q.length := wrap64 (by omega) (by omega)
  have wm1 : IntKind.i64.wrap ((m : Int) + 1) = (m : Int) + 1 := wrap64 (by omega) (by omega)
  have hlt : (q.length : Int) < (q.length : Int) + 1 := by omega
  have hle : (q.length : Int) ≤ (q.length : Int) + 1 := by omega
  by_cases hxt : x < t
  · have hw8 := u8_wrap x
    have hb1 := bytes1 (byteI x)
    have ha := sg_add (a := o) (b := [byteI x]) (by have := inv.o; simp; omega)
    simp [bx, FH_get, hSl, hxS, hSE, w0, hlt, hle, hxt, hw8, hb1, ha, wm1, rnd_nrm, bnd]
    exact ⟨st, q, S, o ++ [byteI x], m + 1, inv.tok hxt, by omega, ⟨rfl, ⟨rfl, rfl⟩, rfl, by omega⟩, G, rfl⟩
  simp [bx, FH_get, hSl, hxS, hSE, w0, hlt, hle, hxt, bnd]
  have wl : ∀ n : Nat, n ≤ 64 → IntKind.i64.wrap ((n : Int) - 1) = (n : Int) - 1 := fun n hn => wrap64 (by omega) (by omega)
  refine d18L1 (c := c) (st := st) (m := m) (sn := q.length) (o := o) (S := S) (G := G) (t := t) (n := n) (k := k) (ps := ps) (x := x) hlk (by omega) (by omega) (by simp) fun env' hE' => ?_
  rw [blk_exit, if_pos rfl, fol_nrm, wb_seq, wb_seq, wb_regN, hE']
  have hlm : ∀ j ∈ lOf ⟨t, n, k, ps⟩ (x - t) ps.length, j < ps.length ∧ ∃ p, ps[j]? = some p ∧ p.l = x - t := fun j hj => lOf_mem hj
  have hll := lOf_len ⟨t, n, k, ps⟩ (x - t) ps.length
  generalize lOf ⟨t, n, k, ps⟩ (x - t) ps.length = l at hlm hll ⊢
  cases l with
  | nil =>
    rw [lV_nil, lG_nil]
    simp [bx, finX_ret, FH_take]
    exact ⟨_, _, ⟨rfl, rfl⟩, rfl, [], .inl rfl⟩
  | cons a l =>
  rw [lV_cons, lG_cons]
  have nz : ∀ n : Nat, (((n : Int) + 1) == 0) = false ∧ ¬ (n : Int) + 1 = 0 := fun n => ⟨by rw [beq_eq_false_iff_ne]; omega, by omega⟩
  have nl := nz l.length
  by_cases hc0 : c.length = 0
  · simp [bx, finX_ret, FH_take, hc0, nl.1, nl.2]
    exact ⟨_, _, ⟨rfl, rfl⟩, rfl, [], .inl rfl⟩
  have hc1 : ((c.length : Int) == 0) = false := by rw [beq_eq_false_iff_ne]; omega
  by_cases hst0 : st = 0
  · simp [bx, finX_ret, FH_take, hc0, hc1, nl.1, nl.2, hst0]
    exact ⟨_, _, ⟨rfl, rfl⟩, rfl, [], .inl rfl⟩
  obtain ⟨st, rfl⟩ : ∃ s, st = s + 1 := ⟨st - 1, by omega⟩
  have ns := nz st
  by_cases hq2 : 200 < q.length
  · have hq2' : (200 : Int) < q.length := by omega
    simp [bx, finX_ret, FH_take, hc0, hc1, nl.1, nl.2, ns.1, ns.2, hq2']
    exact ⟨_, _, ⟨rfl, rfl⟩, rfl, [], .inl rfl⟩
  have hq2' : ¬ (200 : Int) < q.length := by omega
  have ws : IntKind.i64.wrap (st : Int) = st := wrap64 (by omega) (by omega)
  have hcm : m % c.length < c.length := Nat.mod_lt _ (by omega)
  have hrem : (m : Int).tmod (c.length : Int) = ((m % c.length : Nat) : Int) := by
    rw [Int.tmod_eq_emod_of_nonneg (by omega)]; omega
  obtain ⟨y, hy⟩ : ∃ y, c[m % c.length] = y := ⟨_, rfl⟩
  generalize hcmq : m % c.length = cm at *
  have hj0 := Int.emod_nonneg y (show (((l.length + 1 : Nat)) : Int) ≠ 0 by omega)
  have hj1 := Int.emod_lt_of_pos y (show (0 : Int) < ((l.length + 1 : Nat)) by omega)
  have k25' := fun (L : Nat) (G : Heap) => k25 L G y (l.length + 1) (by simp only [List.length_cons] at hll; omega)
  rw [if_neg (by omega)] at k25'
  obtain ⟨j, hj⟩ : ∃ j : Nat, y % ((l.length + 1 : Nat) : Int) = j := ⟨(y % ((l.length + 1 : Nat) : Int)).toNat, by omega⟩
  rw [hj] at k25' hj1
  have hjl : j < (a :: l).length := by simp only [List.length_cons]; omega
  obtain ⟨hpi, p, hp, hpx⟩ := hlm (a :: l)[j] (List.getElem_mem hjl)
  have hjc : (nts (a :: l))[j]? = some (I ((a :: l)[j] : Nat)) := by simp only [nts, List.getElem?_map, List.getElem?_eq_getElem hjl]; rfl
  have hnl : (nts (a :: l)).length = l.length + 1 := by simp
  generalize hpiq : (a :: l)[j] = pi at *
  have hjl' : (j : Int) < (l.length : Int) + 1 := by omega
  have hpp : ps[pi] = p := by rw [List.getElem?_eq_getElem hpi] at hp; simpa using hp
  have hs := psC_sub hpi
  have hlc := psC_len ps
  have h2 : pi * 2 + 2 ≤ 2 * ps.length := by omega
  rw [hpp] at hs
  simp only [Pr.cells] at hs
  generalize hN : nts (a :: l) = N at *
  have k25' : ∀ L G, C lk L 25 [I y, I ((l.length : Int) + 1)] G = some (I j, G) := fun L G => by simpa using k25' L G
  simp [-wi_stLD, bx, hc0, hc1, nl.1, nl.2, ns.1, ns.2, hq2', ws, hrem, hcm, hy, k25', FH_getL, hjc, hjl', hnl, hpi, hs, hlc, h2]
  rw [wi_stLD]
  have pok := okp p (List.mem_of_getElem? hp)
  have hrl := pok.len
  have wr1 : IntKind.i64.wrap ((p.r.length : Int) - 1) = (p.r.length : Int) - 1 := wrap64 (by omega) (by omega)
  simp [replaceAt, wr1]
  refine d18L2 (c := c) (st := st) (m := m) (o := o) (S := S) (G := G ++ [.cells N]) (v3 := bx) (pl := p.l) (r := p.r) (stk := q) hlk (by omega) (by omega) hq (by omega) ?_ ?_
  · simp [bx]
  intro env' S' hS' hSl' hE'
  have inv' := inv.non hg (List.mem_of_getElem? hp) hpx hS' hSl'
  rw [blk_exit, if_pos rfl, blk_nrm, fol_nrm, wb_regN, hE']
  have hq'l : (q ++ p.r.reverse).length = q.length + p.r.length := by simp
  generalize q ++ p.r.reverse = q' at *
  simp [wm1]
  rw [rnd_nrm]
  exact ⟨(st, q', S', o, m + 1, G ++ [.cells N]), inv', by simp only; simp; omega, by simp [bx], rfl⟩
end Go.Proofs.Ytpaocofhpdmjpaa
