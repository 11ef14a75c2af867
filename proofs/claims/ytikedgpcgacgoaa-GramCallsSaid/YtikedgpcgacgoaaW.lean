import Derived.Test.YtikedgpcgacgoaaV
set_option linter.unusedSimpArgs false
set_option linter.unusedVariables false
namespace Go.Proofs.Ytikedgpcgacgoaa
open Go Go.Hm

theorem row_set {α : Type} {A R : List α} {x y v : α} {i : Nat} (h : A.length = 2 * i) : (A ++ x :: y :: R).set (i * 2 + 1) v = A ++ x :: v :: R := by
  rw [List.set_append_right _ _ (by omega), show i * 2 + 1 - A.length = 1 by omega]; rfl
theorem row_get {α : Type} {A R : List α} {x y : α} {i : Nat} (h : A.length = 2 * i) : (A ++ x :: y :: R)[i * 2 + 1]? = some y := by
  rw [List.getElem?_append_right (by omega), show i * 2 + 1 - A.length = 1 by omega]; rfl
theorem row_set0 {α : Type} {A R : List α} {x y v : α} {i : Nat} (h : A.length = 2 * i) : (A ++ x :: y :: R).set (i * 2) v = A ++ v :: y :: R := by
  rw [List.set_append_right _ _ (by omega), show i * 2 - A.length = 0 by omega]; rfl
theorem row_get0 {α : Type} {A R : List α} {x y : α} {i : Nat} (h : A.length = 2 * i) : (A ++ x :: y :: R)[i * 2]? = some x := by
  rw [List.getElem?_append_right (by omega), show i * 2 - A.length = 0 by omega]; rfl
theorem psC_dropc {ps : List Pr} {i : Nat} (h : i < ps.length) : psC (ps.drop i) = I ps[i].l :: .sl ps[i].r.length (ints ps[i].r) :: psC (ps.drop (i + 1)) := by
  rw [List.drop_eq_getElem_cons h]; rfl
theorem psC_app : ∀ a b : List Pr, psC (a ++ b) = psC a ++ psC b
  | [], _ => rfl
  | p :: a, b => by simp only [List.cons_append, psC, psC_app a b, List.append_assoc]

/-! ### Of its own, frozen -/
def fz (r : List Int) : AV := if r = [] then .e0 else .sl r.length (ints r)
def psZ : List Pr → List AV
  | [] => []
  | p :: l => I p.l :: fz p.r :: psZ l
theorem psZ_len : ∀ l : List Pr, (psZ l).length = 2 * l.length
  | [] => rfl
  | x :: l => by simp only [psZ, List.length_cons, psZ_len l]; omega
theorem psZ_app : ∀ a b : List Pr, psZ (a ++ b) = psZ a ++ psZ b
  | [], _ => rfl
  | p :: a, b => by simp only [List.cons_append, psZ, psZ_app a b]
theorem psZ_take {ps : List Pr} {i : Nat} (h : i < ps.length) : psZ (ps.take (i + 1)) = psZ (ps.take i) ++ [I ps[i].l, fz ps[i].r] := by
  rw [List.take_succ_eq_append_getElem h, psZ_app]; rfl
theorem fz_is (H : Heap) (r : List Int) : IS H r (fz r) := by
  unfold fz
  split
  · exact .e0 ‹_›
  · exact .sl
theorem psZ_sub : ∀ {l : List Pr} {i : Nat} (h : i < l.length), ((psZ l).drop (i * 2)).take 2 = [I l[i].l, fz l[i].r]
  | x :: l, 0, _ => rfl
  | x :: l, i + 1, h => by
    rw [show (i + 1) * 2 = i * 2 + 2 by omega]
    simp only [psZ, List.drop_succ_cons, List.getElem_cons_succ]
    exact psZ_sub (by simpa using h)
theorem PC_psZ (H : Heap) (ps : List Pr) : PC H ps (psZ ps) := ⟨psZ_len ps, fun i h => ⟨_, psZ_sub h, fz_is H _⟩⟩
theorem frz_fz (lim : Nat) (H : Heap) (d : Nat) (r : List Int) : frz lim H d (fz r) = some (fz r) := by
  unfold fz
  split
  · exact frz_e0 ..
  · exact frz_sl ..
theorem frz_psZ (lim : Nat) (H : Heap) (d : Nat) : ∀ l : List Pr, mapO (frz lim H d) (psZ l) = some (psZ l)
  | [] => rfl
  | x :: l => by simp only [psZ, mapO, frz_val, frz_fz, frz_psZ lim H d l]
theorem bel_psZ (lim : Nat) : ∀ l : List Pr, belowL lim (psZ l) = true
  | [] => rfl
  | x :: l => by
    have : Hm.below lim (fz x.r) = true := by
      unfold fz
      split
      · rfl
      · simp [Hm.below, bel_ints]
    simp only [psZ, belowL, Hm.below, this, bel_psZ lim l, Bool.and_self]
def fzP (ps : List Pr) : AV := if ps = [] then .e0 else .sl ps.length (psZ ps)
theorem fzP_ps (H : Heap) (ps : List Pr) : PS H ps (fzP ps) := by
  unfold fzP
  split
  · exact .e0 ‹_›
  · exact .sl _ (PC_psZ H ps)
theorem room8 {n : Nat} (h : n ≤ 1000000) : n * 8 ≤ room := by unfold room; omega
theorem room32 {n : Nat} (h : n ≤ 1000000) : n * 32 ≤ room := by unfold room; omega
theorem own43_code {lk lim : Nat} {H : Heap} (r : List Int) (hr : r.length ≤ 1000000) : callW X A lk lim 43 [.sl r.length (ints r)] H = some (fz r, H) := by
  refine wb_callB [] rfl A43 rfl rfl ?_
  unfold t43B fz
  by_cases h : r = []
  · subst h
    simp [srcCells, slCells, slN]
  · have hl : ¬ r.length = 0 := fun e => h (List.length_eq_zero_iff.1 e)
    simp [srcCells, slCells, slN, h, room8 hr]
theorem own42_code {lk lim : Nat} {H : Heap} (ps : List Pr) (hr : ps.length ≤ 1000000) : callW X A lk lim 42 [.sl ps.length (psC ps)] H = some (if ps = [] then (.e0, H) else (.hs H.length (2 * ps.length) 0 ps.length 2, H ++ [.cells (psC ps)])) := by
  refine wb_callB [] rfl A42 rfl rfl ?_
  unfold t42B
  have hll := psC_len ps
  by_cases h : ps = []
  · subst h
    simp [srcCells, slCells, slN, psC]
  · have hl : ¬ ps.length = 0 := fun e => h (List.length_eq_zero_iff.1 e)
    simp [srcCells, slCells, slN, h, room32 hr, hll, Nat.mul_comm]
def ownS (ps : List Pr) (i : Nat) : List AV := psZ (ps.take i) ++ psC (ps.drop i)
set_option maxRecDepth 20000 in
theorem own20_code {lk lim : Nat} {H : Heap} (g : Gm) (hr : g.ps.length ≤ 1000000) (hr2 : ∀ p ∈ g.ps, p.r.length ≤ 1000000) (hlk : lk ≤ H.length) : callW X A lk lim 20 [gV g] H = some (gW g (fzP g.ps), H) := by
  have k3 := fun (L : Nat) (H : Heap) (r : List Int) h => own43_code (lk := lk) (lim := L) (H := H) r h
  have k2 := fun (L : Nat) => own42_code (lk := lk) (lim := L) (H := H) g.ps hr
  refine wb_callB [1, 2] rfl A20 rfl rfl ?_
  unfold t20B
  obtain ⟨t, n, k, ps⟩ := g
  simp only at hr hr2 k2
  generalize callW X A = C at k2 k3 ⊢
  by_cases h0 : ps = []
  · subst h0
    rw [if_pos rfl] at k2
    simp only [psC, List.length_nil] at k2
    simp [-wi_stL, Gm.cells, psC, k2]
    rw [wi_stL]
    simp [replaceAt]
    refine wb_loop0 ?_
    unfold t20L1
    simp [fzP, replaceAt]
  rw [if_neg h0] at k2
  simp [-wi_stL, Gm.cells, k2]
  rw [wi_stL]
  simp [replaceAt]
  let sv : AV := .hs H.length (2 * ps.length) 0 ps.length 2
  let bx : AV := .box [I t, I n, I k, sv]
  let bz : AV := .box [I 0, I 0, I 0, .e0]
  refine wb_loop (σ := Nat) (fun i => [(1, bx), (2, bz), (3, I i)]) (fun i => H ++ [.cells (ownS ps i)])
    (fun i => i ≤ ps.length) (fun i => ps.length - i) ?_ 0 (by simp) (by simp [bx, bz, sv]) (by simp [ownS, psZ])
  intro i hi
  unfold t20L1
  have w1 : IntKind.i64.wrap ((i : Int) + 1) = (i : Int) + 1 := wrap64 (by omega) (by omega)
  by_cases hil : i < ps.length
  case neg =>
    obtain rfl : i = ps.length := by omega
    have e : ownS ps ps.length = psZ ps := by
      unfold ownS
      rw [List.take_of_length_le (Nat.le_refl _), List.drop_of_length_le (Nat.le_refl _)]
      simp [psC]
    rw [e]
    have f1 := frz_psZ H.length (H ++ [.cells (psZ ps)]) 6 ps
    have f2 := bel_psZ 0 ps
    have f3 : (psZ ps).length = 2 * ps.length := psZ_len ps
    have f4 : (psZ ps).take (2 * ps.length) = psZ ps := List.take_of_length_le (by omega)
    simp [-wi_stL, bx, bz, sv]
    rw [wi_stL]
    simp [replaceAt, fzP, h0, f1, f2, f3, f4, Nat.mul_comm ps.length 2]
  have hpr := psC_dropc hil
  have hzt := psZ_take hil
  have hzl : (psZ (ps.take i)).length = 2 * i := by rw [psZ_len, List.length_take]; omega
  have hrl := hr2 ps[i] (List.getElem_mem hil)
  have hol : (ownS ps i).length = 2 * ps.length := by
    unfold ownS
    rw [List.length_append, psZ_len, psC_len, List.length_take, List.length_drop]; omega
  have hg : (ownS ps i)[i * 2 + 1]? = some (.sl ps[i].r.length (ints ps[i].r)) := by
    unfold ownS
    rw [hpr]
    exact row_get hzl
  have hset : (ownS ps i).set (i * 2 + 1) (fz ps[i].r) = ownS ps (i + 1) := by
    unfold ownS
    rw [hpr, row_set hzl, hzt, List.append_assoc]
    rfl
  have done : ∀ (E : Env) (H' : Heap), E = [(1, bx), (2, bz), (3, I ((i : Int) + 1))] → H' = H ++ [.cells (ownS ps (i + 1))] → ∃ i' : Nat, i' ≤ ps.length ∧ ps.length - i' < ps.length - i ∧ E = [(1, bx), (2, bz), (3, I i')] ∧ H' = H ++ [.cells (ownS ps i')] := fun E H' h1 h2 => ⟨i + 1, by omega, by omega, by rw [h1]; simp, h2⟩
  have k3 := fun L H => k3 L H ps[i].r hrl
  generalize ps[i].r = r at hg hset k3
  generalize ownS ps (i + 1) = o' at hset done
  generalize ownS ps i = o at hol hg hset ⊢
  have hlt : i * 2 + 1 < o.length := by omega
  have hlt2 : i * 2 + 2 ≤ 2 * ps.length := by omega
  have hrp := fun v => replaceAt_one (cs := o) (k := i * 2 + 1) v hlt
  have hfz : fz r = .e0 ∨ fz r = .sl r.length (ints r) := by unfold fz; split; exact .inl rfl; exact .inr rfl
  rcases hfz with hfz | hfz
  · rw [hfz] at hset k3
    simp [bx, bz, sv, hil, hol, hg, k3, w1, setH, hlk, hrp, hset, hlt2]
    rw [rnd_nrm]
    refine done _ _ ?_ ?_
    · simp [bx, bz, sv]
    · rfl
  · rw [hfz] at hset k3
    simp [bx, bz, sv, hil, hol, hg, k3, w1, setH, hlk, hrp, hset, hlt2]
    rw [rnd_nrm]
    refine done _ _ ?_ ?_
    · simp [bx, bz, sv]
    · rfl

/-! ### A copy, in memory -/
def cpN (r : List Int) : Nat := if r = [] then 0 else 1
def cpV (b : Nat) (r : List Int) : AV := if r = [] then .e0 else .hs b r.length 0 r.length 1
def cpK (r : List Int) : Heap := if r = [] then [] else [.cells (ints r)]
def cpS (b : Nat) : List Pr → List AV
  | [] => []
  | p :: l => I p.l :: cpV b p.r :: cpS (b + cpN p.r) l
def cpB : List Pr → Heap
  | [] => []
  | p :: l => cpK p.r ++ cpB l
theorem cpK_len (r : List Int) : (cpK r).length = cpN r := by
  unfold cpK cpN
  split <;> rfl
theorem cpS_len : ∀ (b : Nat) (l : List Pr), (cpS b l).length = 2 * l.length
  | _, [] => rfl
  | b, x :: l => by simp only [cpS, List.length_cons, cpS_len _ l]; omega
theorem cpS_app : ∀ (b : Nat) (l m : List Pr), cpS b (l ++ m) = cpS b l ++ cpS (b + (cpB l).length) m
  | b, [], m => rfl
  | b, p :: l, m => by
    simp only [List.cons_append, cpS, cpB, cpS_app _ l m, List.length_append, cpK_len, Nat.add_assoc]
theorem cpB_app : ∀ (l m : List Pr), cpB (l ++ m) = cpB l ++ cpB m
  | [], m => rfl
  | p :: l, m => by simp only [List.cons_append, cpB, cpB_app l m, List.append_assoc]
theorem cpS_take {ps : List Pr} {i : Nat} (b : Nat) (h : i < ps.length) : cpS b (ps.take (i + 1)) = cpS b (ps.take i) ++ [I ps[i].l, cpV (b + (cpB (ps.take i)).length) ps[i].r] := by
  rw [List.take_succ_eq_append_getElem h, cpS_app]; rfl
theorem cpB_take {ps : List Pr} {i : Nat} (h : i < ps.length) : cpB (ps.take (i + 1)) = cpB (ps.take i) ++ cpK ps[i].r := by
  rw [List.take_succ_eq_append_getElem h, cpB_app]
  simp [cpB]
theorem PC_cp : ∀ (ps : List Pr) (H : Heap), PC (H ++ cpB ps) ps (cpS H.length ps)
  | [], H => ⟨rfl, fun i h => absurd h (by simp)⟩
  | p :: l, H => by
    have ih := PC_cp l (H ++ cpK p.r)
    rw [List.append_assoc, List.length_append, cpK_len] at ih
    refine ⟨cpS_len _ _, fun i h => ?_⟩
    cases i with
    | zero =>
      refine ⟨_, rfl, ?_⟩
      simp only [List.getElem_cons_zero, cpB]
      unfold cpV cpK
      by_cases h0 : p.r = []
      · rw [if_pos h0, if_pos h0]; exact .e0 h0
      · rw [if_neg h0, if_neg h0]
        exact .hs _ (by rw [get_at0]; rfl)
    | succ i =>
      obtain ⟨v, h1, h2⟩ := ih.row i (by simpa using h)
      refine ⟨v, ?_, h2⟩
      rw [show (i + 1) * 2 = i * 2 + 2 by omega]
      simp only [cpS, List.drop_succ_cons, List.getElem_cons_succ]
      exact h1
def copS (b : Nat) (ps : List Pr) (i : Nat) : List AV := cpS b (ps.take i) ++ psC (ps.drop i)
/-- A copy's value, and memory behind it. -/
def copV (H : Heap) (ps : List Pr) : AV := if ps = [] then .e0 else .hs H.length (2 * ps.length) 0 ps.length 2
def copH (H : Heap) (ps : List Pr) : Heap := if ps = [] then H else H ++ .cells (cpS (H.length + 1) ps) :: cpB ps
theorem cop_ps (H : Heap) (ps : List Pr) : PS (copH H ps) ps (copV H ps) := by
  unfold copH copV
  split
  · exact .e0 ‹_›
  · refine .hs _ (cpS (H.length + 1) ps) (by rw [get_at0]; rfl) ?_
    have := PC_cp ps (H ++ [.cells (cpS (H.length + 1) ps)])
    simpa using this
theorem clone45 {lk lim : Nat} {H : Heap} (r : List Int) (hr : r.length ≤ 1000000) : callW X A lk lim 45 [.sl r.length (ints r)] H = some (cpV H.length r, H ++ cpK r) := by
  refine callW_prim ?_
  show cloneX 1 8 [.sl r.length (ints r)] H = _
  unfold cpV cpK
  by_cases h : r = []
  · subst h
    simp [cloneX, slCells, slN, ints]
  · have hl : ¬ r.length = 0 := fun e => h (List.length_eq_zero_iff.1 e)
    simp [cloneX, slCells, slN, h, room8 hr]
theorem clone44 {lk lim : Nat} {H : Heap} (ps : List Pr) (hr : ps.length ≤ 1000000) : callW X A lk lim 44 [.sl ps.length (psC ps)] H = some (if ps = [] then (.e0, H) else (.hs H.length (2 * ps.length) 0 ps.length 2, H ++ [.cells (psC ps)])) := by
  refine callW_prim ?_
  show cloneX 2 32 [.sl ps.length (psC ps)] H = _
  have hll := psC_len ps
  by_cases h : ps = []
  · subst h
    simp [cloneX, slCells, slN, psC]
  · have hl : ¬ ps.length = 0 := fun e => h (List.length_eq_zero_iff.1 e)
    simp [cloneX, slCells, slN, h, room32 hr, hll, Nat.mul_comm ps.length 2]
set_option maxRecDepth 20000 in
theorem copy21_code {lk lim : Nat} {H : Heap} (g : Gm) (hr : g.ps.length ≤ 1000000) (hr2 : ∀ p ∈ g.ps, p.r.length ≤ 1000000) (hlk : lk ≤ H.length) (hlim : lim ≤ H.length) : callW X A lk lim 21 [gV g] H = some (gW g (copV H g.ps), copH H g.ps) := by
  have k3 := fun (L : Nat) (H : Heap) (r : List Int) h => clone45 (lk := lk) (lim := L) (H := H) r h
  have k2 := fun (L : Nat) => clone44 (lk := lk) (lim := L) (H := H) g.ps hr
  refine wb_callB [1, 2] rfl A21 rfl rfl ?_
  unfold t21B
  obtain ⟨t, n, k, ps⟩ := g
  simp only at hr hr2 k2
  generalize callW X A = C at k2 k3 ⊢
  by_cases h0 : ps = []
  · subst h0
    rw [if_pos rfl] at k2
    simp only [psC, List.length_nil] at k2
    simp [-wi_stL, Gm.cells, psC, k2]
    rw [wi_stL]
    simp [replaceAt]
    refine wb_loop0 ?_
    unfold t21L1
    simp [copV, copH, replaceAt]
  rw [if_neg h0] at k2
  simp [-wi_stL, Gm.cells, k2]
  rw [wi_stL]
  simp [replaceAt]
  let sv : AV := .hs H.length (2 * ps.length) 0 ps.length 2
  let bx : AV := .box [I t, I n, I k, sv]
  let bz : AV := .box [I 0, I 0, I 0, .e0]
  refine wb_loop (σ := Nat) (fun i => [(1, bx), (2, bz), (10, I ps.length), (11, I i)]) (fun i => H ++ .cells (copS (H.length + 1) ps i) :: cpB (ps.take i))
    (fun i => i ≤ ps.length) (fun i => ps.length - i) ?_ 0 (by simp) (by simp [bx, bz, sv]) (by simp [copS, cpS, cpB])
  intro i hi
  unfold t21L1
  have w1 : IntKind.i64.wrap ((i : Int) + 1) = (i : Int) + 1 := wrap64 (by omega) (by omega)
  by_cases hil : i < ps.length
  case neg =>
    obtain rfl : i = ps.length := by omega
    have e : copS (H.length + 1) ps ps.length = cpS (H.length + 1) ps := by
      unfold copS
      rw [List.take_of_length_le (Nat.le_refl _), List.drop_of_length_le (Nat.le_refl _)]
      simp [psC]
    rw [e, List.take_of_length_le (Nat.le_refl _)]
    simp [-wi_stL, bx, bz, sv]
    rw [wi_stL]
    simp [replaceAt, copV, copH, h0]
  have hpr := psC_dropc hil
  have hzt := cpS_take (H.length + 1) hil
  have hbt := cpB_take hil
  have hzl : (cpS (H.length + 1) (ps.take i)).length = 2 * i := by rw [cpS_len, List.length_take]; omega
  have hrl := hr2 ps[i] (List.getElem_mem hil)
  have hol : (copS (H.length + 1) ps i).length = 2 * ps.length := by
    unfold copS
    rw [List.length_append, cpS_len, psC_len, List.length_take, List.length_drop]; omega
  have hg : (copS (H.length + 1) ps i)[i * 2 + 1]? = some (.sl ps[i].r.length (ints ps[i].r)) := by
    unfold copS
    rw [hpr]
    exact row_get hzl
  have hset : (copS (H.length + 1) ps i).set (i * 2 + 1) (cpV (H.length + 1 + (cpB (ps.take i)).length) ps[i].r) = copS (H.length + 1) ps (i + 1) := by
    unfold copS
    rw [hpr, row_set hzl, hzt, List.append_assoc]
    rfl
  have done : ∀ (E : Env) (H' : Heap), E = [(1, bx), (2, bz), (10, I ps.length), (11, I ((i : Int) + 1))] → H' = H ++ .cells (copS (H.length + 1) ps (i + 1)) :: (cpB (ps.take i) ++ cpK ps[i].r) → ∃ i' : Nat, i' ≤ ps.length ∧ ps.length - i' < ps.length - i ∧ E = [(1, bx), (2, bz), (10, I ps.length), (11, I i')] ∧ H' = H ++ .cells (copS (H.length + 1) ps i') :: cpB (ps.take i') := fun E H' h1 h2 => ⟨i + 1, by omega, by omega, by rw [h1]; simp, by rw [h2, hbt]⟩
  have k3 := fun L H => k3 L H ps[i].r hrl
  have hbl : (H ++ .cells (copS (H.length + 1) ps i) :: cpB (ps.take i)).length = H.length + 1 + (cpB (ps.take i)).length := by simp; omega
  generalize ps[i].r = r at hg hset k3 done
  generalize cpB (ps.take i) = B at hset done hbl ⊢
  generalize copS (H.length + 1) ps (i + 1) = o' at hset done
  generalize copS (H.length + 1) ps i = o at hol hg hset hbl ⊢
  have hlt : i * 2 + 1 < o.length := by omega
  have hlt2 : i * 2 + 2 ≤ 2 * ps.length := by omega
  have hrp := fun v => replaceAt_one (cs := o) (k := i * 2 + 1) v hlt
  have k3 := fun L => k3 L (H ++ .cells o :: B)
  rw [hbl] at k3
  by_cases hr0 : r = []
  · have hv : cpV (H.length + 1 + B.length) r = .e0 := by unfold cpV; rw [if_pos hr0]
    have hk : cpK r = [] := by unfold cpK; rw [if_pos hr0]
    rw [hv] at hset k3
    rw [hk] at done k3
    simp only [List.append_nil] at done k3
    simp [bx, bz, sv, hil, hol, hg, k3, w1, setH, hlk, hlim, hrp, hset, hlt2, get_at0, set_at0]
    rw [rnd_nrm]
    refine done _ _ ?_ ?_
    · simp [bx, bz, sv]
    · rfl
  · have hv : cpV (H.length + 1 + B.length) r = .hs (H.length + 1 + B.length) r.length 0 r.length 1 := by unfold cpV; rw [if_neg hr0]
    rw [hv] at hset k3
    rw [List.append_assoc, List.cons_append] at k3
    generalize cpK r = K at done k3
    simp [bx, bz, sv, hil, hol, hg, k3, w1, setH, hlk, hlim, hrp, hset, hlt2, get_at0, set_at0]
    rw [rnd_nrm]
    refine done _ _ ?_ ?_
    · simp [bx, bz, sv]
    · rfl
end Go.Proofs.Ytikedgpcgacgoaa
