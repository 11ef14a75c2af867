import Derived.Test.YtpaocofhpdmjpaaX
set_option linter.unusedSimpArgs false
set_option linter.unusedVariables false
namespace Go.Proofs.Ytpaocofhpdmjpaa
open Go Go.Hm

/-! ### A copy of a grammar -/
theorem row_set {α : Type} {A R : List α} {x y v : α} {i : Nat} (h : A.length = 2 * i) : (A ++ x :: y :: R).set (i * 2 + 1) v = A ++ x :: v :: R := by
  rw [List.set_append_right _ _ (by omega), show i * 2 + 1 - A.length = 1 by omega]; rfl
theorem row_get {α : Type} {A R : List α} {x y : α} {i : Nat} (h : A.length = 2 * i) : (A ++ x :: y :: R)[i * 2 + 1]? = some y := by
  rw [List.getElem?_append_right (by omega), show i * 2 + 1 - A.length = 1 by omega]; rfl
theorem row_set0 {α : Type} {A R : List α} {x y v : α} {i : Nat} (h : A.length = 2 * i) : (A ++ x :: y :: R).set (i * 2) v = A ++ v :: y :: R := by
  rw [List.set_append_right _ _ (by omega), show i * 2 - A.length = 0 by omega]; rfl
theorem row_get0 {α : Type} {A R : List α} {x y : α} {i : Nat} (h : A.length = 2 * i) : (A ++ x :: y :: R)[i * 2]? = some x := by
  rw [List.getElem?_append_right (by omega), show i * 2 - A.length = 0 by omega]; rfl
theorem psC_dropc {ps : List Pr} {i : Nat} (h : i < ps.length) : psC (ps.drop i) = I ps[i].l :: .sl ps[i].r.length (ints ps[i].r) :: psC (ps.drop (i + 1)) := by
  rw [List.drop_eq_getElem_cons h]; rfl
theorem psC_app : ∀ a b : List Pr, psC (a ++ b) = psC a ++ psC b
  | [], _ => rfl
  | p :: a, b => by simp only [List.cons_append, psC, psC_app a b, List.append_assoc]

/-! ### Of its own, frozen -/
def fz (r : List Int) : AV := if r = [] then .e0 else .sl r.length (ints r)
def psZ : List Pr → List AV
  | [] => []
  | p :: l => I p.l :: fz p.r :: psZ l
theorem psZ_len : ∀ l : List Pr, (psZ l).length = 2 * l.length
  | [] => rfl
  | x :: l => by simp only [psZ, List.length_cons, psZ_len l]; omega
theorem psZ_app : ∀ a b : List Pr, psZ (a ++ b) = psZ a ++ psZ b
  | [], _ => rfl
  | p :: a, b => by simp only [List.cons_append, psZ, psZ_app a b]
theorem psZ_take {ps : List Pr} {i : Nat} (h : i < ps.length) : psZ (ps.take (i + 1)) = psZ (ps.take i) ++ [I ps[i].l, fz ps[i].r] := by
  rw [List.take_succ_eq_append_getElem h, psZ_app]; rfl
theorem psZ_sub : ∀ {l : List Pr} {i : Nat} (h : i < l.length), ((psZ l).drop (i * 2)).take 2 = [I l[i].l, fz l[i].r]
  | x :: l, 0, _ => rfl
  | x :: l, i + 1, h => by
    rw [show (i + 1) * 2 = i * 2 + 2 by omega]
    simp only [psZ, List.drop_succ_cons, List.getElem_cons_succ]
    exact psZ_sub (by simpa using h)
theorem frz_fz (lim : Nat) (H : Heap) (d : Nat) (r : List Int) : frz lim H d (fz r) = some (fz r) := by
  unfold fz
  split
  · exact frz_e0 ..
  · exact frz_sl ..
theorem frz_psZ (lim : Nat) (H : Heap) (d : Nat) : ∀ l : List Pr, mapO (frz lim H d) (psZ l) = some (psZ l)
  | [] => rfl
  | x :: l => by simp only [psZ, mapO, frz_val, frz_fz, frz_psZ lim H d l]
theorem bel_psZ (lim : Nat) : ∀ l : List Pr, belowL lim (psZ l) = true
  | [] => rfl
  | x :: l => by
    have : Hm.below lim (fz x.r) = true := by
      unfold fz
      split
      · rfl
      · simp [Hm.below, bel_ints]
    simp only [psZ, belowL, Hm.below, this, bel_psZ lim l, Bool.and_self]

theorem own47_code {lk lim : Nat} {H : Heap} (r : List Int) (hr : r.length * 8 ≤ room) : callW X A lk lim 47 [.sl r.length (ints r)] H = some (fz r, H) := by
  refine wb_callB [] rfl A47 rfl rfl ?_
  unfold t47B fz
  by_cases h : r = []
  · subst h
    simp [srcCells, slCells, slN]
  · have hl : ¬ r.length = 0 := fun e => h (List.length_eq_zero_iff.1 e)
    simp [srcCells, slCells, slN, h, hr]
theorem own46_code {lk lim : Nat} {H : Heap} (ps : List Pr) (hr : ps.length * 32 ≤ room) : callW X A lk lim 46 [.sl ps.length (psC ps)] H = some (if ps = [] then (.e0, H) else (.hs H.length (2 * ps.length) 0 ps.length 2, H ++ [.cells (psC ps)])) := by
  refine wb_callB [] rfl A46 rfl rfl ?_
  unfold t46B
  have hll := psC_len ps
  by_cases h : ps = []
  · subst h
    simp [srcCells, slCells, slN, psC]
  · have hl : ¬ ps.length = 0 := fun e => h (List.length_eq_zero_iff.1 e)
    simp [srcCells, slCells, slN, h, hr, hll, Nat.mul_comm]
def ownS (ps : List Pr) (i : Nat) : List AV := psZ (ps.take i) ++ psC (ps.drop i)
def ownV (B : Nat) (ps : List Pr) : AV := if ps = [] then .e0 else .hs B (2 * ps.length) 0 ps.length 2
def ownG (ps : List Pr) : Heap := if ps = [] then [] else [.cells (psZ ps)]
set_option maxRecDepth 20000 in
theorem own20_code {lk lim : Nat} {H : Heap} (g : Gm) (hr : g.ps.length * 32 ≤ room) (hr2 : ∀ p ∈ g.ps, p.r.length * 8 ≤ room) (hlk : lk ≤ H.length) : callW X A lk lim 20 [gV g] H = some (.agg [I g.t, I g.n, I g.k, ownV H.length g.ps], H ++ ownG g.ps) := by
  have k3 := fun (K L : Nat) (H : Heap) (r : List Int) h => own47_code (lk := K) (lim := L) (H := H) r h
  have k2 := fun (L : Nat) => own46_code (lk := lk) (lim := L) (H := H) g.ps hr
  refine wb_callB [1, 2] rfl A20 rfl rfl ?_
  unfold t20B
  obtain ⟨t, n, k, ps⟩ := g
  simp only at hr hr2 k2
  have hbig : ps.length ≤ 5000000000000 := by unfold room at hr; omega
  generalize callW X A = C at k2 k3 ⊢
  by_cases h0 : ps = []
  · subst h0
    rw [if_pos rfl] at k2
    simp only [psC, List.length_nil] at k2
    simp [-wi_stL, Gm.cells, psC, k2]
    rw [wi_stL]
    simp [replaceAt]
    refine wb_loop0 ?_
    unfold t20L1
    simp [ownV, ownG, replaceAt]
  rw [if_neg h0] at k2
  simp [-wi_stL, Gm.cells, k2]
  rw [wi_stL]
  simp [replaceAt]
  let sv : AV := .hs H.length (2 * ps.length) 0 ps.length 2
  let bx : AV := .box [I t, I n, I k, sv]
  let bz : AV := .box [I 0, I 0, I 0, .e0]
  refine wb_loop (σ := Nat) (fun i => [(1, bx), (2, bz), (3, I i)]) (fun i => H ++ [.cells (ownS ps i)])
    (fun i => i ≤ ps.length) (fun i => ps.length - i) ?_ 0 (by simp) (by simp [bx, bz, sv]) (by simp [ownS, psZ])
  intro i hi
  unfold t20L1
  have w1 : IntKind.i64.wrap ((i : Int) + 1) = (i : Int) + 1 := wrap64 (by omega) (by omega)
  by_cases hil : i < ps.length
  case neg =>
    obtain rfl : i = ps.length := by omega
    have e : ownS ps ps.length = psZ ps := by
      unfold ownS
      rw [List.take_of_length_le (Nat.le_refl _), List.drop_of_length_le (Nat.le_refl _)]
      simp [psC]
    rw [e]
    simp [-wi_stL, bx, bz, sv]
    rw [wi_stL]
    simp [replaceAt, ownV, ownG, h0]
  have hpr := psC_dropc hil
  have hzt := psZ_take hil
  have hzl : (psZ (ps.take i)).length = 2 * i := by rw [psZ_len, List.length_take]; omega
  have hrl := hr2 ps[i] (List.getElem_mem hil)
  have hol : (ownS ps i).length = 2 * ps.length := by
    unfold ownS
    rw [List.length_append, psZ_len, psC_len, List.length_take, List.length_drop]; omega
  have hg : (ownS ps i)[i * 2 + 1]? = some (.sl ps[i].r.length (ints ps[i].r)) := by
    unfold ownS
    rw [hpr]
    exact row_get hzl
  have hset : (ownS ps i).set (i * 2 + 1) (fz ps[i].r) = ownS ps (i + 1) := by
    unfold ownS
    rw [hpr, row_set hzl, hzt, List.append_assoc]
    rfl
  have done : ∀ (E : Env) (H' : Heap), E = [(1, bx), (2, bz), (3, I ((i : Int) + 1))] → H' = H ++ [.cells (ownS ps (i + 1))] → ∃ i' : Nat, i' ≤ ps.length ∧ ps.length - i' < ps.length - i ∧ E = [(1, bx), (2, bz), (3, I i')] ∧ H' = H ++ [.cells (ownS ps i')] := fun E H' h1 h2 => ⟨i + 1, by omega, by omega, by rw [h1]; simp, h2⟩
  have k3 := fun K L H => k3 K L H ps[i].r hrl
  generalize ps[i].r = r at hg hset k3
  generalize ownS ps (i + 1) = o' at hset done
  generalize ownS ps i = o at hol hg hset ⊢
  have hlt : i * 2 + 1 < o.length := by omega
  have hlt2 : i * 2 + 2 ≤ 2 * ps.length := by omega
  have hrp := fun v => replaceAt_one (cs := o) (k := i * 2 + 1) v hlt
  have hfz : fz r = .e0 ∨ fz r = .sl r.length (ints r) := by unfold fz; split; exact .inl rfl; exact .inr rfl
  rcases hfz with hfz | hfz
  · rw [hfz] at hset k3
    simp [bx, bz, sv, hil, hol, hg, k3, w1, setH, hlk, hrp, hset, hlt2]
    rw [rnd_nrm]
    refine done _ _ ?_ ?_
    · simp [bx, bz, sv]
    · rfl
  · rw [hfz] at hset k3
    simp [bx, bz, sv, hil, hol, hg, k3, w1, setH, hlk, hrp, hset, hlt2]
    rw [rnd_nrm]
    refine done _ _ ?_ ?_
    · simp [bx, bz, sv]
    · rfl

end Go.Proofs.Ytpaocofhpdmjpaa
