import Derived.Test.YtmehaecclidfjaaH
set_option linter.unusedSimpArgs false
set_option linter.unusedVariables false
namespace Go.Proofs.Ytmehaecclidfjaa
open Go Go.Hm

/-! ### Acts -/
structure Ac where
  k : Int
  a : Int
  d : Int
  s : List UInt8
def Ac.cells (x : Ac) : List AV := [I x.k, I x.a, I x.d, Sg x.s]
def acC : List Ac → List AV
  | [] => []
  | x :: l => x.cells ++ acC l
theorem acC_len : ∀ l : List Ac, (acC l).length = 4 * l.length
  | [] => rfl
  | x :: l => by simp only [acC, Ac.cells, List.length_append, List.length_cons, List.length_nil, acC_len l]; omega
theorem acC_app : ∀ l m : List Ac, acC (l ++ m) = acC l ++ acC m
  | [], m => rfl
  | x :: l, m => by simp only [List.cons_append, acC, acC_app l m, List.append_assoc]
theorem acC_drop : ∀ (l : List Ac) (n : Nat), (acC l).drop (n * 4) = acC (l.drop n)
  | [], n => by simp [acC]
  | x :: l, 0 => by simp
  | x :: l, n + 1 => by
    rw [show (n + 1) * 4 = 4 + n * 4 by omega, ← List.drop_drop]
    simp only [acC, Ac.cells, List.drop_succ_cons, List.cons_append, List.nil_append, List.drop_zero]
    exact acC_drop l n
theorem acC_get {l : List Ac} {i : Nat} (h : i < l.length) (j : Nat) (hj : j < 4) : (acC l)[i * 4 + j]? = l[i].cells[j]? := by
  have : ((acC l).drop (i * 4)).take 4 = l[i].cells := by
    rw [acC_drop, List.drop_eq_getElem_cons h]
    simp [acC, Ac.cells]
  rw [← this, List.getElem?_take, if_pos hj, List.getElem?_drop]
theorem acC_1 {l : List Ac} {i : Nat} (h : i < l.length) : (acC l)[i * 4 + 1]? = some (I l[i].a) := acC_get h 1 (by omega)
theorem acC_2 {l : List Ac} {i : Nat} (h : i < l.length) : (acC l)[i * 4 + 2]? = some (I l[i].d) := acC_get h 2 (by omega)
theorem acC_3 {l : List Ac} {i : Nat} (h : i < l.length) : (acC l)[i * 4 + 3]? = some (Sg l[i].s) := acC_get h 3 (by omega)
def lightB (s : List UInt8) (l : List Ac) : Bool := l.all (fun x => decide (x.s.length ≤ 60)) && (decide (s.length ≤ 300) && decide (l.length ≤ 60))
set_option maxRecDepth 20000 in
theorem light_code {lk lim : Nat} {H : Heap} (s : List UInt8) (l : List Ac) (hl : l.length ≤ 1000000000000000) : callW X A lk lim 9 [Sg s, .sl l.length (acC l)] H = some (Bo (lightB s l), H) := by
  refine wb_callB [] rfl A9 rfl rfl ?_
  unfold t9B
  generalize callW X A = C
  simp
  refine wb_loop (σ := Nat) (fun i => [(0, Sg s), (1, .sl l.length (acC l)), (5, I i)]) (fun _ => H) (fun i => i ≤ l.length ∧ lightB s l = ((l.drop i).all (fun x => decide (x.s.length ≤ 60)) && (decide (s.length ≤ 300) && decide (l.length ≤ 60)))) (fun i => l.length - i) ?_ 0 ⟨by omega, by simp [lightB]⟩ (by simp [restrict, find]) rfl
  rintro i ⟨hi, hinv⟩
  unfold t9L1
  by_cases hil : i < l.length
  · have hd := List.drop_eq_getElem_cons hil
    have w1 : IntKind.i64.wrap ((i : Int) + 1) = (i : Int) + 1 := wrap64 (by omega) (by omega)
    have g3 := acC_3 hil
    have i4 : i * 4 + 4 ≤ 4 * l.length := by omega
    rw [hd, List.all_cons] at hinv
    generalize l[i] = x at g3 hinv
    by_cases hx : (60 : Int) < x.s.length
    · have : decide (x.s.length ≤ 60) = false := decide_eq_false (by omega)
      rw [this, Bool.false_and, Bool.false_and] at hinv
      simp [hil, acC_len, i4, g3, Sg_size, hx, hinv]
    · have : decide (x.s.length ≤ 60) = true := decide_eq_true (by omega)
      rw [this, Bool.true_and] at hinv
      simp [hil, acC_len, i4, g3, Sg_size, hx, w1, rnd_nrm]
      exact ⟨i + 1, ⟨by omega, hinv⟩, by omega, by simp⟩
  · have : l.length ≤ i := by omega
    rw [List.drop_eq_nil_of_le this] at hinv
    simp only [List.all_nil, Bool.true_and] at hinv
    rw [hinv]
    by_cases h3 : s.length ≤ 300
    · have h3' : ((s.length : Int) ≤ 300) := by omega
      have h4 : decide ((l.length : Int) ≤ 60) = decide (l.length ≤ 60) := decide_eq_decide.2 (by omega)
      simp [hil, Sg_size, h3, h3', h4]
    · have h3' : ¬ ((s.length : Int) ≤ 300) := by omega
      simp [hil, Sg_size, h3, h3']
theorem pick_code {lk lim : Nat} {H : Heap} (n : Int) (m : Nat) (hm : m ≤ 1000000) (hn : -9223372036854775808 ≤ n ∧ n ≤ 9223372036854775807) : callW X A lk lim 16 [I n, I m] H = some (I (if m < 1 then 0 else n % m), H) := by
  refine wb_callB [] rfl A16 rfl rfl ?_
  unfold t16B
  by_cases h : m < 1
  · have h' : (m : Int) < 1 := by omega
    simp [h, h']
  have h' : ¬ (m : Int) < 1 := by omega
  have h0 : ¬ ((m : Int) = 0) := by omega
  have h00 : ¬ m = 0 := by omega
  have hnn := Int.emod_nonneg n (by omega : (m : Int) ≠ 0)
  have hmod := Int.emod_emod_of_dvd n (Int.dvd_refl m)
  by_cases hr : n.tmod m < 0
  · have e : n % m = n.tmod m + m := by
      have := Int.tmod_eq_emod (a := n) (b := m)
      split at this <;> omega
    have hlt := Int.lt_tmod_of_pos n (by omega : (0 : Int) < m)
    have w : IntKind.i64.wrap (n.tmod m + m) = n.tmod m + m := wrap64 (by omega) (by omega)
    simp [h, h', h00, hr, w, e]
  · have e : n % m = n.tmod m := by
      have := Int.tmod_eq_emod (a := n) (b := m)
      have h2 := Int.emod_lt_of_pos n (by omega : (0 : Int) < m)
      split at this <;> omega
    simp [h, h', h00, hr, e]
theorem frz_acC (lim : Nat) (H : Heap) (d : Nat) : ∀ l : List Ac, mapO (frz lim H d) (acC l) = some (acC l)
  | [] => rfl
  | x :: l => by simp only [acC, Ac.cells, List.cons_append, List.nil_append, mapO, frz_val, frz_acC lim H d l]
theorem bel_acC (lim : Nat) : ∀ l : List Ac, belowL lim (acC l) = true
  | [] => rfl
  | x :: l => by simp only [acC, Ac.cells, List.cons_append, List.nil_append, belowL, Hm.below, bel_acC lim l, Bool.and_self]
set_option maxRecDepth 20000 in
theorem own_code {lk lim : Nat} {H : Heap} (l : List Ac) (hr : l.length * 40 ≤ room) : callW X A lk lim 10 [.sl l.length (acC l)] H = some (if l = [] then (.e0, H) else (.hs H.length (l.length * 4) 0 l.length 4, H ++ [.cells (acC l)])) := by
  refine wb_callB [] rfl A10 rfl rfl ?_
  unfold t10B
  generalize callW X A = C
  by_cases h : l = []
  · subst h
    simp [srcCells, acC]
  · have h0 : ¬ l.length = 0 := fun e => h (List.length_eq_zero_iff.1 e)
    simp [-wi_app, h]
    rw [wi_app]
    simp [srcCells, acC_len, h0, hr, (by omega : 4 * l.length = l.length * 4)]
end Go.Proofs.Ytmehaecclidfjaa
