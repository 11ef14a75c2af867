import Derived.Test.YtikedgpcgacgoaaA
set_option linter.unusedSimpArgs false
set_option linter.unusedVariables false
namespace Go.Proofs.Ytikedgpcgacgoaa
open Go Go.Hm

/-! ### The first that holds -/
def idxF {α : Type} (P : α → Bool) : List α → Int → Int
  | [], _ => -1
  | x :: l, i => if P x = true then i else idxF P l (i + 1)
theorem idxF_any {α : Type} (P : α → Bool) : ∀ (l : List α) (i : Int), 0 ≤ i → (decide (0 ≤ idxF P l i) = l.any P)
  | [], i, h => by simp [idxF]
  | x :: l, i, h => by
    have ih := idxF_any P l (i + 1) (by omega)
    simp only [idxF, List.any_cons]
    by_cases hp : P x = true
    · simp [hp, h]
    · simp only [hp, if_false, Bool.false_eq_true]
      rw [ih]; simp [hp]
theorem aok_val (v : Value) : argOk (.val v) = true := rfl
theorem aok_agg (c : List AV) : argOk (.agg c) = true := rfl
theorem aok_hp (b g o : Nat) : argOk (.hp b g o) = true := rfl
set_option maxRecDepth 20000 in
theorem idx51_code {lk lim : Nat} {H : Heap} {f : FuncId} {cap : List AV} (l : List Int) (P : Int → Bool) (hl : l.length ≤ 1000000) (hc : cap.all argOk = true) (hP : ∀ x ∈ l, callW X A lk H.length f (I x :: cap) H = some (Bo (P x), H)) :
    callW X A lk lim 51 [.sl l.length (ints l), .fn f cap] H = some (I (idxF P l 0), H) := by
  refine wb_callB [] rfl A51 rfl rfl ?_
  unfold t51B
  simp
  refine wb_loop (σ := Nat) (fun i => [(0, .sl l.length (ints l)), (1, .fn f cap), (7, I l.length), (8, I i)]) (fun _ => H)
    (fun i => i ≤ l.length ∧ idxF P (l.drop i) i = idxF P l 0) (fun i => l.length - i) ?_ 0 (by simp) (by simp) rfl
  rintro i ⟨hi, hinv⟩
  unfold t51L1
  have w : IntKind.i64.wrap ((i : Int) + 1) = (i : Int) + 1 := wrap64 (by omega) (by omega)
  by_cases hil : i < l.length
  · obtain ⟨x, hx⟩ : ∃ x, l[i] = x := ⟨_, rfl⟩
    have hp := hP x (hx ▸ List.getElem_mem hil)
    rw [List.drop_eq_getElem_cons hil, hx] at hinv
    simp only [idxF] at hinv
    cases hpx : P x with
    | true =>
      rw [hpx] at hp hinv
      rw [if_pos rfl] at hinv
      rw [← hinv]
      generalize callW X A = C at hp ⊢
      simp [-argOk, aok_val, hil, hx, hp, hc]
    | false =>
      rw [hpx] at hp hinv
      rw [if_neg (by simp)] at hinv
      generalize callW X A = C at hp ⊢
      simp [-argOk, aok_val, hil, hx, hp, hc, w, rnd_nrm]
      exact ⟨i + 1, ⟨by omega, hinv⟩, by omega, by simp⟩
  · obtain rfl : i = l.length := by omega
    rw [List.drop_length] at hinv
    simp only [idxF] at hinv
    rw [← hinv]
    simp
theorem has35_code {lk lim : Nat} {H : Heap} {f : FuncId} {cap : List AV} (l : List Int) (P : Int → Bool) (hl : l.length ≤ 1000000) (hc : cap.all argOk = true) (hP : ∀ x ∈ l, callW X A lk H.length f (I x :: cap) H = some (Bo (P x), H)) :
    callW X A lk lim 35 [.sl l.length (ints l), .fn f cap] H = some (Bo (l.any P), H) := by
  have k := idx51_code (lim := H.length) l P hl hc hP
  have ha := idxF_any P l 0 (Int.le_refl _)
  refine wb_callB [] rfl A35 rfl rfl ?_
  unfold t35B
  generalize callW X A = C at k ⊢
  simp [k, ha]
set_option maxRecDepth 20000 in
theorem idx50_code {lk lim : Nat} {H : Heap} {f : FuncId} {cap : List AV} (l : List Pr) (P : Pr → Bool) (hl : l.length ≤ 1000000) (hc : cap.all argOk = true) (hP : ∀ x ∈ l, callW X A lk H.length f (.agg x.cells :: cap) H = some (Bo (P x), H)) :
    callW X A lk lim 50 [.sl l.length (psC l), .fn f cap] H = some (I (idxF P l 0), H) := by
  refine wb_callB [] rfl A50 rfl rfl ?_
  unfold t50B
  simp
  refine wb_loop (σ := Nat) (fun i => [(0, .sl l.length (psC l)), (1, .fn f cap), (7, I l.length), (8, I i)]) (fun _ => H)
    (fun i => i ≤ l.length ∧ idxF P (l.drop i) i = idxF P l 0) (fun i => l.length - i) ?_ 0 (by simp) (by simp) rfl
  rintro i ⟨hi, hinv⟩
  unfold t50L1
  have w : IntKind.i64.wrap ((i : Int) + 1) = (i : Int) + 1 := wrap64 (by omega) (by omega)
  by_cases hil : i < l.length
  · obtain ⟨x, hx⟩ : ∃ x, l[i] = x := ⟨_, rfl⟩
    have hp := hP x (hx ▸ List.getElem_mem hil)
    have hs := psC_sub hil
    have hll := psC_len l
    have h2 : i * 2 + 2 ≤ 2 * l.length := by omega
    rw [hx] at hs
    rw [List.drop_eq_getElem_cons hil, hx] at hinv
    simp only [idxF] at hinv
    cases hpx : P x with
    | true =>
      rw [hpx] at hp hinv
      rw [if_pos rfl] at hinv
      rw [← hinv]
      generalize callW X A = C at hp ⊢
      simp [-argOk, aok_val, aok_agg, hil, hs, hll, h2, hp, hc]
    | false =>
      rw [hpx] at hp hinv
      rw [if_neg (by simp)] at hinv
      generalize callW X A = C at hp ⊢
      simp [-argOk, aok_val, aok_agg, hil, hs, hll, h2, hp, hc, w, rnd_nrm]
      exact ⟨i + 1, ⟨by omega, hinv⟩, by omega, by simp⟩
  · obtain rfl : i = l.length := by omega
    rw [List.drop_length] at hinv
    simp only [idxF] at hinv
    rw [← hinv]
    simp
theorem has33_code {lk lim : Nat} {H : Heap} {f : FuncId} {cap : List AV} (l : List Pr) (P : Pr → Bool) (hl : l.length ≤ 1000000) (hc : cap.all argOk = true) (hP : ∀ x ∈ l, callW X A lk H.length f (.agg x.cells :: cap) H = some (Bo (P x), H)) :
    callW X A lk lim 33 [.sl l.length (psC l), .fn f cap] H = some (Bo (l.any P), H) := by
  have k := idx50_code (lim := H.length) l P hl hc hP
  have ha := idxF_any P l 0 (Int.le_refl _)
  refine wb_callB [] rfl A33 rfl rfl ?_
  unfold t33B
  generalize callW X A = C at k ⊢
  simp [k, ha]
end Go.Proofs.Ytikedgpcgacgoaa
