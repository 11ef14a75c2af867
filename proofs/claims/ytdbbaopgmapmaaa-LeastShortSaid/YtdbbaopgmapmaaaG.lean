import Derived.Test.YtdbbaopgmapmaaaE
set_option linter.unusedSimpArgs false
set_option linter.unusedVariables false
namespace Go.Proofs.Ytdbbaopgmapmaaa
open Go Go.Hm

/-! ### Going on till nothing changes -/
def cntF : List Bool → Nat
  | [] => 0
  | b :: l => (if b = true then 0 else 1) + cntF l
theorem cntF_set : ∀ (o : List Bool) (i : Nat) (h : i < o.length), o[i] = false → cntF (o.set i true) + 1 = cntF o
  | [], i, h, _ => by simp at h
  | b :: o, 0, h, hb => by
    have hb : b = false := hb
    subst hb
    simp only [List.set_cons_zero, cntF]
    simp; omega
  | b :: o, i + 1, h, hb => by
    have ih := cntF_set o i (by simpa using h) (by simpa using hb)
    simp only [List.set_cons_succ, cntF]
    omega
def fixL (f : List Bool → List Bool) : Nat → List Bool → List Bool
  | 0, o => o
  | m + 1, o => if f o = o then o else fixL f m (f o)
/-- It only gets more. -/
def Grows (f : List Bool → List Bool) : Prop := ∀ o, f o = o ∨ cntF (f o) < cntF o
theorem fixL_more {f : List Bool → List Bool} (hf : Grows f) : ∀ (m : Nat) (o : List Bool), cntF o < m → fixL f m o = fixL f (cntF o + 1) o
  | 0, o, h => by omega
  | m + 1, o, h => by
    simp only [fixL]
    by_cases he : f o = o
    · rw [if_pos he, if_pos he]
    · rw [if_neg he, if_neg he]
      rcases hf o with h1 | h1
      · exact absurd h1 he
      · rw [fixL_more hf m (f o) (by omega)]
        by_cases h2 : cntF o = cntF (f o) + 1
        · rw [h2]
        · rw [fixL_more hf (cntF o) (f o) (by omega)]
def fin (f : List Bool → List Bool) (o : List Bool) : List Bool := fixL f (cntF o + 1) o
theorem fin_step {f : List Bool → List Bool} (hf : Grows f) (o : List Bool) : fin f o = if f o = o then o else fin f (f o) := by
  unfold fin
  rw [fixL]
  by_cases he : f o = o
  · rw [if_pos he, if_pos he]
  · rw [if_neg he, if_neg he]
    rcases hf o with h1 | h1
    · exact absurd h1 he
    · exact fixL_more hf _ _ h1
theorem fin_fix {f : List Bool → List Bool} (hf : Grows f) : ∀ (m : Nat) (o : List Bool), cntF o ≤ m → f (fin f o) = fin f o
  | m, o, h => by
    rw [fin_step hf]
    by_cases he : f o = o
    · rw [if_pos he]; exact he
    · rw [if_neg he]
      rcases hf o with h1 | h1
      · exact absurd h1 he
      · cases m with
        | zero => omega
        | succ m => exact fin_fix hf m (f o) (by omega)
/-- What holds at the beginning and is kept holds in the end. -/
theorem fin_ind {f : List Bool → List Bool} (hf : Grows f) (Q : List Bool → Prop) (hq : ∀ o, Q o → Q (f o)) : ∀ (m : Nat) (o : List Bool), cntF o ≤ m → Q o → Q (fin f o)
  | m, o, h, h0 => by
    rw [fin_step hf]
    by_cases he : f o = o
    · rw [if_pos he]; exact h0
    · rw [if_neg he]
      rcases hf o with h1 | h1
      · exact absurd h1 he
      · cases m with
        | zero => omega
        | succ m => exact fin_ind hf Q hq m (f o) (by omega) (hq o h0)
/-- A round, production by production. -/
def rnd {α : Type} (st : List Bool → α → List Bool) (ps : List α) (o : List Bool) : List Bool := ps.foldl st o
theorem rnd_grows {α : Type} {st : List Bool → α → List Bool} (hs : ∀ p, Grows fun o => st o p) : ∀ ps : List α, Grows (rnd st ps)
  | [], o => .inl rfl
  | p :: ps, o => by
    have h1 := rnd_grows hs ps (st o p)
    have h2 : st o p = o ∨ cntF (st o p) < cntF o := hs p o
    simp only [rnd, List.foldl_cons] at h1 ⊢
    rcases h1 with h1 | h1 <;> rcases h2 with h2 | h2
    · rw [h1]; exact .inl h2
    · rw [h1]; exact .inr h2
    · rw [h2] at h1 ⊢; exact .inr h1
    · exact .inr (by omega)
theorem rnd_le {α : Type} {st : List Bool → α → List Bool} (hs : ∀ p, Grows fun o => st o p) (ps : List α) (o : List Bool) : cntF (rnd st ps o) ≤ cntF o := by
  rcases rnd_grows hs ps o with h | h
  · rw [h]; exact Nat.le_refl _
  · omega
/-- A fixed round is one of each. -/
theorem rnd_fixed {α : Type} {st : List Bool → α → List Bool} (hs : ∀ p, Grows fun o => st o p) : ∀ (ps : List α) (o : List Bool), rnd st ps o = o → ∀ p ∈ ps, st o p = o
  | [], _, _, p, hp => by simp at hp
  | q :: ps, o, h, p, hp => by
    simp only [rnd, List.foldl_cons] at h
    have h1 : st o q = o := by
      rcases hs q o with h2 | h2
      · exact h2
      · have h3 := rnd_le hs ps (st o q)
        simp only [rnd] at h3
        rw [h] at h3
        have h2 : cntF (st o q) < cntF o := h2
        omega
    rcases List.mem_cons.1 hp with rfl | hp
    · exact h1
    · rw [h1] at h
      exact rnd_fixed hs ps o h p hp

theorem set_grows (o : List Bool) (i : Nat) (h : ¬ o.getD i false = true) : o.set i true = o ∨ cntF (o.set i true) < cntF o := by
  by_cases hi : i < o.length
  · right
    have : o[i] = false := by
      rw [List.getD_eq_getElem?_getD, List.getElem?_eq_getElem hi] at h
      simpa using h
    have := cntF_set o i hi this
    omega
  · left
    exact List.set_eq_of_length_le (by omega)
theorem rnd_take {α : Type} (st : List Bool → α → List Bool) (ps : List α) (o : List Bool) (i : Nat) (h : i < ps.length) : rnd st (ps.take (i + 1)) o = st (rnd st (ps.take i) o) ps[i] := by
  rw [List.take_succ_eq_append_getElem h]
  simp only [rnd, List.foldl_append, List.foldl_cons, List.foldl_nil]
theorem rnd_ind {α : Type} {st : List Bool → α → List Bool} (Q : List Bool → Prop) (ps : List α) (hq : ∀ o, ∀ p ∈ ps, Q o → Q (st o p)) : ∀ (l : List α), (∀ p ∈ l, p ∈ ps) → ∀ o, Q o → Q (rnd st l o)
  | [], _, _, h => h
  | p :: l, hl, o, h => rnd_ind Q ps hq l (fun q hq => hl q (List.mem_cons_of_mem _ hq)) (st o p) (hq o p (hl p (List.mem_cons_self ..)) h)
theorem bools_rep (n : Nat) : repl n [Bo false] = bools (List.replicate n false) := by
  simp [repl, bools]
theorem frz_bools (lim : Nat) (H : Heap) (d : Nat) (l : List Bool) : mapO (frz lim H d) (bools l) = some (bools l) := by
  induction l with
  | nil => rfl
  | cons a l ih =>
    simp only [bools, List.map_cons, mapO, frz_val] at ih ⊢
    rw [ih]
theorem bel_bools (lim : Nat) (l : List Bool) : belowL lim (bools l) = true := by
  induction l with
  | nil => rfl
  | cons a l ih => simp only [bools, List.map_cons, belowL, Hm.below, Bool.true_and]; exact ih
theorem getD_of {o : List Bool} {i : Nat} (h : i < o.length) : o.getD i false = o[i] := by
  rw [List.getD_eq_getElem?_getD, List.getElem?_eq_getElem h]; rfl
theorem take_setG (H : Heap) (b : Nat) (x : HB) : (H.set b x).take H.length = H.set b x := List.take_of_length_le (by simp)
theorem get_ltG {H : Heap} {b : Nat} {x : HB} (h : H[b]? = some x) : b < H.length := by
  rcases Nat.lt_or_ge b H.length with h1 | h1
  · exact h1
  · rw [List.getElem?_eq_none h1] at h; cases h
/-! ### The first that holds -/
def idxF {α : Type} (P : α → Bool) : List α → Int → Int
  | [], _ => -1
  | x :: l, i => if P x = true then i else idxF P l (i + 1)
theorem idxF_any {α : Type} (P : α → Bool) : ∀ (l : List α) (i : Int), 0 ≤ i → (decide (0 ≤ idxF P l i) = l.any P)
  | [], i, h => by simp [idxF]
  | x :: l, i, h => by
    have ih := idxF_any P l (i + 1) (by omega)
    simp only [idxF, List.any_cons]
    by_cases hp : P x = true
    · simp [hp, h]
    · simp only [hp, if_false, Bool.false_eq_true]
      rw [ih]; simp [hp]
theorem aok_val (v : Value) : argOk (.val v) = true := rfl
theorem aok_agg (c : List AV) : argOk (.agg c) = true := rfl
theorem aok_hp (b g o : Nat) : argOk (.hp b g o) = true := rfl
set_option maxRecDepth 20000 in
theorem idx45_code {lk lim : Nat} {H : Heap} {f : FuncId} {cap : List AV} (l : List Int) (P : Int → Bool) (hl : l.length ≤ 1000000) (hc : cap.all argOk = true) (hP : ∀ x ∈ l, callW X A lk H.length f (I x :: cap) H = some (Bo (P x), H)) :
    callW X A lk lim 45 [.sl l.length (ints l), .fn f cap] H = some (I (idxF P l 0), H) := by
  refine wb_callB [] rfl A45 rfl rfl ?_
  unfold t45B
  simp
  refine wb_loop (σ := Nat) (fun i => [(0, .sl l.length (ints l)), (1, .fn f cap), (7, I l.length), (8, I i)]) (fun _ => H)
    (fun i => i ≤ l.length ∧ idxF P (l.drop i) i = idxF P l 0) (fun i => l.length - i) ?_ 0 (by simp) (by simp) rfl
  rintro i ⟨hi, hinv⟩
  unfold t45L1
  have w : IntKind.i64.wrap ((i : Int) + 1) = (i : Int) + 1 := wrap64 (by omega) (by omega)
  by_cases hil : i < l.length
  · obtain ⟨x, hx⟩ : ∃ x, l[i] = x := ⟨_, rfl⟩
    have hp := hP x (hx ▸ List.getElem_mem hil)
    rw [List.drop_eq_getElem_cons hil, hx] at hinv
    simp only [idxF] at hinv
    cases hpx : P x with
    | true =>
      rw [hpx] at hp hinv
      rw [if_pos rfl] at hinv
      rw [← hinv]
      generalize callW X A = C at hp ⊢
      simp [-argOk, aok_val, hil, hx, hp, hc]
    | false =>
      rw [hpx] at hp hinv
      rw [if_neg (by simp)] at hinv
      generalize callW X A = C at hp ⊢
      simp [-argOk, aok_val, hil, hx, hp, hc, w, rnd_nrm]
      exact ⟨i + 1, ⟨by omega, hinv⟩, by omega, by simp⟩
  · obtain rfl : i = l.length := by omega
    rw [List.drop_length] at hinv
    simp only [idxF] at hinv
    rw [← hinv]
    simp
theorem has29_code {lk lim : Nat} {H : Heap} {f : FuncId} {cap : List AV} (l : List Int) (P : Int → Bool) (hl : l.length ≤ 1000000) (hc : cap.all argOk = true) (hP : ∀ x ∈ l, callW X A lk H.length f (I x :: cap) H = some (Bo (P x), H)) :
    callW X A lk lim 29 [.sl l.length (ints l), .fn f cap] H = some (Bo (l.any P), H) := by
  have k := idx45_code (lim := H.length) l P hl hc hP
  have ha := idxF_any P l 0 (Int.le_refl _)
  refine wb_callB [] rfl A29 rfl rfl ?_
  unfold t29B
  generalize callW X A = C at k ⊢
  simp [k, ha]
end Go.Proofs.Ytdbbaopgmapmaaa
