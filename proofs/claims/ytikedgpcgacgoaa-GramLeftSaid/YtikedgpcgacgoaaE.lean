import Derived.Test.YtikedgpcgacgoaaD
set_option linter.unusedSimpArgs false
set_option linter.unusedVariables false
namespace Go.Proofs.Ytikedgpcgacgoaa
open Go Go.Hm

/-! ### Going on till nothing changes -/
def cntF : List Bool → Nat
  | [] => 0
  | b :: l => (if b = true then 0 else 1) + cntF l
theorem cntF_set : ∀ (o : List Bool) (i : Nat) (h : i < o.length), o[i] = false → cntF (o.set i true) + 1 = cntF o
  | [], i, h, _ => by simp at h
  | b :: o, 0, h, hb => by
    have hb : b = false := hb
    subst hb
    simp only [List.set_cons_zero, cntF]
    simp; omega
  | b :: o, i + 1, h, hb => by
    have ih := cntF_set o i (by simpa using h) (by simpa using hb)
    simp only [List.set_cons_succ, cntF]
    omega
def fixL (f : List Bool → List Bool) : Nat → List Bool → List Bool
  | 0, o => o
  | m + 1, o => if f o = o then o else fixL f m (f o)
/-- It only gets more. -/
def Grows (f : List Bool → List Bool) : Prop := ∀ o, f o = o ∨ cntF (f o) < cntF o
theorem fixL_more {f : List Bool → List Bool} (hf : Grows f) : ∀ (m : Nat) (o : List Bool), cntF o < m → fixL f m o = fixL f (cntF o + 1) o
  | 0, o, h => by omega
  | m + 1, o, h => by
    simp only [fixL]
    by_cases he : f o = o
    · rw [if_pos he, if_pos he]
    · rw [if_neg he, if_neg he]
      rcases hf o with h1 | h1
      · exact absurd h1 he
      · rw [fixL_more hf m (f o) (by omega)]
        by_cases h2 : cntF o = cntF (f o) + 1
        · rw [h2]
        · rw [fixL_more hf (cntF o) (f o) (by omega)]
def fin (f : List Bool → List Bool) (o : List Bool) : List Bool := fixL f (cntF o + 1) o
theorem fin_step {f : List Bool → List Bool} (hf : Grows f) (o : List Bool) : fin f o = if f o = o then o else fin f (f o) := by
  unfold fin
  rw [fixL]
  by_cases he : f o = o
  · rw [if_pos he, if_pos he]
  · rw [if_neg he, if_neg he]
    rcases hf o with h1 | h1
    · exact absurd h1 he
    · exact fixL_more hf _ _ h1
theorem fin_fix {f : List Bool → List Bool} (hf : Grows f) : ∀ (m : Nat) (o : List Bool), cntF o ≤ m → f (fin f o) = fin f o
  | m, o, h => by
    rw [fin_step hf]
    by_cases he : f o = o
    · rw [if_pos he]; exact he
    · rw [if_neg he]
      rcases hf o with h1 | h1
      · exact absurd h1 he
      · cases m with
        | zero => omega
        | succ m => exact fin_fix hf m (f o) (by omega)
/-- What holds at the beginning and is kept holds in the end. -/
theorem fin_ind {f : List Bool → List Bool} (hf : Grows f) (Q : List Bool → Prop) (hq : ∀ o, Q o → Q (f o)) : ∀ (m : Nat) (o : List Bool), cntF o ≤ m → Q o → Q (fin f o)
  | m, o, h, h0 => by
    rw [fin_step hf]
    by_cases he : f o = o
    · rw [if_pos he]; exact h0
    · rw [if_neg he]
      rcases hf o with h1 | h1
      · exact absurd h1 he
      · cases m with
        | zero => omega
        | succ m => exact fin_ind hf Q hq m (f o) (by omega) (hq o h0)
/-- A round, production by production. -/
def rnd {α : Type} (st : List Bool → α → List Bool) (ps : List α) (o : List Bool) : List Bool := ps.foldl st o
theorem rnd_grows {α : Type} {st : List Bool → α → List Bool} (hs : ∀ p, Grows fun o => st o p) : ∀ ps : List α, Grows (rnd st ps)
  | [], o => .inl rfl
  | p :: ps, o => by
    have h1 := rnd_grows hs ps (st o p)
    have h2 : st o p = o ∨ cntF (st o p) < cntF o := hs p o
    simp only [rnd, List.foldl_cons] at h1 ⊢
    rcases h1 with h1 | h1 <;> rcases h2 with h2 | h2
    · rw [h1]; exact .inl h2
    · rw [h1]; exact .inr h2
    · rw [h2] at h1 ⊢; exact .inr h1
    · exact .inr (by omega)
theorem rnd_le {α : Type} {st : List Bool → α → List Bool} (hs : ∀ p, Grows fun o => st o p) (ps : List α) (o : List Bool) : cntF (rnd st ps o) ≤ cntF o := by
  rcases rnd_grows hs ps o with h | h
  · rw [h]; exact Nat.le_refl _
  · omega
/-- A fixed round is one of each. -/
theorem rnd_fixed {α : Type} {st : List Bool → α → List Bool} (hs : ∀ p, Grows fun o => st o p) : ∀ (ps : List α) (o : List Bool), rnd st ps o = o → ∀ p ∈ ps, st o p = o
  | [], _, _, p, hp => by simp at hp
  | q :: ps, o, h, p, hp => by
    simp only [rnd, List.foldl_cons] at h
    have h1 : st o q = o := by
      rcases hs q o with h2 | h2
      · exact h2
      · have h3 := rnd_le hs ps (st o q)
        simp only [rnd] at h3
        rw [h] at h3
        have h2 : cntF (st o q) < cntF o := h2
        omega
    rcases List.mem_cons.1 hp with rfl | hp
    · exact h1
    · rw [h1] at h
      exact rnd_fixed hs ps o h p hp

/-! ### Deriving -/
def okS (g : Gm) (tok : Bool) (o : List Bool) (s : Int) : Bool := if s < g.t then tok else o.getD (s - g.t).toNat false
def derP (g : Gm) (tok : Bool) (o : List Bool) (p : Pr) : List Bool := if o.getD p.l.toNat false = true then o else if p.r.all (okS g tok o) = true then o.set p.l.toNat true else o
theorem set_grows (o : List Bool) (i : Nat) (h : ¬ o.getD i false = true) : o.set i true = o ∨ cntF (o.set i true) < cntF o := by
  by_cases hi : i < o.length
  · right
    have : o[i] = false := by
      rw [List.getD_eq_getElem?_getD, List.getElem?_eq_getElem hi] at h
      simpa using h
    have := cntF_set o i hi this
    omega
  · left
    exact List.set_eq_of_length_le (by omega)
theorem derP_grows (g : Gm) (tok : Bool) (p : Pr) : Grows fun o => derP g tok o p := fun o => by
  simp only [derP]
  split
  · exact .inl rfl
  · split
    · rename_i h1 h2
      exact set_grows o _ h1
    · exact .inl rfl
def derM (g : Gm) (tok : Bool) : List Bool := fin (rnd (derP g tok) g.ps) (List.replicate g.n.toNat false)
end Go.Proofs.Ytikedgpcgacgoaa
