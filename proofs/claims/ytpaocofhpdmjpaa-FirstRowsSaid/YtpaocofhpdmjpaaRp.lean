import Derived.Test.YtpaocofhpdmjpaaRo
set_option linter.unusedSimpArgs false
set_option linter.unusedVariables false
namespace Go.Proofs.Ytpaocofhpdmjpaa
open Go Go.Hm

/-! ### All rows of some tokens -/
def sumP (t : Nat) : Nat → Nat
  | 0 => 0
  | i + 1 => sumP t i + t ^ i
def upB : List (List UInt8) → Bool
  | a :: b :: r => Op.bytesLess a b && upB (b :: r)
  | _ => true
def byteB (t : Nat) (x : List UInt8) (n : Nat) : Bool := Nat.blt (x.getD n 0).toNat t || ((x.getD n 0) == 255 && Nat.beq (n + 1) x.length)
def rowB (t k : Nat) (x : List UInt8) : Bool := Nat.ble x.length k && !(x == []) && (Nat.beq x.length k || x.getD (x.length - 1) 0 == 255) && (List.range x.length).all (byteB t x)
def goodB (t k : Nat) : Bool := let l := rowsF t k []; Nat.beq l.length (sumP t k + t ^ k) && upB l && l.all (rowB t k)
theorem good : ∀ t < 5, ∀ k < 4, 0 < k → goodB t k = true := by decide +kernel
theorem upB_get : ∀ {l : List (List UInt8)} (_ : upB l = true) (i : Nat) (h : i + 1 < l.length), Op.bytesLess l[i] l[i + 1] = true
  | a :: b :: r, hu, 0, _ => by
    unfold upB at hu
    rw [Bool.and_eq_true] at hu
    exact hu.1
  | a :: b :: r, hu, i + 1, h => by
    unfold upB at hu
    rw [Bool.and_eq_true] at hu
    exact upB_get (l := b :: r) hu.2 i (by simpa using h)
  | [a], _, i, h => by simp at h
  | [], _, i, h => by simp at h
structure Good (t k : Nat) (l : List (List UInt8)) : Prop where
  n : l.length = sumP t k + t ^ k
  up : ∀ (i : Nat) (h : i + 1 < l.length), Op.bytesLess l[i] l[i + 1] = true
  len : ∀ x ∈ l, x.length ≤ k
  ne : ∀ x ∈ l, 0 < x.length
  last : ∀ x ∈ l, x.length = k ∨ ∀ h : x.length - 1 < x.length, x[x.length - 1] = 255
  b : ∀ x ∈ l, ∀ (n : Nat) (h : n < x.length), x[n].toNat < t ∨ (x[n] = 255 ∧ n + 1 = x.length)
theorem rows_good {t k : Nat} (ht : t < 5) (hk : k < 4) (h0 : 0 < k) : Good t k (rowsOf t k) := by
  have hr : rowsOf t k = rowsF t k [] := by
    unfold rowsOf
    rw [if_neg (by omega)]
    rfl
  have h := good t ht k hk h0
  unfold goodB at h
  rw [← hr] at h
  simp only [Bool.and_eq_true, List.all_eq_true] at h
  obtain ⟨⟨h1, h2⟩, h3⟩ := h
  have gd : ∀ (x : List UInt8) (n : Nat) (h : n < x.length), x.getD n 0 = x[n] := fun x n h => by
    rw [List.getD_eq_getElem?_getD, List.getElem?_eq_getElem h]; rfl
  have hx : ∀ x ∈ rowsOf t k, x.length ≤ k ∧ 0 < x.length ∧ (x.length = k ∨ ∀ h : x.length - 1 < x.length, x[x.length - 1] = 255) ∧ ∀ (n : Nat) (h : n < x.length), x[n].toNat < t ∨ (x[n] = 255 ∧ n + 1 = x.length) := fun x hx => by
    have h4 := h3 x hx
    unfold rowB at h4
    simp only [Bool.and_eq_true, Bool.or_eq_true, List.all_eq_true, Bool.not_eq_true', List.mem_range] at h4
    obtain ⟨⟨⟨a1, a2⟩, a3⟩, a4⟩ := h4
    have a2 : x ≠ [] := by simpa using a2
    refine ⟨Nat.le_of_ble_eq_true a1, List.length_pos_iff.2 a2, a3.imp Nat.eq_of_beq_eq_true fun h hl => ?_, fun n hn => ?_⟩
    · rw [gd x _ hl] at h; simpa using h
    · have h5 := a4 n hn
      unfold byteB at h5
      rw [gd x n hn, Bool.or_eq_true, Bool.and_eq_true] at h5
      refine h5.imp (fun h => ?_) fun h => ⟨by simpa using h.1, Nat.eq_of_beq_eq_true h.2⟩
      rwa [Nat.blt_eq] at h
  exact ⟨Nat.eq_of_beq_eq_true h1, upB_get h2, fun x h => (hx x h).1, fun x h => (hx x h).2.1, fun x h => (hx x h).2.2.1, fun x h => (hx x h).2.2.2⟩
theorem sumP_le {t k : Nat} (ht : t < 5) (hk : k < 4) : sumP t k ≤ 21 ∧ t ^ k ≤ 64 := by
  have : ∀ t < 5, ∀ k < 4, sumP t k ≤ 21 ∧ t ^ k ≤ 64 := by decide
  exact this t ht k hk
end Go.Proofs.Ytpaocofhpdmjpaa
