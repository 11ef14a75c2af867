import Derived.Test.YtgbpioccaenjaaaGO
set_option linter.unusedSimpArgs false
set_option linter.unusedVariables false
namespace Go.Proofs.Ytgbpioccaenjaaa
open Go Go.Hm

def bgL (t : Int) (null : List Bool) : List Int → List Nat
  | [] => []
  | x :: r => if x < t then [] else (x - t).toNat :: (if null.getD (x - t).toNat false = true then bgL t null r else [])
def Edge (t : Int) (null : List Bool) (ps : List Pr) (i s : Nat) : Prop := ∃ p ∈ ps, p.l.toNat = i ∧ s ∈ bgL t null p.r
inductive Path (E : Nat → Nat → Prop) : Nat → Nat → Prop
  | one {i j : Nat} : E i j → Path E i j
  | cons {i s j : Nat} : E i s → Path E s j → Path E i j
theorem Path.trans {E : Nat → Nat → Prop} {i j k : Nat} (h : Path E i j) (h2 : Path E j k) : Path E i k := by
  induction h with
  | one h => exact .cons h h2
  | cons h _ ih => exact .cons h (ih h2)

abbrev Mx (n : Nat) (o : List Bool) (i j : Nat) : Prop := tr o (i * n + j)
def lfK (n l s : Nat) (o : List Bool) (k : Nat) : List Bool := if ((o.getD (s * n + k) false || decide (k = s)) && !o.getD (l * n + k) false) = true then o.set (l * n + k) true else o
def lfS (n l : Nat) (o : List Bool) (s : Nat) : List Bool := (List.range n).foldl (lfK n l s) o
def lfP (n : Nat) (t : Int) (null : List Bool) (o : List Bool) (p : Pr) : List Bool := (bgL t null p.r).foldl (lfS n p.l.toNat) o
def leftM (n : Nat) (t : Int) (null : List Bool) (ps : List Pr) : List Bool := fin (rnd (lfP n t null) ps) (List.replicate (n * n) false)
def PsOk (t : Int) (n : Nat) (ps : List Pr) : Prop := ∀ p ∈ ps, p.l.toNat < n ∧ ∀ x ∈ p.r, 0 ≤ x ∧ x < t + n
section
variable {n : Nat} {t : Int} {null : List Bool} {ps : List Pr}
end
end Go.Proofs.Ytgbpioccaenjaaa

namespace Go.Proofs.Ytgbpioccaenjaaa
open Go Go.Hm

def edS (n l : Nat) (o : List Bool) (s : Nat) : List Bool := o.set (l * n + s) true
def edP (n : Nat) (t : Int) (null : List Bool) (o : List Bool) (p : Pr) : List Bool := (bgL t null p.r).foldl (edS n p.l.toNat) o
def edM (n : Nat) (t : Int) (null : List Bool) (ps : List Pr) : List Bool := ps.foldl (edP n t null) (List.replicate (n * n) false)
def waC (n m i : Nat) (o : List Bool) (k : Nat) : List Bool := o.set (i * n + k) (o.getD (i * n + k) false || (o.getD (i * n + m) false && o.getD (m * n + k) false))
def waR (n m : Nat) (o : List Bool) (i : Nat) : List Bool := (List.range n).foldl (waC n m i) o
def waM (n : Nat) (o : List Bool) (m : Nat) : List Bool := (List.range n).foldl (waR n m) o
def refM (n : Nat) (t : Int) (null : List Bool) (ps : List Pr) : List Bool := (List.range n).foldl (waM n) (edM n t null ps)
section
variable {n : Nat} {t : Int} {null : List Bool} {ps : List Pr}
end
end Go.Proofs.Ytgbpioccaenjaaa

namespace Go.Proofs.Ytgbpioccaenjaaa
open Go Go.Hm

def rdK (n l s : Nat) (o : List Bool) (m : Nat) : List Bool := o.set (l * n + m) (o.getD (l * n + m) false || o.getD (s * n + m) false)
def rdS (n l : Nat) (o : List Bool) (s : Nat) : List Bool := (List.range n).foldl (rdK n l s) (o.set (l * n + s) true)
def rdP (n : Nat) (t : Int) (null : List Bool) (o : List Bool) (p : Pr) : List Bool := (bgL t null p.r).foldl (rdS n p.l.toNat) o
def rdM (n : Nat) (t : Int) (null : List Bool) (ps : List Pr) : List Bool := itF (fun o => ps.foldl (rdP n t null) o) (n + 1) (List.replicate (n * n) false)
section
variable {n : Nat} {t : Int} {null : List Bool} {ps : List Pr}
def PathN (E : Nat → Nat → Prop) : Nat → Nat → Nat → Prop
  | 0, _, _ => False
  | r + 1, i, j => ∃ s, E i s ∧ (s = j ∨ PathN E r s j)
theorem PathN.more {E : Nat → Nat → Prop} : ∀ {r i j : Nat}, PathN E r i j → PathN E (r + 1) i j
  | r + 1, i, j, ⟨s, h1, h2⟩ => ⟨s, h1, h2.imp (fun h => h) fun h => h.more⟩
open Classical in
noncomputable def colF (E : Nat → Nat → Prop) (n j : Nat) (v : List Bool) : List Bool := (List.range n).map fun i => v.getD i false || decide (∃ s, E i s ∧ (s = j ∨ tr v s))
end
def dgL (n : Nat) (o : List Bool) : Nat → Nat → Int × Bool
  | 0, _ => (0, false)
  | m + 1, i => if o.getD (i * n + i) false = true then ((i : Int), true) else dgL n o m (i + 1)
end Go.Proofs.Ytgbpioccaenjaaa
