import Derived.Test.YtgbpioccaenjaaaGE
set_option linter.unusedSimpArgs false
set_option linter.unusedVariables false
namespace Go.Proofs.Ytgbpioccaenjaaa
open Go Go.Hm

def quV (b : Nat) (q : List Nat) (off : Nat) (inq : List Bool) : List AV := .hs b q.length off (q.length - off) 1 :: bools inq
def foH (H : Heap) (g : Gm) (F : AV) (cs qv : List AV) (q : List Nat) (G : Heap) : Heap :=
  H ++ (.cells g.cells :: .cells [F] :: .cells cs :: .cells [.hs (H.length + 2) cs.length 0 cs.length 1] :: .cells qv :: .cells (nts q) :: G)
section
variable {H : Heap} {g : Gm} {F : AV} {cs qv : List AV} {q : List Nat} {G : Heap}
end
end Go.Proofs.Ytgbpioccaenjaaa

namespace Go.Proofs.Ytgbpioccaenjaaa
open Go Go.Hm

def putQ (q : List Nat) (inq : List Bool) (m : Nat) : List Nat × List Bool := if inq.getD m false = true then (q, inq) else (q ++ [m], inq.set m true)
structure QInv (g : Gm) (S : Ss) (q : List Nat) (off : Nat) (inq : List Bool) : Prop where
  reach : Reach g S
  ofl : off ≤ q.length
  lt : ∀ m ∈ q, m < g.n.toNat
  nd : (q.drop off).Nodup
  len : inq.length = 16
  iff : ∀ m, m < 16 → (inq.getD m false = true ↔ m ∈ q.drop off)
  sz : q.length ≤ szS S
def Pend (g : Gm) (S : Ss) (w : List Nat) (P : Pl → Prop) : Prop := ∀ p ∈ pls g, p.l ∈ w ∨ P p ∨ ClosedF g S p
def qmu (g : Gm) (S : Ss) (q : List Nat) (off : Nat) : Nat := 2 * (g.n.toNat * 585 - szS S) + (q.length - off)
section
variable {g : Gm} {S : Ss} {q : List Nat} {off : Nat} {inq : List Bool}
end
end Go.Proofs.Ytgbpioccaenjaaa
