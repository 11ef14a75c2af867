import Derived.Test.YtgbpioccaenjaaaGP
import Derived.Test.YtgbpioccaenjaaaHmG10
set_option linter.unusedSimpArgs false
set_option linter.unusedVariables false
namespace Go.Proofs.Ytgbpioccaenjaaa
open Go Go.Hm

def rowL (n : Nat) (o : List Bool) (i : Nat) : List Bool := (o.drop (i * n)).take n
def matB (n : Nat) (o : List Bool) : Heap := (List.range n).map fun i => .cells (bools (rowL n o i))
def rowV (b n m : Nat) : List AV := (List.range m).map fun i => .hs (b + i) n 0 n 1
def outC (b n m : Nat) : List AV := rowV b n m ++ List.replicate (n - m) .e0
end Go.Proofs.Ytgbpioccaenjaaa

namespace Go.Proofs.Ytgbpioccaenjaaa
open Go Go.Hm

def LS (g : Gm) (H : Heap) (null : List Bool) (n : Nat) (o : List Bool) : Heap := H ++ (.cells g.cells :: .cells [.sl n (bools null)] :: .cells (rowV (H.length + 4) n n) :: .cells [.hs (H.length + 2) n 0 n 1] :: matB n o)
section
variable {g : Gm} {H : Heap} {null : List Bool} {n : Nat} {o : List Bool}
end
def chg (o o0 : List Bool) : Bool := decide (o ≠ o0)
abbrev c39E (H : Heap) (n l s i k : Nat) (B : List Nat) (more : Bool) : Env := [(1, .hp (H.length + 3) 1 0), (5, Bo more), (6, .hs (H.length + 4 + l) n 0 n 1), (8, I s), (20, .sl B.length (nts B)), (21, I B.length), (22, I i), (29, .hs (H.length + 4 + s) n 0 n 1), (30, I n), (31, I k)]
abbrev c39F (H : Heap) (n l i : Nat) (B : List Nat) (more : Bool) : Env := [(1, .hp (H.length + 3) 1 0), (5, Bo more), (6, .hs (H.length + 4 + l) n 0 n 1), (20, .sl B.length (nts B)), (21, I B.length), (22, I i)]
end Go.Proofs.Ytgbpioccaenjaaa

namespace Go.Proofs.Ytgbpioccaenjaaa
open Go Go.Hm

def leftR (g : Gm) : Int × Bool := if chkE g = 0 then dgL g.n.toNat (leftM g.n.toNat g.t (derM g false) g.ps) g.n.toNat 0 else (0, false)
def leftV (g : Gm) : AV := .tup [I (leftR g).1, Bo (leftR g).2]
def LR (g : Gm) (H : Heap) (null : List Bool) (n i : Nat) : Heap := H ++ (.cells g.cells :: .cells [.sl n (bools null)] :: .cells (outC (H.length + 4) n i) :: .cells [.hs (H.length + 2) n 0 n 1] :: List.replicate i (.cells (bools (List.replicate n false))))
section
variable {g : Gm} {H : Heap} {null : List Bool} {n i : Nat}
end
end Go.Proofs.Ytgbpioccaenjaaa
