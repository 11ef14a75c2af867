import Derived.Test.YtgbpioccaenjaaaGQ
set_option linter.unusedSimpArgs false
set_option linter.unusedVariables false
namespace Go.Proofs.Ytgbpioccaenjaaa
open Go Go.Hm

def LQ (H : Heap) (n : Nat) (o : List Bool) : Heap := H ++ (.cells (rowV (H.length + 1) n n) :: matB n o)
def LP (H : Heap) (n i : Nat) : Heap := H ++ (.cells (outC (H.length + 1) n i) :: List.replicate i (.cells (bools (List.replicate n false))))
section
variable {H : Heap} {n i : Nat} {o : List Bool}
end
structure Cel (n : Nat) (o : List Bool) (i k : Nat) (R : List Bool) (u : Bool) : Prop where
  row : rowL n o i = R
  len : R.length = n
  lt : k < R.length
  get : R[k] = u
end Go.Proofs.Ytgbpioccaenjaaa

namespace Go.Proofs.Ytgbpioccaenjaaa
open Go Go.Hm

abbrev wE (t k' : Int) (ps : List Pr) (H : Heap) (n : Nat) : Env := [(1, .box [I t, I n, I k', .sl ps.length (psC ps)]), (5, .hs H.length n 0 n 1)]
end Go.Proofs.Ytgbpioccaenjaaa

namespace Go.Proofs.Ytgbpioccaenjaaa
open Go Go.Hm

def rleftR (g : Gm) : Int × Bool := if chkE g = 0 then dgL g.n.toNat (refM g.n.toNat g.t (derM g false) g.ps) g.n.toNat 0 else (0, false)
end Go.Proofs.Ytgbpioccaenjaaa
