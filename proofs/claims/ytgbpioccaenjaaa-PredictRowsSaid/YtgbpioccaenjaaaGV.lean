import Derived.Test.YtgbpioccaenjaaaWa
import Derived.Test.YtgbpioccaenjaaaGM
import Derived.Test.YtgbpioccaenjaaaNm
set_option linter.unusedSimpArgs false
set_option linter.unusedVariables false
namespace Go.Proofs.Ytgbpioccaenjaaa
open Go Go.Hm

def lookP (g : Gm) (p : Pr) : List (List UInt8) := cat g.k.toNat (ofM g (setsM g) p.r) ((folM g).getD p.l.toNat [])
def lookM (g : Gm) : Ss := g.ps.map (lookP g)
def tbV (H : Heap) (cs : List AV) : AV := if cs = [] then .e0 else .hs H.length cs.length 0 cs.length 1
def tbH (H : Heap) (cs : List AV) : Heap := if cs = [] then H else H ++ [.cells cs]
end Go.Proofs.Ytgbpioccaenjaaa

namespace Go.Proofs.Ytgbpioccaenjaaa
open Go Go.Hm

def unP (p : Pr) : Int × List Int := (p.l, p.r)
def confM (g : Gm) : Option (Nat × Nat × Nat × List UInt8) := confF (g.ps.map unP) (lookM g) g.n.toNat 0
def cfV : Option (Nat × Nat × Nat × List UInt8) → AV
  | none => .agg [I 0, I 0, I 0, Sg []]
  | some (l, a, b, x) => .agg [I l, I a, I b, Sg x]
def BuildR (g : Gm) (v : AV) : Prop :=
  if chkE g = 0 then (match confM g with
    | some c => v = .tup [.agg [.e0], cfV (some c), I 9]
    | none => ∃ cs, v = .tup [.agg [.sl cs.length cs], cfV none, I 0] ∧ SC cs (lookM g))
  else v = .tup [.agg [.e0], cfV none, I (chkE g)]
end Go.Proofs.Ytgbpioccaenjaaa
