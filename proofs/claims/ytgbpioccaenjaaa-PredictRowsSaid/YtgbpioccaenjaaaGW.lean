import Derived.Test.YtgbpioccaenjaaaGV
import Derived.Test.YtgbpioccaenjaaaGS
set_option linter.unusedSimpArgs false
set_option linter.unusedVariables false
namespace Go.Proofs.Ytgbpioccaenjaaa
open Go Go.Hm

def buildE (g : Gm) : Int := if chkE g = 0 then (match confM g with
  | some _ => 9
  | none => 0) else chkE g
def buildC (g : Gm) : Option (Nat × Nat × Nat × List UInt8) := if chkE g = 0 then confM g else none
def TV (tv : AV) (S : Ss) : Prop := (tv = .e0 ∧ S = []) ∨ ∃ cs, tv = .sl cs.length cs ∧ SC cs S
def buildT (g : Gm) : Ss := if buildE g = 0 then lookM g else []
def accE (g : Gm) : Int := if chkE g ≠ 0 then chkE g else if (redP g).2 = false then 5 else if (leftR g).2 = true then 4 else buildE g
end Go.Proofs.Ytgbpioccaenjaaa

namespace Go.Proofs.Ytgbpioccaenjaaa
open Go Go.Hm

def prdF (S : Ss) (row : List UInt8) : List Nat → Int
  | [] => -1
  | i :: r => if hasV (S.getD i []) row = true then i else prdF S row r
def prdM (g : Gm) (S : Ss) (left : Int) (row : List UInt8) : Int :=
  if S.length ≠ g.ps.length then -1 else if chkE g ≠ 0 then -1 else prdF S row (ofN g.ps left g.ps.length)
theorem TV.len {tv : AV} {S : Ss} (h : TV tv S) : tv = .e0 ∧ S.length = 0 ∨ ∃ cs, tv = .sl cs.length cs ∧ cs.length = S.length := by
  rcases h with ⟨rfl, rfl⟩ | ⟨cs, rfl, hs⟩
  · exact .inl ⟨rfl, rfl⟩
  · exact .inr ⟨cs, rfl, hs.1⟩
end Go.Proofs.Ytgbpioccaenjaaa
