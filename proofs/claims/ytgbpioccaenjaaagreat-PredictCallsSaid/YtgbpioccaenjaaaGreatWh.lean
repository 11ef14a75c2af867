import Derived.Test.YtgbpioccaenjaaaGreatGW
set_option linter.unusedSimpArgs false
set_option linter.unusedVariables false
namespace Go.Proofs.YtgbpioccaenjaaaGreat
open Go Go.Hm

theorem getD_un (ps : List Pr) (i : Nat) : ((ps.map unP).getD i (0,[])).1 = (ps.getD i ⟨0,[]⟩).l:=by
 rw [List.getD_eq_getElem?_getD,List.getD_eq_getElem?_getD,List.getElem?_map]
 cases ps[i]? <;> rfl
theorem lefts_un (ps : List Pr) (left : Nat) : leftsM (ps.map unP) left = ofN ps left ps.length:=by
 unfold leftsM ofN
 rw [List.length_map]
 congr 1
 funext i
 rw [getD_un]
def cnd (g : Gm) (left : Int) (row : List UInt8) (j : Nat) : Bool:=decide ((g.ps.getD j ⟨0,[]⟩).l = left) && hasV ((lookM g).getD j []) row
section
variable {g h : Gm} (hg : GOk g) (hh : GOk h) (ht : h.t = g.t) (hp : h.ps = g.ps) (hk : g.k ≤ h.k)
include hg hh ht hp hk
end
end Go.Proofs.YtgbpioccaenjaaaGreat
