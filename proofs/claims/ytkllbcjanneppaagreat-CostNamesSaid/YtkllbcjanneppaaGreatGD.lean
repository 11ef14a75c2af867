import Derived.Test.YtkllbcjanneppaaGreatGC
set_option linter.unusedSimpArgs false
set_option linter.unusedVariables false
namespace Go.Proofs.YtkllbcjanneppaaGreat
open Go Go.Hm

def SC (cs : List AV) (S : Ss) : Prop:=cs.length = S.length ∧ ∀ (j : Nat) v,cs[j]? = some v → RV v (S.getD j [])
theorem SC.get {cs : List AV} {S : Ss} (h : SC cs S) {j : Nat} (hj : j < S.length) : ∃ v,cs[j]? = some v ∧ RV v (S.getD j []):=by
 have : j < cs.length:=by rw [h.1];exact hj
 exact ⟨cs[j],List.getElem?_eq_getElem this,h.2 j _ (List.getElem?_eq_getElem this)⟩
end Go.Proofs.YtkllbcjanneppaaGreat

namespace Go.Proofs.YtkllbcjanneppaaGreat
open Go Go.Hm

end Go.Proofs.YtkllbcjanneppaaGreat
