import Derived.Test.YtgbpioccaenjaaaGC
set_option linter.unusedSimpArgs false
set_option linter.unusedVariables false
namespace Go.Proofs.Ytgbpioccaenjaaa
open Go Go.Hm

def SC (cs : List AV) (S : Ss) : Prop := cs.length = S.length ∧ ∀ (j : Nat) v, cs[j]? = some v → RV v (S.getD j [])
theorem SC.get {cs : List AV} {S : Ss} (h : SC cs S) {j : Nat} (hj : j < S.length) : ∃ v, cs[j]? = some v ∧ RV v (S.getD j []) := by
  have : j < cs.length := by rw [h.1]; exact hj
  exact ⟨cs[j], List.getElem?_eq_getElem this, h.2 j _ (List.getElem?_eq_getElem this)⟩
def ofV (g : Gm) (S : Ss) (r : List Int) : AV := match r.getLast? with
  | none => rowsV [[]]
  | some s => catV g.k.toNat (ofM g S r.dropLast) (nxt g S s)
theorem u8_wrap (s : Int) : IntKind.u8.wrap s = ((byteI s).toNat : Int) := by
  unfold byteI
  rw [UInt8.toNat_ofNat']
  show s % 256 = _
  omega
end Go.Proofs.Ytgbpioccaenjaaa

namespace Go.Proofs.Ytgbpioccaenjaaa
open Go Go.Hm

def FinX (rs : List ARes) (t : Bool) (H : Heap) (P : AV → Heap → Prop) : Ex → Kt := fun x e h => ∃ v h', finish ⟨0, .skip, rs, t⟩ H (some (x, e, h)) = some (v, h') ∧ P v h'
end Go.Proofs.Ytgbpioccaenjaaa
