import Derived.Test.YtdbbaopgmapmaaaX1
set_option linter.unusedSimpArgs false
set_option linter.unusedVariables false
namespace Go.Proofs.Ytdbbaopgmapmaaa
open Go Go.Hm
theorem sg_toList (a : List UInt8) : (⟨⟨a⟩⟩ : ByteArray).toList = a := by rw [ByteArray.toList_eq]
theorem sg_eqlN (a : List UInt8) : abins .eql ⟨⟨a⟩⟩ ⟨#[]⟩ = some (Bo (a == [])) := by
  rw [show (⟨#[]⟩ : ByteArray) = ⟨⟨[]⟩⟩ from rfl]
  simp only [abins, sg_toList]
theorem sg_eql (a b : List UInt8) : abins .eql ⟨⟨a⟩⟩ ⟨⟨b⟩⟩ = some (Bo (a == b)) := by
  simp only [abins, sg_toList]
theorem sg_neq (a b : List UInt8) : abins .neq ⟨⟨a⟩⟩ ⟨⟨b⟩⟩ = some (Bo (!(a == b))) := by
  simp only [abins, sg_toList]
theorem sg_leq (a b : List UInt8) : abins .leq ⟨⟨a⟩⟩ ⟨⟨b⟩⟩ = some (Bo (Op.bytesLess a b || a == b)) := by
  simp only [abins, sg_toList]
end Go.Proofs.Ytdbbaopgmapmaaa
