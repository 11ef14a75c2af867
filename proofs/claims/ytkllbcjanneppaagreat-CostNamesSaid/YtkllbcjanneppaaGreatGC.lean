import Derived.Test.YtkllbcjanneppaaGreatGB
set_option linter.unusedSimpArgs false
set_option linter.unusedVariables false
namespace Go.Proofs.YtkllbcjanneppaaGreat
open Go Go.Hm

theorem sg_toList (a : List UInt8) : (⟨⟨a⟩⟩ : ByteArray).toList = a:=by rw [ByteArray.toList_eq]
theorem sg_neq (a b : List UInt8) : abins .neq ⟨⟨a⟩⟩ ⟨⟨b⟩⟩ = some (Bo (!(a == b))):=by
 simp only [abins,sg_toList]
def putK (ks : List (List UInt8)) (x : List UInt8) : List (List UInt8):=if x ∈ ks then ks else ks ++ [x]
end Go.Proofs.YtkllbcjanneppaaGreat

namespace Go.Proofs.YtkllbcjanneppaaGreat
open Go Go.Hm

end Go.Proofs.YtkllbcjanneppaaGreat

namespace Go.Proofs.YtkllbcjanneppaaGreat
open Go Go.Hm

def pl (ks l : List (List UInt8)) : List (List UInt8):=l.foldl putK ks
theorem rowsB_get {l : List (List UInt8)} {i : Nat} (h : i < l.length) : (rowsB l)[i]? = some (Sg l[i]):=by simp [rowsB,h]
theorem rowsB_len (l : List (List UInt8)) : (rowsB l).length = l.length:=by simp [rowsB]
theorem frz_rowsB (lim : Nat) (H : Heap) (d : Nat) (l : List (List UInt8)) : mapO (frz lim H d) (rowsB l) = some (rowsB l):=by
 induction l with
 | nil => rfl
 | cons a l ih =>
  simp only [rowsB,List.map_cons,mapO,frz_val] at ih ⊢
  rw [ih]
theorem bel_rowsB (lim : Nat) (l : List (List UInt8)) : belowL lim (rowsB l) = true:=belowL_iff.2 fun a ha => by
 unfold rowsB at ha
 obtain ⟨x,_,rfl⟩:=List.mem_map.1 ha
 rfl
theorem rowsB_take (l : List (List UInt8)) (n : Nat) (h : l.length ≤ n) : (rowsB l).take n = rowsB l:=List.take_of_length_le (by simpa [rowsB] using h)
def catV (k : Nat) (a b : List (List UInt8)) : AV:=if b = [] then .e0 else rowsV (cat k a b)
def RV (v : AV) (l : List (List UInt8)) : Prop:=v = rowsV l ∨ (v = .e0 ∧ l = [])
theorem RV.cat (k : Nat) (a b : List (List UInt8)) : RV (catV k a b) (cat k a b):=by
 unfold catV RV
 split
 ·rename_i h;exact .inr ⟨rfl,by unfold Go.Proofs.YtkllbcjanneppaaGreat.cat;rw [if_pos h]⟩
 ·exact .inl rfl

attribute [simp] rowsB_len frz_rowsB bel_rowsB rowsB_take
section
variable {lk lim : Nat} {H : Heap} (hlk : lk ≤ H.length) (k : Nat) (a b : List (List UInt8)) (hb0 : b ≠ []) (hla : a.length ≤ 2000000) (hlb : b.length ≤ 2000000) (ha : ∀ x ∈ a,x.length ≤ 1000000) (hb : ∀ x ∈ b,x.length ≤ 1000000)
include hlk hb0 hla hlb ha hb
end
end Go.Proofs.YtkllbcjanneppaaGreat

namespace Go.Proofs.YtkllbcjanneppaaGreat
open Go Go.Hm

end Go.Proofs.YtkllbcjanneppaaGreat
