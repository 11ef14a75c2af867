import Derived.Test.YtgbpioccaenjaaaGE
set_option linter.unusedSimpArgs false
set_option linter.unusedVariables false
namespace Go.Proofs.Ytgbpioccaenjaaa
open Go Go.Hm

end Go.Proofs.Ytgbpioccaenjaaa

namespace Go.Proofs.Ytgbpioccaenjaaa
open Go Go.Hm

end Go.Proofs.Ytgbpioccaenjaaa

namespace Go.Proofs.Ytgbpioccaenjaaa
open Go Go.Hm

theorem get_ltG {H : Heap} {b : Nat} {x : HB} (h : H[b]? = some x) : b < H.length := by
  rcases Nat.lt_or_ge b H.length with h1 | h1
  · exact h1
  · rw [List.getElem?_eq_none h1] at h; cases h
structure DH (g : Gm) (tok : Bool) (H : Heap) (b : Nat) (o : List Bool) : Prop where
  g0 : H[b]? = some (.cells g.cells)
  g1 : H[b + 1]? = some (.cells [Bo tok])
  g2 : H[b + 2]? = some (.cells (bools o))
  g3 : H[b + 3]? = some (.cells [.hs (b + 2) g.n.toNat 0 g.n.toNat 1])
  g4 : H[b + 4]? = some (.cells [.fn 85 [.hp b 4 0, .hp (b + 1) 1 0, .hp (b + 3) 1 0]])
abbrev lackC (b : Nat) : List AV := [.hp b 4 0, .hp (b + 1) 1 0, .hp (b + 3) 1 0]
theorem DH.set {g : Gm} {tok : Bool} {H : Heap} {b : Nat} {o o2 : List Bool} (hd : DH g tok H b o) : DH g tok (H.set (b + 2) (.cells (bools o2))) b o2 := by
  obtain ⟨g0, g1, g2, g3, g4⟩ := hd
  have hl := get_ltG g2
  exact ⟨by rw [List.getElem?_set_ne (by omega)]; exact g0, by rw [List.getElem?_set_ne (by omega)]; exact g1, by rw [List.getElem?_set_self hl], by rw [List.getElem?_set_ne (by omega)]; exact g3, by rw [List.getElem?_set_ne (by omega)]; exact g4⟩
end Go.Proofs.Ytgbpioccaenjaaa

namespace Go.Proofs.Ytgbpioccaenjaaa
open Go Go.Hm

def dS (g : Gm) (tok : Bool) (H : Heap) (o : List Bool) : Heap := H ++ [.cells g.cells, .cells [Bo tok], .cells (bools o), .cells [.hs (H.length + 2) g.n.toNat 0 g.n.toNat 1], .cells [.fn 85 (lackC H.length)]]
end Go.Proofs.Ytgbpioccaenjaaa
