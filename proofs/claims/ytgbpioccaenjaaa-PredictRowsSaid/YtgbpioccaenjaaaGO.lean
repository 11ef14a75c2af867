import Derived.Test.YtgbpioccaenjaaaGN
set_option linter.unusedSimpArgs false
set_option linter.unusedVariables false
namespace Go.Proofs.Ytgbpioccaenjaaa
open Go Go.Hm

def derV (g : Gm) (tok : Bool) : AV := if chkE g = 0 then .sl g.n.toNat (bools (derM g tok)) else .e0
section
variable {lk lim : Nat} {H : Heap} (g : Gm) (hl : g.ps.length ≤ 1000000) (hr : ∀ p ∈ g.ps, p.r.length ≤ 1000000) (hlk : lk ≤ H.length)
include hl hr hlk
end

def rchS (g : Gm) (o : List Bool) (s : Int) : List Bool := if s < g.t then o else if o.getD (s - g.t).toNat false = true then o else o.set (s - g.t).toNat true
def rchP (g : Gm) (o : List Bool) (p : Pr) : List Bool := if o.getD p.l.toNat false = true then p.r.foldl (rchS g) o else o
def rchM (g : Gm) : List Bool := fin (rnd (rchP g) g.ps) ((List.replicate g.n.toNat false).set 0 true)
end Go.Proofs.Ytgbpioccaenjaaa

namespace Go.Proofs.Ytgbpioccaenjaaa
open Go Go.Hm

structure RH (g : Gm) (H : Heap) (b : Nat) (o : List Bool) : Prop where
  g0 : H[b]? = some (.cells g.cells)
  g2 : H[b + 1]? = some (.cells (bools o))
  g3 : H[b + 2]? = some (.cells [.hs (b + 1) g.n.toNat 0 g.n.toNat 1])
theorem RH.set {g : Gm} {H : Heap} {b : Nat} {o o2 : List Bool} (hd : RH g H b o) : RH g (H.set (b + 1) (.cells (bools o2))) b o2 := by
  obtain ⟨g0, g2, g3⟩ := hd
  have hl := get_ltG g2
  exact ⟨by rw [List.getElem?_set_ne (by omega)]; exact g0, by rw [List.getElem?_set_self hl], by rw [List.getElem?_set_ne (by omega)]; exact g3⟩
end Go.Proofs.Ytgbpioccaenjaaa

namespace Go.Proofs.Ytgbpioccaenjaaa
open Go Go.Hm

def rS (g : Gm) (H : Heap) (o : List Bool) : Heap := H ++ [.cells g.cells, .cells (bools o), .cells [.hs (H.length + 1) g.n.toNat 0 g.n.toNat 1]]
def rchV (g : Gm) : AV := if chkE g = 0 then .sl g.n.toNat (bools (rchM g)) else .e0
end Go.Proofs.Ytgbpioccaenjaaa

namespace Go.Proofs.Ytgbpioccaenjaaa
open Go Go.Hm

end Go.Proofs.Ytgbpioccaenjaaa

namespace Go.Proofs.Ytgbpioccaenjaaa
open Go Go.Hm

def itF (f : List Bool → List Bool) : Nat → List Bool → List Bool
  | 0, o => o
  | m + 1, o => itF f m (f o)
end Go.Proofs.Ytgbpioccaenjaaa

namespace Go.Proofs.Ytgbpioccaenjaaa
open Go Go.Hm

def redL (a b : List Bool) : Nat → Nat → Int × Bool
  | 0, _ => (0, true)
  | m + 1, i => if (a.getD i false && b.getD i false) = true then redL a b m (i + 1) else (i, false)
def redP (g : Gm) : Int × Bool := if chkE g = 0 then redL (derM g true) (rchM g) g.n.toNat 0 else (0, false)
def redV (g : Gm) : AV := .tup [I (redP g).1, Bo (redP g).2]
end Go.Proofs.Ytgbpioccaenjaaa

namespace Go.Proofs.Ytgbpioccaenjaaa
open Go Go.Hm

abbrev tr (o : List Bool) (i : Nat) : Prop := o.getD i false = true
def Le (o o' : List Bool) : Prop := ∀ i, tr o i → tr o' i
end Go.Proofs.Ytgbpioccaenjaaa
