import Derived.Test.YtgbpioccaenjaaaGH
set_option linter.unusedSimpArgs false
set_option linter.unusedVariables false
namespace Go.Proofs.Ytgbpioccaenjaaa
open Go Go.Hm

def KP (C : Orc) (lk : Nat) (H : Heap) : Prop := ∀ (K : Nat) (_ : K ≤ H.length) (L : Nat) (ks : List (List UInt8)) (x : List UInt8), ks.length ≤ 4100000000000 → C K L 31 [rlV (H.length + 1) ks, .mp H.length, Sg x] (KH H ks) = some (rlV (H.length + 1) (putK ks x), KH H (putK ks x))
def KJ (C : Orc) : Prop := ∀ (K L : Nat) (G : Heap) (k : Nat) (x y : List UInt8), x.length ≤ 1000000000000000 → y.length ≤ 1000000000000000 → C K L 32 [I k, Sg x, Sg y] G = some (Sg (join k x y), G)
def rowK (k : Nat) (b : List (List UInt8)) (x : List UInt8) : List (List UInt8) := if whole k x = true then [x.take k] else b.map (join k x)
def c30T : AC := match t14L2 with
  | .seq _ (.seq (.block _ (.seq _ r)) _) => r
  | _ => .skip
end Go.Proofs.Ytgbpioccaenjaaa

namespace Go.Proofs.Ytgbpioccaenjaaa
open Go Go.Hm

def catN (k : Nat) (a b : List (List UInt8)) : List (List UInt8) := if b = [] then [] else catL k a b
end Go.Proofs.Ytgbpioccaenjaaa
