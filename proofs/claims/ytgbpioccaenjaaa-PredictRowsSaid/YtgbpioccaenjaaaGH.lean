import Derived.Test.YtgbpioccaenjaaaGE
set_option linter.unusedSimpArgs false
set_option linter.unusedVariables false
namespace Go.Proofs.Ytgbpioccaenjaaa
open Go Go.Hm

def mrg : List (List UInt8) → List (List UInt8) → List (List UInt8)
  | [], b => b
  | a, [] => a
  | x :: a, y :: b => if Op.bytesLess y x = true then y :: mrg (x :: a) b else x :: mrg a (y :: b)
termination_by a b => a.length + b.length
def srt : Nat → List (List UInt8) → List (List UInt8)
  | 0, l => l
  | n + 1, l => if l.length < 2 then l else mrg (srt n (l.take (l.length / 2))) (srt n (l.drop (l.length / 2)))
end Go.Proofs.Ytgbpioccaenjaaa

namespace Go.Proofs.Ytgbpioccaenjaaa
open Go Go.Hm

def entB (ks : List (List UInt8)) : List (AV × AV) := ks.map fun x => (Sg x, Bo true)
def KH (H : Heap) (ks : List (List UInt8)) : Heap := H ++ .map (entB ks) :: rlG ks
end Go.Proofs.Ytgbpioccaenjaaa

namespace Go.Proofs.Ytgbpioccaenjaaa
open Go Go.Hm

end Go.Proofs.Ytgbpioccaenjaaa

namespace Go.Proofs.Ytgbpioccaenjaaa
open Go Go.Hm

end Go.Proofs.Ytgbpioccaenjaaa
