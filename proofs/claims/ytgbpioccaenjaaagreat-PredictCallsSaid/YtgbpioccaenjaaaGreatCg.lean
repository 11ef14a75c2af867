import Derived.Test.YtgbpioccaenjaaaGreatHmG12
set_option linter.unusedSimpArgs false
set_option linter.unusedVariables false
namespace Go.Proofs.YtgbpioccaenjaaaGreat
open Go Go.Hm

def intsA : List AV → Option (List Int)
 | [] => some []
 | .val (.int .i64 n) :: r => match intsA r with
  | some l => some (n :: l)
  | none => none
 | _ => none
theorem intsA_ints : ∀ r : List Int,intsA (r.map fun n => I n) = some r
 | [] => rfl
 | x :: r => by
  show intsA (I x :: (r.map fun n => I n)) = _
  simp only [intsA,intsA_ints r]
def prodsA : List AV → Option (List (Int × List Int))
 | [] => some []
 | .val (.int .i64 l) :: .sl n cs :: r => match intsA cs,prodsA r with
  | some x,some q => if x.length = n then some ((l,x) :: q) else none
  | _,_ => none
 | _ => none
def rowA : AV → Option (List (List UInt8))
 | .e0 => some []
 | .sl n cs => match textsL cs with
  | some l => if l.length = n then some l else none
  | none => none
 | _ => none
def rowsA : List AV → Option (List (List (List UInt8)))
 | [] => some []
 | v :: r => match rowA v,rowsA r with
  | some x,some q => some (x :: q)
  | _,_ => none
def lookA : AV → Option (List (List (List UInt8)))
 | .e0 => some []
 | .sl n cs => match rowsA cs with
  | some l => if l.length = n then some l else none
  | none => none
 | _ => none
def meetF : Nat → List (List UInt8) → List (List UInt8) → Option (List UInt8)
 | 0,_,_ => none
 | _ + 1,[],_ => none
 | _ + 1,_,[] => none
 | k + 1,a :: as,b :: bs => if a = b then some a else if Op.bytesLess a b = true then meetF k as (b :: bs) else meetF k (a :: as) bs
def meetM (a b : List (List UInt8)) : Option (List UInt8):=meetF (a.length + b.length) a b
def pairB (look : List (List (List UInt8))) (a : Nat) : List Nat → Option (Nat × List UInt8)
 | [] => none
 | b :: r => match meetM (look.getD a []) (look.getD b []) with
  | some x => some (b,x)
  | none => pairB look a r
def pairsM (look : List (List (List UInt8))) : List Nat → Option (Nat × Nat × List UInt8)
 | [] => none
 | a :: r => match pairB look a r with
  | some (b,x) => some (a,b,x)
  | none => pairsM look r
def leftsM (ps : List (Int × List Int)) (left : Nat) : List Nat:=(List.range ps.length).filter fun i => decide ((ps.getD i (0,[])).1 = left)
def confF (ps : List (Int × List Int)) (look : List (List (List UInt8))) : Nat → Nat → Option (Nat × Nat × Nat × List UInt8)
 | 0,_ => none
 | k + 1,left => match pairsM look (leftsM ps left) with
  | some (a,b,x) => some (left,a,b,x)
  | none => confF ps look k (left + 1)
def okA (t n k : Int) (ps : List (Int × List Int)) : Bool:=
 decide (1 ≤ t ∧ t ≤ 8 ∧ 1 ≤ n ∧ n ≤ 16 ∧ 1 ≤ k ∧ k ≤ 3 ∧ 1 ≤ ps.length ∧ ps.length ≤ 64) && ps.all fun p => decide (0 ≤ p.1 ∧ p.1 < n) && decide (p.2.length ≤ 8) && p.2.all fun s => decide (0 ≤ s ∧ s < t + n)
def conV : Option (Nat × Nat × Nat × List UInt8) → AV
 | none => .tup [.agg [I 0,I 0,I 0,Sg []],Bo false]
 | some (l,a,b,x) => .tup [.agg [I l,I a,I b,Sg x],Bo true]
def conflictG (as : List AV) (_ : Heap) : Option AV:=
 match as with
 | [.agg [.val (.int .i64 t),.val (.int .i64 n),.val (.int .i64 k),.sl m cs],.agg [lv]] => match prodsA cs,lookA lv with
  | some ps,some look => if ps.length = m ∧ look.length = ps.length ∧ okA t n k ps = true ∧ look.all (fun l => decide (l.length ≤ 1000000)) = true then some (conV (confF ps look n.toNat 0)) else none
  | _,_ => none
 | _ => none
end Go.Proofs.YtgbpioccaenjaaaGreat
