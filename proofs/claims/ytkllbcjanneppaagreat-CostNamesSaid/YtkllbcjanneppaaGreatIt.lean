import Derived.Test.YtkllbcjanneppaaGreatHmG12
set_option linter.unusedSimpArgs false
set_option linter.unusedVariables false
namespace Go.Proofs.YtkllbcjanneppaaGreat
open Go Go.Hm Go.RowKit

def intsOf : List AV → Option (List Int)
 | [] => some []
 | .val (.int .i64 n) :: r => match intsOf r with
  | some l => some (n :: l)
  | none => none
 | _ => none
def backV : List Int → Nat → List (List Value)
 | [],_ => []
 | x :: r,i => backV r (i + 1) ++ [[.int .i64 (i : Nat),.int .i64 x]]
def backIt (f : FuncId) (cap : List AV) (_ : Heap) : Option (List (List Value)):=
 if f = 90 then match cap with
  | [.rop [.sl n cs] 0] => match intsOf cs with
   | some r => if r.length = n ∧ n ≤ 1000000000 then some (backV r 0) else none
   | none => none
  | [.rop [.e0] 0] => some []
  | _ => none
 else none
theorem intsOf_get : ∀ {cs : List AV} {r : List Int},intsOf cs = some r → cs = ints r
 | [],r,h => by
  simp only [intsOf,Option.some.injEq] at h
  subst h;rfl
 | v :: cs,r,h => by
  unfold intsOf at h
  split at h
  ·rename_i e;cases e
  ·rename_i n q e
   cases e
   cases hq : intsOf cs with
   | none => rw [hq] at h;cases h
   | some l =>
    rw [hq] at h
    simp only [Option.some.injEq] at h
    subst h
    rw [intsOf_get hq];rfl
  ·cases h
theorem backV_len : ∀ (r : List Int) (i : Nat),(backV r i).length = r.length
 | [],_ => rfl
 | x :: r,i => by simp [backV,backV_len r]
theorem backV_get : ∀ (r : List Int) (i j : Nat) (h : j < r.length),(backV r i)[r.length - 1 - j]? = some [.int .i64 ((i + j : Nat) : Int),.int .i64 r[j]]
 | x :: r,i,0,h => by
  unfold backV
  rw [List.getElem?_append_right (by rw [backV_len];simp),backV_len]
  simp
 | x :: r,i,j + 1,h => by
  have hj : j < r.length:=by simpa using h
  unfold backV
  rw [show (x :: r).length - 1 - (j + 1) = r.length - 1 - j from by simp;omega,List.getElem?_append_left (by rw [backV_len];omega),backV_get r (i + 1) j hj]
  simp only [List.getElem_cons_succ]
  rw [show i + 1 + j = i + (j + 1) from by omega]
end Go.Proofs.YtkllbcjanneppaaGreat
