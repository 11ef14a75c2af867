/- What is asked ahead of ranges over maps. -/
import Derived.Test.YtnhennjliinplaaK
set_option linter.all false
namespace Go.Proofs.Ytnhennjliinplaa
open Go Go.Hm

def isSet (H : Heap) : AV → Bool
 | .mp b => match H[b]? with
  | some (.map es) => ikOk es && unitVs es
  | _ => false
 | _ => false
def keysIn (n : Nat) (es : List (AV × AV)) : Bool:=es.all fun p => match p.1 with
 | .val (.int .i64 k) => decide (0 ≤ k) && decide (k < (n : Int))
 | _ => false
def preCopy (lk : Nat) (b : Nat) (env : Env) (H : Heap) : Bool:=match find env 0 with
 | .mp d => (match Nat.decEq d b with | .isTrue _ => false | .isFalse _ => true) && Nat.ble lk d && isSet H (.mp d)
 | _ => false
def preJoin (lk lim : Nat) (es : List (AV × AV)) (env : Env) (H : Heap) : Bool:=match find env 0 with
 | .hp p 4 0 => match H[p]? with
  | some (.cells [_,_,_,.hs nb g 0 n 1]) => (match H[nb]? with
   | some (.cells cs) => Nat.beq cs.length g && Nat.beq cs.length n && cs.all (isSet H)
   | _ => false) && Nat.ble lk nb && Nat.ble lim nb && keysIn n es && isSet H (find env 2)
  | _ => false
 | _ => false
def preFill (lk : Nat) (es : List (AV × AV)) (env : Env) (H : Heap) : Bool:=match find env 7 with
 | .hp p 4 0 => match H[p]? with
  | some (.cells [_,_,.hs rb g 0 n 1,_]) => (match H[rb]? with
   | some (.cells cs) => Nat.beq cs.length g && Nat.beq cs.length n
   | _ => false) && Nat.ble lk rb && keysIn n es && ((match find env 9 with | .val (.int .i64 _) => true | _ => false) && (match Nat.decEq p rb with | .isTrue _ => false | .isFalse _ => true))
  | _ => false
 | _ => false
def preN (f _ : Nat) (lk lim b : Nat) (es : List (AV × AV)) (env : Env) (H : Heap) : Bool:=match f with
 | 72 => preCopy lk b env H
 | 39 => preJoin lk lim es env H
 | 13 => preFill lk es env H
 | _ => false
end Go.Proofs.Ytnhennjliinplaa
