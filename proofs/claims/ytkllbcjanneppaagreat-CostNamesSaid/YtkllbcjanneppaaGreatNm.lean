import Derived.Test.YtkllbcjanneppaaGreatT
set_option linter.unusedSimpArgs false
set_option linter.unusedVariables false
namespace Go.Proofs.YtkllbcjanneppaaGreat
open Go Go.Hm

def prB (f : Nat) : Bool:=Nat.beq f 105 || Nat.beq f 99 || Nat.beq f 60 || Nat.beq f 32
noncomputable def E : Orc:=callE (gF X1 prB A []) 100000 300
theorem X1_none (f : FuncId) (h : prB f = false) (lk lim : Nat) (l : List AV) (H : Heap) : X1 lk lim f l H = none:=by
 simp only [prB,Bool.or_eq_false_iff] at h
 show withFun 60 conflictG (withNew 32 repN (withRows 105 99 (primX prims))) lk lim f l H = none
 unfold withFun
 rw [if_neg (fun e => by subst e;exact absurd h.1.2 (by decide))]
 unfold withNew
 rw [if_neg (fun e => by subst e;exact absurd h.2 (by decide))]
 unfold withRows
 rw [if_neg (fun e => by subst e;exact absurd h.1.1.1 (by decide)),if_neg (fun e => by subst e;exact absurd h.1.1.2 (by decide))]
 rfl
end Go.Proofs.YtkllbcjanneppaaGreat
