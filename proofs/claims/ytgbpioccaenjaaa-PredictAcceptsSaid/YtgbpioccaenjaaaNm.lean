import Derived.Test.YtgbpioccaenjaaaT
set_option linter.unusedSimpArgs false
set_option linter.unusedVariables false
namespace Go.Proofs.Ytgbpioccaenjaaa
open Go Go.Hm

def prB (f : Nat) : Bool := Nat.beq f 72 || Nat.beq f 65 || Nat.beq f 30
noncomputable def E : Orc := callE (gF X1 prB A []) 100000 300
theorem X1_none (f : FuncId) (h : prB f = false) (lk lim : Nat) (l : List AV) (H : Heap) : X1 lk lim f l H = none := by
 simp only [prB, Bool.or_eq_false_iff] at h
 show withFun 30 conflictG (withRows 72 65 (primX prims)) lk lim f l H = none
 unfold withFun
 rw [if_neg (fun e => by subst e; exact absurd h.2 (by decide))]
 unfold withRows
 rw [if_neg (fun e => by subst e; exact absurd h.1.1 (by decide)), if_neg (fun e => by subst e; exact absurd h.1.2 (by decide))]
 rfl
theorem lives0 : callW X1 A 0 0 8 [] [] = some (Bo true, []) :=
 run_W X1_none (fun p h => by cases h) 100000 300 E rfl _ _ _ _ _ _ rfl (by kernel_rfl)
theorem lives_at {lk lim : Nat} {H : Heap} : callW X A lk lim 8 [] H = some (Bo true, H) := callW_prim withConst_at
end Go.Proofs.Ytgbpioccaenjaaa
