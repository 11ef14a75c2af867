import Derived.Test.YtgbpioccaenjaaaNm
set_option linter.unusedSimpArgs false
set_option linter.unusedVariables false
namespace Go.Proofs.Ytgbpioccaenjaaa
open Go Go.Hm

def prN (f : Nat) : Bool := Nat.beq f 72 || Nat.beq f 65 || Nat.beq f 30 || Nat.beq f 8
noncomputable def EN : Orc := callE (gF X prN A []) 100000 300
theorem XN_none (f : FuncId) (h : prN f = false) (lk lim : Nat) (l : List AV) (H : Heap) : X lk lim f l H = none := by
  simp only [prN, Bool.or_eq_false_iff] at h
  show withConst 8 (.bool true) X1 lk lim f l H = none
  unfold withConst
  rw [if_neg (fun e => by obtain ⟨rfl, _⟩ := e; exact absurd h.2 (by decide))]
  exact X1_none f (by unfold prB; rw [h.1.1.1, h.1.1.2, h.1.2]; rfl) _ _ _ _
theorem names_code : callW X A 0 0 7 [] [] = some (Bo true, []) :=
  run_W XN_none (fun p h => by cases h) 100000 300 EN rfl _ _ _ _ _ _ rfl (by kernel_rfl)
end Go.Proofs.Ytgbpioccaenjaaa
