import Derived.Test.YtdmaganalpamlaaT
set_option linter.unusedSimpArgs false
set_option linter.unusedVariables false
namespace Go.Proofs.Ytdmaganalpamlaa
open Go Go.Hm

/-! ### The chapter's examples -/
def prB (f : Nat) : Bool := Nat.beq f 58 || Nat.beq f 36
noncomputable def E : Orc := callE (gF X0 prB A []) 100000 300
theorem X0_none (f : FuncId) (h : prB f = false) (lk lim : Nat) (l : List AV) (H : Heap) : X0 lk lim f l H = none := by
  simp only [prB, Bool.or_eq_false_iff] at h
  show withRows 58 36 (primX prims) lk lim f l H = none
  unfold withRows
  rw [if_neg (fun e => by subst e; exact absurd h.1 (by decide)), if_neg (fun e => by subst e; exact absurd h.2 (by decide))]
  rfl
theorem lives0 : callW X0 A 0 0 9 [] [] = some (Bo true, []) :=
  run_W X0_none (fun p h => by cases h) 100000 300 E rfl _ _ _ _ _ _ rfl (by kernel_rfl)
theorem lives_at {lk lim : Nat} {H : Heap} : callW X A lk lim 9 [] H = some (Bo true, H) := callW_prim withConst_at
def prN (f : Nat) : Bool := Nat.beq f 58 || Nat.beq f 36 || Nat.beq f 9
noncomputable def EN : Orc := callE (gF X prN A []) 100000 300
theorem XN_none (f : FuncId) (h : prN f = false) (lk lim : Nat) (l : List AV) (H : Heap) : X lk lim f l H = none := by
  simp only [prN, Bool.or_eq_false_iff] at h
  show withConst 9 (.bool true) X0 lk lim f l H = none
  unfold withConst
  rw [if_neg (fun e => by obtain ⟨rfl, _⟩ := e; exact absurd h.2 (by decide))]
  exact X0_none f (by unfold prB; rw [h.1.1, h.1.2]; rfl) _ _ _ _
theorem names_code : callW X A 0 0 6 [] [] = some (Bo true, []) :=
  run_W XN_none (fun p h => by cases h) 100000 300 EN rfl _ _ _ _ _ _ rfl (by kernel_rfl)
end Go.Proofs.Ytdmaganalpamlaa
