import Derived.Test.YtdmaganalpamlaaT
set_option linter.unusedSimpArgs false
set_option linter.unusedVariables false
namespace Go.Proofs.Ytdmaganalpamlaa
open Go Go.Hm

def prB (f : Nat) : Bool := Nat.beq f 58 || Nat.beq f 36
noncomputable def E : Orc := callE (gF X0 prB A []) 100000 300
theorem X0_none (f : FuncId) (h : prB f = false) (lk lim : Nat) (l : List AV) (H : Heap) : X0 lk lim f l H = none := by
  simp only [prB, Bool.or_eq_false_iff] at h
  show withRows 58 36 (primX prims) lk lim f l H = none
  unfold withRows
  rw [if_neg (fun e => by subst e; exact absurd h.1 (by decide)), if_neg (fun e => by subst e; exact absurd h.2 (by decide))]
  rfl
theorem lives0 : callW X0 A 0 0 9 [] [] = some (Bo true, []) :=
  run_W X0_none (fun p h => by cases h) 100000 300 E rfl _ _ _ _ _ _ rfl (by kernel_rfl)
theorem lives_at {lk lim : Nat} {H : Heap} : callW X A lk lim 9 [] H = some (Bo true, H) := callW_prim withConst_at
def prN (f : Nat) : Bool := Nat.beq f 58 || Nat.beq f 36 || Nat.beq f 9
noncomputable def EN : Orc := callE (gF X prN A []) 100000 300
end Go.Proofs.Ytdmaganalpamlaa
