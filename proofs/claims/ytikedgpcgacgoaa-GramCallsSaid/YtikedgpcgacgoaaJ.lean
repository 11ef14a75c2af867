import Derived.Test.YtikedgpcgacgoaaI
set_option linter.unusedSimpArgs false
set_option linter.unusedVariables false
namespace Go.Proofs.Ytikedgpcgacgoaa
open Go Go.Hm

def derV (g : Gm) (tok : Bool) : AV := if chkE g = 0 then .sl g.n.toNat (bools (derM g tok)) else .e0
theorem derV_arg (g : Gm) (tok : Bool) : (derV g tok = .e0) ∨ ∃ n c, derV g tok = .sl n c := by
  unfold derV
  split
  · exact .inr ⟨_, _, rfl⟩
  · exact .inl rfl
section
variable {lk lim : Nat} {H : Heap} (g : Gm) (hl : g.ps.length ≤ 1000000) (hr : ∀ p ∈ g.ps, p.r.length ≤ 1000000) (hlk : lk ≤ H.length)
include hl hr hlk
theorem null_code : callW X A lk lim 12 [gV g] H = some (derV g false, H) := by
  have k := der_code (lk := lk) (lim := H.length) (H := H) g false hl hr hlk
  have e : (if chkE g = 0 then AV.sl g.n.toNat (bools (derM g false)) else AV.e0) = derV g false := rfl
  rw [e] at k
  refine wb_callB [1] rfl A12 rfl rfl ?_
  unfold t12B
  simp only [gV, Gm.cells] at k
  generalize callW X A = C at k ⊢
  rcases derV_arg g false with h | ⟨n, c, h⟩ <;> rw [h] at k ⊢ <;> simp [Gm.cells, k]
theorem prod_code : callW X A lk lim 16 [gV g] H = some (derV g true, H) := by
  have k := der_code (lk := lk) (lim := H.length) (H := H) g true hl hr hlk
  have e : (if chkE g = 0 then AV.sl g.n.toNat (bools (derM g true)) else AV.e0) = derV g true := rfl
  rw [e] at k
  refine wb_callB [1] rfl A16 rfl rfl ?_
  unfold t16B
  simp only [gV, Gm.cells] at k
  generalize callW X A = C at k ⊢
  rcases derV_arg g true with h | ⟨n, c, h⟩ <;> rw [h] at k ⊢ <;> simp [Gm.cells, k]
theorem rnull_code : callW X A lk lim 29 [gV g] H = some (derV g false, H) := by
  have k := rder_code (lk := lk) (lim := H.length) (H := H) g false hl hr hlk
  have e : (if chkE g = 0 then AV.sl g.n.toNat (bools (derM g false)) else AV.e0) = derV g false := rfl
  rw [e] at k
  refine wb_callB [1] rfl A29 rfl rfl ?_
  unfold t29B
  simp only [gV, Gm.cells] at k
  generalize callW X A = C at k ⊢
  rcases derV_arg g false with h | ⟨n, c, h⟩ <;> rw [h] at k ⊢ <;> simp [Gm.cells, k]
theorem rprod_code : callW X A lk lim 30 [gV g] H = some (derV g true, H) := by
  have k := rder_code (lk := lk) (lim := H.length) (H := H) g true hl hr hlk
  have e : (if chkE g = 0 then AV.sl g.n.toNat (bools (derM g true)) else AV.e0) = derV g true := rfl
  rw [e] at k
  refine wb_callB [1] rfl A30 rfl rfl ?_
  unfold t30B
  simp only [gV, Gm.cells] at k
  generalize callW X A = C at k ⊢
  rcases derV_arg g true with h | ⟨n, c, h⟩ <;> rw [h] at k ⊢ <;> simp [Gm.cells, k]
end

/-! ### What stands in what 0 derives -/
def rchS (g : Gm) (o : List Bool) (s : Int) : List Bool := if s < g.t then o else if o.getD (s - g.t).toNat false = true then o else o.set (s - g.t).toNat true
def rchP (g : Gm) (o : List Bool) (p : Pr) : List Bool := if o.getD p.l.toNat false = true then p.r.foldl (rchS g) o else o
theorem rchS_grows (g : Gm) (s : Int) : Grows fun o => rchS g o s := fun o => by
  simp only [rchS]
  split
  · exact .inl rfl
  · split
    · exact .inl rfl
    · rename_i h; exact set_grows o _ h
theorem rchP_grows (g : Gm) (p : Pr) : Grows fun o => rchP g o p := fun o => by
  simp only [rchP]
  split
  · exact rnd_grows (st := rchS g) (fun s => rchS_grows g s) p.r o
  · exact .inl rfl
def rchM (g : Gm) : List Bool := fin (rnd (rchP g) g.ps) ((List.replicate g.n.toNat false).set 0 true)
end Go.Proofs.Ytikedgpcgacgoaa
