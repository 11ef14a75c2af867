/- nfa.Run: walked. -/
import Derived.Test.YtnhennjliinplaaU
set_option linter.all false
namespace Go.Proofs.Ytnhennjliinplaa
open Go Go.Hm

section
variable {lk lim b : Nat} {H : Heap} {N : Nf} {cv nv rv sv : AV} {vs : List AV} {set : List Int}
theorem stepM_few (hx : ∀ l ∈ N.nx,InB N.k l) (set : List Int) (b : Nat) : InB N.k (stepM N set b) ∧ (stepM N set b).length ≤ N.k:=by
 obtain ⟨h1,_⟩:=in_hitS (b:=b) hx set [] in_nil List.nodup_nil
 have h2 : InB N.k (stepM N set b):=fun x h => h1 x (mem_normI.1 h)
 refine ⟨h2,nd_len _ _ ?_ h2⟩
 exact List.Pairwise.imp (fun h => Int.ne_of_lt h) (up_normI _)
end
end Go.Proofs.Ytnhennjliinplaa
