/- The document's Ends, Rule, Go, Step, Run: walked. -/
import Derived.Test.YtnhennjliinplaaGG
set_option linter.all false
namespace Go.Proofs.Ytnhennjliinplaa
open Go Go.Hm
section
variable {lk lim:Nat}{H:Heap}{N:Nf}{vs:List AV}{sv:AV}{set:List Int}
end
end Go.Proofs.Ytnhennjliinplaa

namespace Go.Proofs.Ytnhennjliinplaa
open Go Go.Hm
theorem mk_mks {env:Env}{l:AO}{b n es bytes:Nat}{z:List AV}(h:ev env l=I (n:Int))(hz:z.length=es)(hr:n*bytes≤room):mkOp (.mks es bytes z l) env b=some (.hs b (n*es) 0 n es,.cells (repl n z)):=by
 have h2:(n:Int)*(bytes:Int)≤(room:Int):=by
  have:=Int.ofNat_le.2 hr
  simpa using this
 simp only[mkOp,h]
 rw[if_pos ⟨Int.natCast_nonneg n,h2,hz⟩]
 simp
def bF (k:Nat)(hit:List Int):List Bool:=(List.range k).map fun (j:Nat)=>decide ((j:Int)∈hit)
theorem bF_len (k:Nat)(hit:List Int):(bF k hit).length=k:=by simp[bF]
theorem bF_get {k j:Nat}(hit:List Int)(h:j<k):(bF k hit)[j]?=some (decide ((j:Int)∈hit)):=by
 unfold bF
 rw[List.getElem?_map,List.getElem?_range h];rfl
theorem bF_nil (k:Nat):repl k [Bo false]=bools (bF k []):=by
 have:∀n,repl n [Bo false]=List.replicate n (Bo false):=fun n=>by
  induction n with
  | zero=>rfl
  | succ n ih=>
   show [Bo false]++repl n [Bo false]=_
   rw[ih];rfl
 rw[this]
 apply List.ext_getElem?
 intro j
 rw[bools_get,List.getElem?_replicate]
 by_cases hj:j<k
 ·rw[bF_get _ hj,if_pos hj];simp
 ·rw[if_neg hj,List.getElem?_eq_none (by rw[bF_len];omega)];rfl
section
variable {lk lim:Nat}{H:Heap}{N:Nf}{vs:List AV}{sv lv:AV}{l set hit:List Int}{b i n:Nat}{C:Orc}{Q:Ex→Kt}{E:Env}
end
end Go.Proofs.Ytnhennjliinplaa

namespace Go.Proofs.Ytnhennjliinplaa
open Go Go.Hm
section
variable {lk lim:Nat}{H:Heap}{N:Nf}{vs:List AV}{sv:AV}{set:List Int}{b:Nat}
end
end Go.Proofs.Ytnhennjliinplaa
