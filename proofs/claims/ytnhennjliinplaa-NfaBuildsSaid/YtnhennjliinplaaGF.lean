/- Step, Rule of a set that lies in memory. -/
import Derived.Test.YtnhennjliinplaaGE
set_option linter.all false
namespace Go.Proofs.Ytnhennjliinplaa
open Go Go.Hm
section
variable {lk lim b:Nat}{H:Heap}{N:Nf}{cv nv rv sv:AV}{vs:List AV}{set:List Int}
end
end Go.Proofs.Ytnhennjliinplaa

namespace Go.Proofs.Ytnhennjliinplaa
open Go Go.Hm

def eo (n:Int):AV×AV:=(I n,I 1)
def mE (l:List Int):List (AV×AV):=l.map eo
@[simp] theorem mE_nil:mE []=[]:=rfl
@[simp] theorem mE_len (l:List Int):(mE l).length=l.length:=by simp[mE]
end Go.Proofs.Ytnhennjliinplaa
