import Derived.Test.YtkllbcjanneppaaGreatHmG12
set_option linter.all false
namespace Go.Proofs.YtkllbcjanneppaaGreat
open Go Go.Hm Go.RowKit

def iK:List AV->Option (List Int)
 | []=>some []
 | .val (.int .i64 n)::r=>match iK r with
  | some l=>some (n::l)
  | none=>none
 | _=>none
def e8:List Int->Nat->List (List Value)
 | [],_=>[]
 | x::r,i=>e8 r (i+1)++[[.int .i64 (i:Nat),.int .i64 x]]
def az (f:FuncId)(cap:List AV)(_:Heap):Option (List (List Value)):=
 if f=90 then match cap with
  | [.rop [.sl n cs] 0]=>match iK cs with
   | some r=>if r.length=n/\n<=1000000000 then some (e8 r 0) else none
   | none=>none
  | [.rop [.e0] 0]=>some []
  | _=>none
 else none
theorem oq:∀r:List Int,iK (ints r)=some r
 | []=>rfl
 | x::r=>by
  show iK (I x::ints r)=_;simp only[iK,oq r]
theorem ot (H:Heap)(r:List Int)(h:r.length<=1000000000):az 90 [.rop [.sl r.length (ints r)] 0] H=some (e8 r 0):=by
 unfold az;rw[if_pos rfl];simp[oq,h]
theorem qB:∀{cs:List AV} {r:List Int},iK cs=some r->cs=ints r
 | [],r,h=>by
  simp only[iK,RZ]at h;subst h;rfl
 | v::cs,r,h=>by
  unfold iK at h;split at h
  ·rename_i e;cases e
  ·rename_i n q e;cases e;cases hq:iK cs with
   | none=>rw[hq]at h;cases h
   | some l=>
    rw[hq]at h;simp only[RZ]at h;subst h;rw[qB hq];rfl
  ·cases h
theorem cx:∀(r:List Int) (i:Nat),(e8 r i).length=r.length
 | [],_=>rfl
 | x::r,i=>by simp[e8,cx r]
theorem fu:∀(r:List Int) (i j:Nat) (h:j<r.length),(e8 r i)[r.length-1-j]?=some [.int .i64 ((i+j:Nat):Int),.int .i64 r[j]]
 | x::r,i,0,h=>by
  unfold e8;rw[List.getElem?_append_right (by rw[cx];simp),cx]
  simp
 | x::r,i,j+1,h=>by
  have hj:j<r.length:=by simpa using h
  unfold e8;rw[show (x::r).length-1-(j+1)=r.length-1-j from by simp;omega,List.getElem?_append_left (by rw[cx];omega),fu r (i+1) j hj]
  simp only[List.getElem_cons_succ];rw[show i+1+j=i+(j+1) from by omega]
end Go.Proofs.YtkllbcjanneppaaGreat
