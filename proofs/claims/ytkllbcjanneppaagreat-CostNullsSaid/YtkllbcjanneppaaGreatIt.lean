import Derived.Test.YtkllbcjanneppaaGreatHmG12
set_option linter.unusedSimpArgs false
set_option linter.unusedVariables false
namespace Go.Proofs.YtkllbcjanneppaaGreat
open Go Go.Hm Go.RowKit

def gM:List AV→Option (List Int)
 | []=>some []
 | .val (.int .i64 n)::r=>match gM r with
  | some l=>some (n::l)
  | none=>none
 | _=>none
def eB:List Int→Nat→List (List Value)
 | [],_=>[]
 | x::r,i=>eB r (i+1)++[[.int .i64 (i:Nat),.int .i64 x]]
def az (f:FuncId)(cap:List AV)(_:Heap):Option (List (List Value)):=
 if f=90 then match cap with
  | [.rop [.sl n cs] 0]=>match gM cs with
   | some r=>if r.length=n∧n≤1000000000 then some (eB r 0) else none
   | none=>none
  | [.rop [.e0] 0]=>some []
  | _=>none
 else none
theorem mI:∀r:List Int,gM (ints r)=some r
 | []=>rfl
 | x::r=>by
  show gM (I x::ints r)=_;simp only [gM,mI r]
theorem mJ (H:Heap)(r:List Int)(h:r.length≤1000000000):az 90 [.rop [.sl r.length (ints r)] 0] H=some (eB r 0):=by
 unfold az;rw [if_pos rfl];simp [mI,h]
theorem oA:∀{cs:List AV} {r:List Int},gM cs=some r→cs=ints r
 | [],r,h=>by
  simp only [gM,Option.some.injEq] at h;subst h;rfl
 | v::cs,r,h=>by
  unfold gM at h;split at h
  ·rename_i e;cases e
  ·rename_i n q e;cases e;cases hq:gM cs with
   | none=>rw [hq] at h;cases h
   | some l=>
    rw [hq] at h;simp only [Option.some.injEq] at h;subst h;rw [oA hq];rfl
  ·cases h
theorem b8:∀(r:List Int) (i:Nat),(eB r i).length=r.length
 | [],_=>rfl
 | x::r,i=>by simp [eB,b8 r]
theorem eO:∀(r:List Int) (i j:Nat) (h:j < r.length),(eB r i)[r.length - 1 - j]?=some [.int .i64 ((i+j:Nat):Int),.int .i64 r[j]]
 | x::r,i,0,h=>by
  unfold eB;rw [List.getElem?_append_right (by rw [b8];simp),b8]
  simp
 | x::r,i,j+1,h=>by
  have hj:j < r.length:=by simpa using h
  unfold eB;rw [show (x::r).length - 1 - (j+1)=r.length - 1 - j from by simp;omega,List.getElem?_append_left (by rw [b8];omega),eO r (i+1) j hj]
  simp only [List.getElem_cons_succ];rw [show i+1+j=i+(j+1) from by omega]
end Go.Proofs.YtkllbcjanneppaaGreat
