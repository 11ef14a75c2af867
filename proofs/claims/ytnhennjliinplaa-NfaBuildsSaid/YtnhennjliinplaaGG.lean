/- Rows compared: walked. -/
import Derived.Test.YtnhennjliinplaaGF
set_option linter.all false
namespace Go.Proofs.Ytnhennjliinplaa
open Go Go.Hm

noncomputable instance decAV:DecidableEq (List AV):=fun a b=>Classical.propDecidable (a=b)
theorem RowI.sl {v:AV}{l:List Int}(h:RowI v l)(hl:0<l.length):v= .sl l.length (ints l):=by
 rcases h with⟨_,h⟩ | h
 ·rw[h]at hl;simp at hl
 ·exact h
theorem RowI.arg {v:AV}{l:List Int}(h:RowI v l):argOk v=true:=by
 rcases h with⟨rfl,_⟩ | rfl<;>rfl
theorem ints_at {l:List Int}{i:Nat}{k:Int}(h:l[i]?=some k):(ints l)[i]?=some (I k):=by
 rw[ints_get,h];rfl
section
variable {lk lim:Nat}{H:Heap}{av bv:AV}{a b:List Int}
def ClI (v:AV)(k:Nat)(cl:List AV):Prop:=((v= .e0∧k=0)∨v= .sl k cl)∧cl.length=k*4∧∀c∈cl,∃z,c=U z
theorem ClI.sl {v:AV}{k:Nat}{cl:List AV}(h:ClI v k cl)(hl:0<k):v= .sl k cl:=by
 rcases h.1 with⟨_,h⟩ | h
 ·omega
 ·exact h
def cls (cl:List AV)(i:Nat):List AV:=(cl.drop (i*4)).take 4
variable {k:Nat}{ca cb:List AV}
end
end Go.Proofs.Ytnhennjliinplaa

namespace Go.Proofs.Ytnhennjliinplaa
open Go Go.Hm
def RwI (v:AV)(vs:List AV)(nx:List (List Int)):Prop:=((v= .e0∧nx=[])∨v= .sl nx.length vs)∧∀(j:Nat) l,nx[j]?=some l→∃v,vs[j]?=some v∧RowI v l
theorem RwI.sl {v:AV}{vs:List AV}{nx:List (List Int)}(h:RwI v vs nx)(hl:0<nx.length):v= .sl nx.length vs:=by
 rcases h.1 with⟨_,h⟩ | h
 ·rw[h]at hl;simp at hl
 ·exact h
theorem get_lt {α:Type}{l:List α}{i:Nat}{x:α}(h:l[i]?=some x):i<l.length:=(List.getElem?_eq_some_iff.1 h).1
theorem get_of {α:Type}{l:List α}{i:Nat}(h:i<l.length):∃x,l[i]?=some x:=⟨l[i],List.getElem?_eq_getElem h⟩
theorem get_some {α:Type}{l:List α}{i:Nat}{x:α}(h:l[i]?=some x)(hi:i<l.length):l[i]=x:=by
 rw[List.getElem?_eq_getElem hi]at h;simpa using h
section
variable {lk lim:Nat}{H:Heap}{av bv:AV}{va vb:List AV}{a b:List (List Int)}
end
theorem NfOk.cl {N:Nf}{cv nv rv:AV}{vs:List AV}(h:NfOk N cv nv rv vs):ClI cv N.k N.cl:=⟨h.c,h.lc,h.u⟩
theorem NfOk.nx {N:Nf}{cv nv rv:AV}{vs:List AV}(h:NfOk N cv nv rv vs):RwI nv vs N.nx:=⟨h.n,h.v⟩
abbrev NfE (N:Nf)(vs:List AV):Prop:=NfOk N (.sl N.k N.cl) (.sl N.nx.length vs) (.sl N.rl.length (ints N.rl)) vs
section
variable {lk lim:Nat}{H:Heap}{N M:Nf}{vs ws:List AV}
end
end Go.Proofs.Ytnhennjliinplaa

namespace Go.Proofs.Ytnhennjliinplaa
open Go Go.Hm
section
variable {lk lim:Nat}{H:Heap}{N M:Nf}{vs ws:List AV}{i:Nat}{x y:List Int}{C:Orc}{Q:Ex→Kt}{E:Env}
end
end Go.Proofs.Ytnhennjliinplaa

namespace Go.Proofs.Ytnhennjliinplaa
open Go Go.Hm
section
variable {lk lim:Nat}{H:Heap}{N:Nf}{vs:List AV}{i j:Nat}{l:List Int}{lv:AV}{C:Orc}{Q:Ex→Kt}{E:Env}
end
end Go.Proofs.Ytnhennjliinplaa
