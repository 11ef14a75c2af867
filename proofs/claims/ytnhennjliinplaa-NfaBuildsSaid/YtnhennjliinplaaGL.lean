/- Arguments: states, texts. -/
import Derived.Test.YtnhennjliinplaaGE
import Derived.Test.YtnhennjliinplaaSz
import Derived.Test.YtnhennjliinplaaRows
import Derived.Test.YtnhennjliinplaaGI
set_option linter.all false
namespace Go.Proofs.Ytnhennjliinplaa
open Go Go.Hm

theorem args2 {P:Program}{d:Nat}{t1 t2:TypeId}{l:List AV}(h:ArgsS P d [t1,t2] l):∃a b,l=[a,b]∧ArgS P d t1 a∧ArgS P d t2 b:=by
 match l,h with
 | [a,b],⟨h1,h2,_⟩=>exact⟨a,b,rfl,h1,h2⟩
set_option maxRecDepth 100000 in
theorem arg_str {a:AV}(h:ArgS Try.prog 8 9 a):∃l:List UInt8,a=Sg l:=by
 simp only[ArgS,Try.underlying9,TyS]at h
 obtain⟨s,h,_⟩:=h
 simp only[List.cons.injEq,and_true]at h
 obtain⟨⟨l⟩⟩:=s
 exact⟨l,h⟩
set_option maxRecDepth 100000 in
theorem rows_ints {d:Nat}:∀{rows:List (List AV)},(∀r∈rows,TyC Try.prog (d+1) 3 r)→∃l:List Int,rows.flatten=ints l∧rows.length=l.length
 | [],_=>⟨[],rfl,rfl⟩
 | r::rows,h=>by
  obtain⟨l,h1,h2⟩:=rows_ints fun q hq=>h q (List.mem_cons_of_mem _ hq)
  have hr:=h r (List.mem_cons_self ..)
  simp only[TyC,Try.underlying3]at hr
  obtain⟨n,rfl,_⟩:=hr
  exact⟨n::l,by rw[List.flatten_cons,h1];rfl,by rw[List.length_cons,h2];rfl⟩
set_option maxRecDepth 100000 in
theorem slice_ints {d:Nat}{r:List AV}(h:TyS Try.prog (d+2) 33 r):∃l:List Int,r=[.sl l.length (ints l)]∧l.length*8≤reachBytes:=by
 unfold TyS at h
 rw[Try.underlying33]at h
 obtain⟨rows,rfl,_,hs,h⟩:=h
 obtain⟨l,h1,h2⟩:=rows_ints (d:=d) fun q hq=>(h q hq).tyC
 have e:Try.prog.bytesOf 3=8:=by kernel_rfl
 rw[e,h2]at hs
 exact⟨l,by rw[h1,h2],hs⟩
set_option maxRecDepth 100000 in
theorem words {d:Nat}:∀{rows:List (List AV)},(∀r∈rows,TyC Try.prog (d+1) 45 r)→∃l:List Int,rows.flatten=l.map U∧rows.length=l.length
 | [],_=>⟨[],rfl,rfl⟩
 | r::rows,h=>by
  obtain⟨l,h1,h2⟩:=words fun q hq=>h q (List.mem_cons_of_mem _ hq)
  have hr:=h r (List.mem_cons_self ..)
  simp only[TyC,Try.underlying45]at hr
  obtain⟨n,rfl,_⟩:=hr
  exact⟨n::l,by rw[List.flatten_cons,h1];rfl,by rw[List.length_cons,h2];rfl⟩
set_option maxRecDepth 100000 in
theorem classes {d:Nat}:∀{rows:List (List AV)},(∀r∈rows,TyC Try.prog (d+2) 47 r)→∃l:List Int,rows.flatten=l.map U∧l.length=rows.length*4
 | [],_=>⟨[],rfl,rfl⟩
 | r::rows,h=>by
  obtain⟨l,h1,h2⟩:=classes fun q hq=>h q (List.mem_cons_of_mem _ hq)
  have hr:=h r (List.mem_cons_self ..)
  simp only[TyC,Try.underlying47]at hr
  obtain⟨parts,rfl,hn,hp⟩:=hr
  obtain⟨k,k1,k2⟩:=words (d:=d) fun q hq=>hp q hq
  exact⟨k++l,by rw[List.flatten_cons,h1,k1,List.map_append],by rw[List.length_append,h2,←k2,hn,List.length_cons];omega⟩
end Go.Proofs.Ytnhennjliinplaa

namespace Go.Proofs.Ytnhennjliinplaa
open Go Go.Hm
set_option maxRecDepth 100000 in
theorem arg_node {d:Nat}{r:List AV}(h:TyS Try.prog (d+3) 60 r):∃x:Nd,r=ndC x∧x.cs.length=4∧RowI x.kv x.ks∧x.ks.length*8≤reachBytes∧Cl4 x:=by
 unfold TyS at h
 rw[Try.underlying60]at h
 obtain⟨parts,rfl,h1,h2⟩:=h
 match parts,h1 with
 | [p,q,r],_=>
  have hp:=h2 0 _ p rfl rfl
  have hq:=h2 1 _ q rfl rfl
  have hr:=h2 2 _ r rfl rfl
  have hp:TyS Try.prog (d+2) 3 p:=hp
  have hq:TyS Try.prog (d+2) 47 q:=hq
  obtain⟨ks,rfl,hk⟩:=slice_ints (d:=d) hr
  simp only[TyS,Try.underlying3]at hp
  obtain⟨kd,rfl,_⟩:=hp
  obtain⟨cl,c1,c2⟩:=classes (d:=d) (rows:=[q]) fun z hz=>by
   simp at hz;subst hz
   exact hq.tyC
  have c1:q=cl.map U:=by simpa using c1
  have c2:cl.length=4:=by simpa using c2
  subst c1
  match cl,c2 with
  | [a,b,c,e],_=>
   exact⟨⟨kd,[U a,U b,U c,U e],ks,.sl ks.length (ints ks)⟩,rfl,rfl,.inr rfl,hk,a,b,c,e,rfl⟩
set_option maxRecDepth 100000 in
theorem rows_nodes {d:Nat}:∀{rows:List (List AV)},(∀r∈rows,TyS Try.prog (d+3) 60 r)→∃R:List Nd,rows.flatten=rxC R∧rows.length=R.length∧∀x∈R,x.cs.length=4∧RowI x.kv x.ks∧x.ks.length*8≤reachBytes∧Cl4 x
 | [],_=>⟨[],rfl,rfl,fun _ h=>nomatch h⟩
 | r::rows,h=>by
  obtain⟨R,h1,h2,h3⟩:=rows_nodes fun q hq=>h q (List.mem_cons_of_mem _ hq)
  obtain⟨x,rfl,hx⟩:=arg_node (h r (List.mem_cons_self ..))
  exact⟨x::R,by rw[List.flatten_cons,h1];rfl,by rw[List.length_cons,h2];rfl,fun y hy=>by
   rcases List.mem_cons.1 hy with rfl | hy
   ·exact hx
   ·exact h3 y hy⟩
def rxV (R:List Nd):AV:=.sl R.length (rxC R)
set_option maxRecDepth 100000 in
theorem arg_regex {d:Nat}{r:List AV}(h:TyS Try.prog (d+4) 26 r):∃R:List Nd,r=[rxV R]∧RxI (rxV R) R:=by
 unfold TyS at h
 rw[Try.underlying26]at h
 obtain⟨rows,rfl,_,_,h⟩:=h
 obtain⟨R,h1,h2,h3⟩:=rows_nodes (d:=d) h
 have e:reachBytes=140737488351232:=rfl
 refine⟨R,by rw[h1,h2];rfl,.inr rfl,fun x hx=>⟨(h3 x hx).1,(h3 x hx).2.1⟩,fun x hx=>?_,fun x hx=>(h3 x hx).2.2.2⟩
 have:=(h3 x hx).2.2.1
 rw[e]at this
 omega
set_option maxRecDepth 100000 in
theorem rows_regex {d:Nat}:∀{rows:List (List AV)},(∀r∈rows,TyS Try.prog (d+4) 26 r)→∃Ls:List (List Nd),rows.flatten=Ls.map rxV∧rows.length=Ls.length∧∀R∈Ls,RxI (rxV R) R
 | [],_=>⟨[],rfl,rfl,fun _ h=>nomatch h⟩
 | r::rows,h=>by
  obtain⟨Ls,h1,h2,h3⟩:=rows_regex fun q hq=>h q (List.mem_cons_of_mem _ hq)
  obtain⟨R,rfl,hR⟩:=arg_regex (d:=d) (h r (List.mem_cons_self ..))
  exact⟨R::Ls,by rw[List.flatten_cons,h1];rfl,by rw[List.length_cons,h2];rfl,fun y hy=>by
   rcases List.mem_cons.1 hy with rfl | hy
   ·exact hR
   ·exact h3 y hy⟩
set_option maxRecDepth 100000 in
theorem arg_regs {a:AV}(h:ArgS Try.prog 8 22 a):∃Ls:List (List Nd),a= .sl Ls.length (Ls.map rxV)∧RsI (.sl Ls.length (Ls.map rxV)) (Ls.map rxV) Ls∧Ls.length≤1000000000000000:=by
 unfold ArgS at h
 rw[Try.underlying22]at h
 have h:TyS Try.prog 8 22 [a]:=h
 unfold TyS at h
 rw[Try.underlying22]at h
 obtain⟨rows,h0,_,hs,h⟩:=h
 obtain⟨Ls,h1,h2,h3⟩:=rows_regex (d:=3) h
 simp only[List.cons.injEq,and_true]at h0
 have e:reachBytes=140737488351232:=rfl
 have e2:Try.prog.bytesOf 26=24:=by kernel_rfl
 rw[e,e2]at hs
 refine⟨Ls,by rw[h0,h1,h2],⟨.inr rfl,fun j R hj=>⟨rxV R,by rw[List.getElem?_map,hj];rfl,h3 R (List.mem_of_getElem? hj)⟩⟩,by omega⟩
end Go.Proofs.Ytnhennjliinplaa
