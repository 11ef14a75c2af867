import Derived.Test.YtkllbcjanneppaaGreatHA
import Derived.Test.YtkllbcjanneppaaGreatRows
set_option maxRecDepth 100000
set_option linter.all false
namespace Go.Proofs.YtkllbcjanneppaaGreat
open Go Go.Hm

theorem RA {P:Program}{d:Nat}{t1 t2 t3 t4:TypeId}{l:List AV}(h:l5 P d [t1,t2,t3,t4] l):∃a b c e,l=[a,b,c,e]/\oN P d t1 a/\oN P d t2 b/\oN P d t3 c/\oN P d t4 e:=by
 match l,h with
 | [a,b,c,e],⟨h1,h2,h3,h4,_⟩=>exact⟨a,b,c,e,rfl,h1,h2,h3,h4⟩
theorem tc {d:Nat}:∀{rows:List (List AV)},(∀r∈rows,TyC Tryz.prog (d+1) 3 r)->∃l:List Int,rows.flatten=ints l/\rows.length=l.length
 | [],_=>⟨[],rfl,rfl⟩
 | r::rows,h=>by
  obtain⟨l,h1,h2⟩:=tc fun q hq=>h q (List.mem_cons_of_mem _ hq);have hr:=h r (List.mem_cons_self ..);simp only[TyC,Tryz.underlying3]at hr;obtain⟨n,rfl,_⟩:=hr;exact⟨n::l,by rw[List.flatten_cons,h1];rfl,by rw[List.length_cons,h2];rfl⟩
theorem rv {d:Nat}{r:List AV}(h:TyC Tryz.prog (d+2) 27 r):∃l:List Int,r=[.sl l.length (ints l)]:=by
 simp only[TyC,Tryz.underlying27]at h;obtain⟨rows,rfl,_,h⟩:=h;obtain⟨l,h1,h2⟩:=tc (d:=d) fun q hq=>h q hq;exact⟨l,by rw[h1,h2]⟩
theorem pw {d:Nat}{r:List AV}(h:TyC Tryz.prog (d+1) 3 r):∃n:Int,r=[I n]:=by
 simp only[TyC,Tryz.underlying3]at h;obtain⟨n,rfl,_⟩:=h;exact⟨n,rfl⟩
theorem Gv {d:Nat}{r:List AV}(h:TyC Tryz.prog (d+4) 35 r):∃p:Pr,r=p.cells:=by
 unfold TyC at h;rw[Tryz.underlying35]at h;obtain⟨parts,rfl,h1,h2⟩:=h
 match parts,h1 with
 | [p,q],_=>
  have hp:=h2 0 _ p rfl rfl;have hq:=h2 1 _ q rfl rfl;obtain⟨l,rfl⟩:=pw (d:=d+2) hp;obtain⟨r,rfl⟩:=rv (d:=d+1) hq;exact⟨⟨l,r⟩,rfl⟩
theorem rx {d:Nat}:∀{rows:List (List AV)},(∀r∈rows,TyC Tryz.prog (d+4) 35 r)->∃l:List Pr,rows.flatten=psC l/\rows.length=l.length
 | [],_=>⟨[],rfl,rfl⟩
 | r::rows,h=>by
  obtain⟨l,h1,h2⟩:=rx fun q hq=>h q (List.mem_cons_of_mem _ hq);obtain⟨p,rfl⟩:=Gv (h r (List.mem_cons_self ..));exact⟨p::l,by rw[List.flatten_cons,h1];rfl,by rw[List.length_cons,h2];rfl⟩
theorem xt {d:Nat}{r:List AV}(h:TyC Tryz.prog (d+5) 23 r):∃l:List Pr,r=[.sl l.length (psC l)]:=by
 simp only[TyC,Tryz.underlying23]at h;obtain⟨rows,rfl,_,h⟩:=h;obtain⟨l,h1,h2⟩:=rx (d:=d) fun q hq=>by
  have:=h q hq;simpa only[TyC] using this
 exact⟨l,by rw[h1,h2]⟩
theorem m3 {a:AV}(h:oN Tryz.prog 8 25 a):∃g,a=gV g:=by
 simp only[oN,Tryz.underlying25]at h;obtain⟨bs,rfl,h⟩:=h;unfold TyC at h;rw[Tryz.underlying25]at h;obtain⟨parts,rfl,h1,h2⟩:=h
 match parts,h1 with
 | [p,q,r,s],_=>
  obtain⟨t,rfl⟩:=pw (d:=6) (h2 0 _ p rfl rfl);obtain⟨n,rfl⟩:=pw (d:=6) (h2 1 _ q rfl rfl);obtain⟨k,rfl⟩:=pw (d:=6) (h2 2 _ r rfl rfl);obtain⟨ps,rfl⟩:=xt (d:=2) (h2 3 _ s rfl rfl);exact⟨⟨t,n,k,ps⟩,rfl⟩
theorem AJ {a:AV}(h:oN Tryz.prog 8 9 a):∃l:List UInt8,a=Sg l:=by
 simp only[oN,Tryz.underlying9,TyC]at h;obtain⟨s,h,_⟩:=h;simp only[List.cons.injEq,and_true]at h;obtain⟨⟨l⟩⟩:=s;exact⟨l,h⟩
theorem Ri {d:Nat}{r:List AV}(h:TyC Tryz.prog (d+1) 9 r):∃l:List UInt8,r=[Sg l]/\l.length<=9223372036854775807:=by
 simp only[TyC,Tryz.underlying9]at h;obtain⟨s,rfl,hs⟩:=h;obtain⟨⟨l⟩⟩:=s;exact⟨l,rfl,hs⟩
theorem A5 {d:Nat}:∀{rows:List (List AV)},(∀r∈rows,TyC Tryz.prog (d+1) 9 r)->∃l:List (List UInt8),rows.flatten=ay l/\rows.length=l.length/\∀x∈l,x.length<=9223372036854775807
 | [],_=>⟨[],rfl,rfl,fun _ h=>by cases h⟩
 | r::rows,h=>by
  obtain⟨l,h1,h2,h3⟩:=A5 fun q hq=>h q (List.mem_cons_of_mem _ hq);obtain⟨x,rfl,hx⟩:=Ri (h r (List.mem_cons_self ..));refine⟨x::l,by rw[List.flatten_cons,h1];rfl,by rw[List.length_cons,h2];rfl,fun y hy=>?_⟩
  rcases List.mem_cons.1 hy with rfl | hy
  ·exact hx
  ·exact h3 y hy
theorem Rb {d:Nat}{r:List AV}(h:TyC Tryz.prog (d+2) 85 r):∃l,r=[rowsV l]/\LRw l:=by
 unfold TyC at h;rw[Tryz.underlying85]at h;obtain⟨rows,he,hn,h⟩:=h;obtain⟨l,h1,h2,h3⟩:=A5 (d:=d) fun q hq=>h q hq;exact⟨l,by rw[he,h1,h2],⟨by rw[<-h2];exact hn,h3⟩⟩
theorem A6 {d:Nat}:∀{rows:List (List AV)},(∀r∈rows,TyC Tryz.prog (d+2) 85 r)->∃S:Ss,rows.flatten=f5 S/\rows.length=S.length/\∀l∈S,LRw l
 | [],_=>⟨[],rfl,rfl,fun _ h=>by cases h⟩
 | r::rows,h=>by
  obtain⟨S,h1,h2,h3⟩:=A6 fun q hq=>h q (List.mem_cons_of_mem _ hq);obtain⟨x,rfl,hx⟩:=Rb (h r (List.mem_cons_self ..));refine⟨x::S,by rw[List.flatten_cons,h1];rfl,by rw[List.length_cons,h2];rfl,fun y hy=>?_⟩
  rcases List.mem_cons.1 hy with rfl | hy
  ·exact hx
  ·exact h3 y hy
theorem Rc {d:Nat}{r:List AV}(h:TyC Tryz.prog (d+3) 30 r):∃S:Ss,r=[.sl S.length (f5 S)]/\(∀l∈S,LRw l)/\S.length<=9223372036854775807:=by
 unfold TyC at h;rw[Tryz.underlying30]at h;obtain⟨rows,he,hn,h⟩:=h;obtain⟨S,h1,h2,h3⟩:=A6 (d:=d) fun q hq=>h q hq;exact⟨S,by rw[he,h1,h2],h3,by rw[<-h2];exact hn⟩
theorem QM {a:AV}(h:oN Tryz.prog 8 32 a):∃S:Ss,a= .agg [.sl S.length (f5 S)]/\(∀l∈S,LRw l)/\S.length<=9223372036854775807:=by
 simp only[oN,Tryz.underlying32]at h;obtain⟨bs,rfl,h⟩:=h;unfold TyC at h;rw[Tryz.underlying32]at h;obtain⟨parts,rfl,h1,h2⟩:=h
 match parts,h1 with
 | [p],_=>
  obtain⟨S,rfl,h3,h4⟩:=Rc (d:=4) (h2 0 _ p rfl rfl);exact⟨S,rfl,h3,h4⟩
theorem Rd {a:AV}(h:oN Tryz.prog 8 4 a):∃b:Bool,a=Bo b:=by
 simp only[oN,Tryz.underlying4,TyC]at h;obtain⟨b,h⟩:=h;simp only[List.cons.injEq,and_true]at h;exact⟨b,h⟩
end Go.Proofs.YtkllbcjanneppaaGreat
