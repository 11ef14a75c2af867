import Derived.Test.YtkllbcjanneppaaGreatHA
import Derived.Test.YtkllbcjanneppaaGreatRows
set_option maxRecDepth 100000
set_option linter.unusedSimpArgs false
set_option linter.unusedVariables false
namespace Go.Proofs.YtkllbcjanneppaaGreat
open Go Go.Hm

theorem Pe {P:Program}{d:Nat}{t1:TypeId}{l:List AV}(h:l5 P d [t1] l):∃a,l=[a]/\oN P d t1 a:=by
 match l,h with
 | [a],⟨h1,_⟩=>exact ⟨a,rfl,h1⟩
theorem Gu {P:Program}{d:Nat}{t1 t2:TypeId}{l:List AV}(h:l5 P d [t1,t2] l):∃a b,l=[a,b]/\oN P d t1 a/\oN P d t2 b:=by
 match l,h with
 | [a,b],⟨h1,h2,_⟩=>exact ⟨a,b,rfl,h1,h2⟩
theorem tc {d:Nat}:∀{rows:List (List AV)},(∀r∈rows,TyC Tryz.prog (d+1) 3 r)->∃l:List Int,rows.flatten=ints l/\rows.length=l.length
 | [],_=>⟨[],rfl,rfl⟩
 | r::rows,h=>by
  obtain ⟨l,h1,h2⟩:=tc fun q hq=>h q (List.mem_cons_of_mem _ hq);have hr:=h r (List.mem_cons_self ..);simp only [TyC,Tryz.underlying3] at hr;obtain ⟨n,rfl,_⟩:=hr;exact ⟨n::l,by rw [List.flatten_cons,h1];rfl,by rw [List.length_cons,h2];rfl⟩
theorem rv {d:Nat}{r:List AV}(h:TyC Tryz.prog (d+2) 27 r):∃l:List Int,r=[.sl l.length (ints l)]:=by
 simp only [TyC,Tryz.underlying27] at h;obtain ⟨rows,rfl,_,h⟩:=h;obtain ⟨l,h1,h2⟩:=tc (d:=d) fun q hq=>h q hq;exact ⟨l,by rw [h1,h2]⟩
theorem pw {d:Nat}{r:List AV}(h:TyC Tryz.prog (d+1) 3 r):∃n:Int,r=[I n]:=by
 simp only [TyC,Tryz.underlying3] at h;obtain ⟨n,rfl,_⟩:=h;exact ⟨n,rfl⟩
theorem Gv {d:Nat}{r:List AV}(h:TyC Tryz.prog (d+4) 35 r):∃p:Pr,r=p.cells:=by
 unfold TyC at h;rw [Tryz.underlying35] at h;obtain ⟨parts,rfl,h1,h2⟩:=h
 match parts,h1 with
 | [p,q],_=>
  have hp:=h2 0 _ p rfl rfl;have hq:=h2 1 _ q rfl rfl;obtain ⟨l,rfl⟩:=pw (d:=d+2) hp;obtain ⟨r,rfl⟩:=rv (d:=d+1) hq;exact ⟨⟨l,r⟩,rfl⟩
theorem rx {d:Nat}:∀{rows:List (List AV)},(∀r∈rows,TyC Tryz.prog (d+4) 35 r)->∃l:List Pr,rows.flatten=psC l/\rows.length=l.length
 | [],_=>⟨[],rfl,rfl⟩
 | r::rows,h=>by
  obtain ⟨l,h1,h2⟩:=rx fun q hq=>h q (List.mem_cons_of_mem _ hq);obtain ⟨p,rfl⟩:=Gv (h r (List.mem_cons_self ..));exact ⟨p::l,by rw [List.flatten_cons,h1];rfl,by rw [List.length_cons,h2];rfl⟩
theorem xt {d:Nat}{r:List AV}(h:TyC Tryz.prog (d+5) 23 r):∃l:List Pr,r=[.sl l.length (psC l)]:=by
 simp only [TyC,Tryz.underlying23] at h;obtain ⟨rows,rfl,_,h⟩:=h;obtain ⟨l,h1,h2⟩:=rx (d:=d) fun q hq=>by
  have:=h q hq;simpa only [TyC] using this
 exact ⟨l,by rw [h1,h2]⟩
theorem m3 {a:AV}(h:oN Tryz.prog 8 25 a):∃g,a=gV g:=by
 simp only [oN,Tryz.underlying25] at h;obtain ⟨bs,rfl,h⟩:=h;unfold TyC at h;rw [Tryz.underlying25] at h;obtain ⟨parts,rfl,h1,h2⟩:=h
 match parts,h1 with
 | [p,q,r,s],_=>
  obtain ⟨t,rfl⟩:=pw (d:=6) (h2 0 _ p rfl rfl);obtain ⟨n,rfl⟩:=pw (d:=6) (h2 1 _ q rfl rfl);obtain ⟨k,rfl⟩:=pw (d:=6) (h2 2 _ r rfl rfl);obtain ⟨ps,rfl⟩:=xt (d:=2) (h2 3 _ s rfl rfl);exact ⟨⟨t,n,k,ps⟩,rfl⟩
theorem Gw {a:AV}(h:oN Tryz.prog 8 27 a):∃l:List Int,a= .sl l.length (ints l):=by
 simp only [oN,Tryz.underlying27] at h;obtain ⟨l,he⟩:=rv (d:=6) h;exact ⟨l,by simpa using he⟩
theorem AJ {a:AV}(h:oN Tryz.prog 8 9 a):∃l:List UInt8,a=Sg l:=by
 simp only [oN,Tryz.underlying9,TyC] at h;obtain ⟨s,h,_⟩:=h;simp only [List.cons.injEq,and_true] at h;obtain ⟨⟨l⟩⟩:=s;exact ⟨l,h⟩
end Go.Proofs.YtkllbcjanneppaaGreat
