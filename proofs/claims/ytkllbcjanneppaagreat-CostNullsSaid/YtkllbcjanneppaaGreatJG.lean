import Derived.Test.YtkllbcjanneppaaGreatJF
import Derived.Test.YtkllbcjanneppaaGreatJC
import Derived.Test.YtkllbcjanneppaaGreatJB
set_option maxRecDepth 20000
set_option linter.unusedSimpArgs false
set_option linter.unusedVariables false
namespace Go.Proofs.YtkllbcjanneppaaGreat
open Go Go.Hm

abbrev iV (l:List Int):AV:=.sl l.length (ints l)
def IV (v:AV)(l:List Int):Prop:=v=iV l∨(v= .e0∧l=[])
theorem Gd {lk lim:Nat}{H:Heap}(a b:List Int)(hl:a.length≤1000000000)(he:a.length=b.length):ah X A lk lim 13 [(iV a),(iV b)] H=some (Bo (decide (a=b)),H):=by
 refine aq [] rfl A13 rfl rfl ?_;unfold FF;generalize ah X A=C;have hne:((a.length:Int) != b.length)=false:=by simp [he]
 simp [hne];refine ax (σ:=Nat) (fun i=>[(0,(iV a)),(1,(iV b)),(5,I i)]) (fun _=>H)
  (fun i=>i≤a.length∧decide (a=b)=decide (a.drop i=b.drop i)) (fun i=>a.length - i) ?_ 0 (by simp) (by simp [ab,find]) rfl
 rintro i ⟨hi,hinv⟩;unfold qg;have w:IntKind.i64.wrap ((i:Int)+1)=(i:Int)+1:=aw (by omega) (by omega)
 by_cases hil:i < a.length
 ·have hil2:i < b.length:=by omega
  have ga:=fun h=>bE hil h;have gb:=fun h=>bE hil2 h;rw [List.drop_eq_getElem_cons hil,List.drop_eq_getElem_cons hil2] at hinv;generalize a[i]=x at ga hinv;generalize b[i]=y at gb hinv;have l1:=aY a;have l2:=aY b;by_cases hxy:x=y
  ·subst hxy;simp [hil,hil2,ga,gb,l1,l2,w,ao];exact ⟨i+1,⟨by omega,(decide_eq_decide.1 hinv).trans (by simp)⟩,by omega,by simp⟩
  ·have hb:(x != y)=true:=by simpa using hxy
   have hb2:¬x=y:=hxy;have:decide (a=b)=false:=by rw [hinv];simp [hxy]
   rw [this];simp [hil,hil2,ga,gb,l1,l2,hb,hb2]
 ·obtain rfl:i=a.length:=by omega
  rw [List.drop_length,he,List.drop_length] at hinv;have h2:decide (a=b)=true:=by rw [hinv];simp
  rw [h2];simp
theorem u5 {lk lim:Nat}{H:Heap}{va vb:AV}{a b:List Int}(ha:IV va a)(hb:IV vb b)(hl:a.length≤1000000000):ah X A lk lim 13 [va,vb] H=some (Bo (decide (a=b)),H):=by
 by_cases he:a.length=b.length
 ·by_cases h0:a=[]
  ·subst h0;have hb0:b=[]:=List.eq_nil_of_length_eq_zero he.symm;subst hb0;rw [show decide (([]:List Int)=[])=true from rfl];rcases ha with rfl | ⟨rfl,_⟩<;>rcases hb with rfl | ⟨rfl,_⟩;all_goals
    refine aq [] rfl A13 rfl rfl ?_;unfold FF;generalize ah X A=C;simp
   ·exact ax (σ:=Unit) (fun i=>[(0,(iV [])),(1,(iV [])),(5,I 0)]) (fun _=>H) (fun i=>True) (fun i=>0) (fun i _=>by unfold qg;simp) () trivial (by simp [ab,find]) rfl
   ·exact ax (σ:=Unit) (fun i=>[(0,(iV [])),(1,.e0),(5,I 0)]) (fun _=>H) (fun i=>True) (fun i=>0) (fun i _=>by unfold qg;simp) () trivial (by simp [ab,find]) rfl
   ·exact ax (σ:=Unit) (fun i=>[(0,.e0),(1,(iV [])),(5,I 0)]) (fun _=>H) (fun i=>True) (fun i=>0) (fun i _=>by unfold qg;simp) () trivial (by simp [ab,find]) rfl
   ·exact ax (σ:=Unit) (fun i=>[(0,.e0),(1,.e0),(5,I 0)]) (fun _=>H) (fun i=>True) (fun i=>0) (fun i _=>by unfold qg;simp) () trivial (by simp [ab,find]) rfl
  ·have h1:va=(iV a):=ha.resolve_right fun h=>h0 h.2;have h2:vb=(iV b):=hb.resolve_right fun h=>h0 (List.eq_nil_of_length_eq_zero (by rw [he,h.2];rfl))
   rw [h1,h2];exact Gd a b hl he
 ·have hne:((a.length:Int) != b.length)=true:=by simp;omega
  have hd:decide (a=b)=false:=decide_eq_false fun e=>he (by rw [e])
  rw [hd];rcases ha with rfl | ⟨rfl,rfl⟩<;>rcases hb with rfl | ⟨rfl,rfl⟩;all_goals
   refine aq [] rfl A13 rfl rfl ?_;unfold FF;generalize ah X A=C
   try simp only [List.length_nil,Int.natCast_zero] at hne he
   simp [hne]
  all_goals simp at he
end Go.Proofs.YtkllbcjanneppaaGreat

namespace Go.Proofs.YtkllbcjanneppaaGreat
open Go Go.Hm

theorem sK {lk lim:Nat}{H:Heap}(hlk:lk≤H.length)(g:Gm)(hl:g.ps.length≤1000000)(hr:∀p∈g.ps,p.r.length≤1000000):
  ∃tv,ah X A lk lim 12 [gV g] H=some (.agg [tv],H)∧TV tv (fR g):=by
 obtain ⟨tv,kb,hT⟩:=lq (lim:=H.length) hlk g hl hr;refine ⟨tv,?_,hT⟩;obtain ⟨l,a,b,x,hx⟩:=nc (iT g);rw [hx] at kb;refine aq [1,2,3,4] rfl A12 rfl rfl ?_;unfold Ku;generalize fi g=e at *;generalize fR g=T at *;generalize ah X A=C at *;obtain ⟨t,gn,k,ps⟩:=g;simp only [gV,Gm.cells] at kb ⊢;rcases hT with ⟨rfl,_⟩ | ⟨cs,rfl,_⟩;all_goals
  simp [kb,aj]
end Go.Proofs.YtkllbcjanneppaaGreat

namespace Go.Proofs.YtkllbcjanneppaaGreat
open Go Go.Hm

def rwK (s:List UInt8)(k:Int):List UInt8:=(s++[255]).take (min k.toNat (s.length+1))
end Go.Proofs.YtkllbcjanneppaaGreat

namespace Go.Proofs.YtkllbcjanneppaaGreat
open Go Go.Hm

def exC:Gm:=⟨1,1,1,[⟨0,[0,1]⟩,⟨0,[]⟩]⟩
theorem zK {lk lim:Nat}{H:Heap}:ah X A lk lim 10 [] H=some (gV exC,H):=by
 refine d8 (r:=(gV exC,H)) ?_;show cr 60 gu (cr 10 exG (dN 32 zj X0)) lk lim 10 [] H=_;unfold cr;rw [if_neg (by decide),if_pos rfl]
 rfl
theorem wY:AOk exC:=⟨br (by decide+kernel),by decide+kernel,by decide+kernel,by decide+kernel,by decide+kernel⟩
theorem yc:sJ exC=4:=by decide+kernel
end Go.Proofs.YtkllbcjanneppaaGreat

namespace Go.Proofs.YtkllbcjanneppaaGreat
open Go Go.Hm

end Go.Proofs.YtkllbcjanneppaaGreat

namespace Go.Proofs.YtkllbcjanneppaaGreat
open Go Go.Hm

theorem wZ {lk lim:Nat}{H:Heap}(g:Gm)(left:Int)(hl:g.ps.length≤1000000)(hr:∀p∈g.ps,p.r.length≤1000000)(hlk:lk≤H.length):ah X A lk lim 26 [gV g,I left] H=some (lZ g left,H):=by
 have kc:=fun (L:Nat)=>bK (lk:=lk) (lim:=L) (H:=H) g hl hr;refine aq [2] rfl A26 rfl rfl ?_;unfold Lq;unfold lZ;by_cases hc:chkE g=0;case neg=>
  rw [if_neg hc];have hx:(chkE g != 0)=true:=by simpa using hc
  generalize chkE g=e at *;obtain ⟨t,n,k,ps⟩:=g;simp only [gV,Gm.cells] at kc;generalize ah X A=C at kc ⊢;simp [Gm.cells,kc,hc,hx]
 have ok:=br hc;rw [if_pos hc];rw [hc] at kc;obtain ⟨t,n,k,ps⟩:=g;obtain ⟨t1,t2,n1,n2,k1,k2,l1,l2,okp⟩:=ok;simp only at t1 t2 n1 n2 k1 k2 l1 l2 okp;simp only [gV,Gm.cells] at kc ⊢;generalize ah X A=C at kc ⊢;simp [-ai,-af,-ar,kc];rw [af rfl,aC,ak,an,ae];simp [-ar];rw [ar];refine ax (σ:=Nat) (fun i=>[(1,I left),(2,.box [I t,I n,I k,.sl ps.length (psC ps)]),(5,oV H (ofN ps left i)),(6,I i)]) (fun i=>oH H (ofN ps left i))
  (fun i=>i≤ps.length) (fun i=>ps.length - i) ?_ 0 (by simp) (by simp [ofN,oV]) (by simp [ofN,oH])
 intro i hi;unfold Hn;have w1:IntKind.i64.wrap ((i:Int)+1)=(i:Int)+1:=aw (by omega) (by omega)
 by_cases hil:i < ps.length;case neg=>
  obtain rfl:i=ps.length:=by omega
  have hon:=fH ps left ps.length;generalize ofN ps left ps.length=o at hon ⊢;by_cases ho:o=[]
  ·subst ho;simp [oV,oH,slvN]
  ·simp [oV,oH,slvN,ho]
 have hs:=Ct hil;have hll:=aU ps;have h2:i * 2 < 2 * ps.length:=by omega
 have hsE:∀h,(psC ps)[i * 2]'h=I ps[i].l:=fun h=>(List.getElem?_eq_some_iff.1 hs).2;have hnx:=oM ps left i hil;have hon:=fH ps left i;generalize ps[i].l=pl at *;have done:∀(E:Env) (H':Heap),E=[(1,I left),(2,.box [I t,I n,I k,.sl ps.length (psC ps)]),(5,oV H (ofN ps left (i+1))),(6,I ((i:Int)+1))]→H'=oH H (ofN ps left (i+1))→
  ∃i':Nat,i'≤ps.length∧ps.length - i' < ps.length - i∧E=[(1,I left),(2,.box [I t,I n,I k,.sl ps.length (psC ps)]),(5,oV H (ofN ps left i')),(6,I i')]∧H'=oH H (ofN ps left i'):=fun E H' h1 h2=>⟨i+1,by omega,by omega,by rw [h1];simp,h2⟩
 generalize ofN ps left (i+1)=o' at hnx done;generalize ofN ps left i=o at hnx hon ⊢;have hro1:8≤aK:=by unfold aK;omega
 have hro:(o.length+1) * 8≤aK:=by unfold aK;omega
 by_cases hpl:pl=left
 ·rw [if_pos hpl] at hnx;by_cases ho:o=[]
  ·subst ho;simp [oV,oH,hil,hll,h2,hsE,hpl,w1,hro1,aM];rw [ao];refine done _ _ ?_ ?_
   ·simp [hnx,oV]
   ·simp [hnx,oH,nts]
  ·simp [oV,oH,hil,hll,h2,hsE,hpl,w1,hro,ho,aM,aR,dI,hlk];rw [ao];refine done _ _ ?_ ?_
   ·simp [hnx,oV,eD]
   ·simp [hnx,oH,nts,du]
 ·rw [if_neg hpl] at hnx;subst hnx;have hp2:(pl==left)=false:=by simpa using hpl
  by_cases ho:o'=[]
  ·subst ho;simp [oV,oH,hil,hll,h2,hsE,hpl,hp2,w1];rw [ao];exact done _ _ (by simp [oV]) (by simp [oH])
  ·simp [oV,oH,hil,hll,h2,hsE,hpl,hp2,w1,ho];rw [ao];exact done _ _ (by simp [oV,ho]) (by simp [oH,ho])
end Go.Proofs.YtkllbcjanneppaaGreat

namespace Go.Proofs.YtkllbcjanneppaaGreat
open Go Go.Hm

def nsI (t:Int)(nl dp:List Int)(is:List Bool):List Int→Int→Bool→Int→Int×Int
 | [],sum,_,m=>(sum,m)
 | x::r,sum,b,m=>
  if x < t then (-1,m) else
  if nl.getD (x - t).toNat 0 < 0 then
   (if (b&&is.getD (x - t).toNat false)=true then nsI t nl dp is r (-1) true (if b=true then max m (dp.getD (x - t).toNat 0+1) else m) else (-1,if b=true then max m (dp.getD (x - t).toNat 0+1) else m))
  else nsI t nl dp is r (if 0 < sum then sum+nl.getD (x - t).toNat 0 else sum) (b&&is.getD (x - t).toNat false) (if b=true then max m (dp.getD (x - t).toNat 0+1) else m)
def nsO (g:Gm)(nl dp:List Int)(is:List Bool):List Nat→Int→Int→Int×Int
 | [],least,m=>(least,m)
 | j::l,least,m=>
  nsO g nl dp is l (if 0 < (nsI g.t nl dp is (g.ps.getD j ⟨0,[]⟩).r 1 true m).1∧(least < 0∨(nsI g.t nl dp is (g.ps.getD j ⟨0,[]⟩).r 1 true m).1 < least) then (nsI g.t nl dp is (g.ps.getD j ⟨0,[]⟩).r 1 true m).1 else least) (nsI g.t nl dp is (g.ps.getD j ⟨0,[]⟩).r 1 true m).2
def mS (dp:List Int)(l:List Nat)(m:Int):Int:=l.foldl (fun m s=>max m (dp.getD s 0+1)) m
theorem JF (dp:List Int)(l l':List Nat)(m:Int):mS dp (l++l') m=mS dp l' (mS dp l m):=List.foldl_append
theorem sL (t:Int)(nl dp:List Int)(is:List Bool):∀(r:List Int) (b:Bool) (m:Int),(nsI t nl dp is r (-1) b m).1= -1
 | [],_,_=>rfl
 | x::r,b,m=>by
  simp only [nsI];split
  ·rfl
  split
  ·split
   ·exact sL t nl dp is r _ _
   ·rfl
  ·rw [if_neg (by omega)]
   exact sL t nl dp is r _ _
theorem yd (t:Int)(nl dp:List Int)(is:List Bool):∀(r:List Int) (sum:Int) (b:Bool) (m:Int),0 < sum→(nsI t nl dp is r sum b m).1=(bH t nl r sum).getD (-1)
 | [],_,_,_,_=>rfl
 | x::r,sum,b,m,h=>by
  simp only [nsI,bH];by_cases h1:x < t
  ·have hc:x < t∨nl.getD (x - t).toNat 0 < 0:=.inl h1;rw [if_pos h1,if_pos hc];rfl
  rw [if_neg h1];by_cases h2:nl.getD (x - t).toNat 0 < 0
  ·have hc:x < t∨nl.getD (x - t).toNat 0 < 0:=.inr h2;rw [if_pos h2,if_pos hc];split
   ·exact sL t nl dp is r _ _
   ·rfl
  have hc:¬(x < t∨nl.getD (x - t).toNat 0 < 0):=fun h=>h.elim h1 h2;rw [if_neg h2,if_neg hc,if_pos h];exact yd t nl dp is r _ _ _ (by omega)
theorem qN (t:Int)(nl dp:List Int)(is:List Bool):∀(r:List Int) (sum:Int) (m:Int),(nsI t nl dp is r sum false m).2=m
 | [],_,_=>rfl
 | x::r,sum,m=>by
  simp only [nsI,Bool.false_and,Bool.false_eq_true,if_false];split
  ·rfl
  split
  ·rfl
  ·exact qN t nl dp is r _ m
theorem ph (t:Int)(nl dp:List Int)(is:List Bool):∀(r:List Int) (sum:Int) (m:Int),(nsI t nl dp is r sum true m).2=mS dp (bgL t is r) m
 | [],_,_=>rfl
 | x::r,sum,m=>by
  simp only [nsI,bgL,Bool.true_and,if_true];by_cases h1:x < t
  ·rw [if_pos h1,if_pos h1];rfl
  rw [if_neg h1,if_neg h1];show _=mS dp (if is.getD (x - t).toNat false=true then bgL t is r else []) (max m (dp.getD (x - t).toNat 0+1));by_cases h3:is.getD (x - t).toNat false=true
  ·simp only [h3,if_true];split
   ·exact ph t nl dp is r _ _
   ·exact ph t nl dp is r _ _
  ·have h4:is.getD (x - t).toNat false=false:=by simpa using h3
   simp only [h4,Bool.false_eq_true,if_false];split
   ·rfl
   ·exact qN t nl dp is r _ _
theorem u6 (g:Gm)(nl dp:List Int)(is:List Bool):∀(l:List Nat) (least m:Int),(nsO g nl dp is l least m).2=mS dp (l.flatMap fun j=>bgL g.t is (g.ps.getD j ⟨0,[]⟩).r) m
 | [],_,_=>rfl
 | j::l,least,m=>by
  simp only [nsO,List.flatMap_cons,JF];rw [u6 g nl dp is l,ph]
theorem qO (g:Gm)(nl dp:List Int)(is:List Bool)(hnn:∀j v,bH g.t nl (g.ps.getD j ⟨0,[]⟩).r 1=some v→0 < v):∀(l:List Nat) (least m:Int),
  (∀j∈l,∀v,bH g.t nl (g.ps.getD j ⟨0,[]⟩).r 1=some v→0≤(nsO g nl dp is l least m).1∧(nsO g nl dp is l least m).1≤v)∧
  (0≤least→0≤(nsO g nl dp is l least m).1∧(nsO g nl dp is l least m).1≤least)∧
  ((nsO g nl dp is l least m).1=least∨∃j∈l,bH g.t nl (g.ps.getD j ⟨0,[]⟩).r 1=some (nsO g nl dp is l least m).1)
 | [],least,m=>⟨fun j h=>absurd h List.not_mem_nil,fun h=>⟨h,Int.le_refl _⟩,.inl rfl⟩
 | j::l,least,m=>by
  simp only [nsO];have e1:=yd g.t nl dp is (g.ps.getD j ⟨0,[]⟩).r 1 true m (by omega)
  generalize nsI g.t nl dp is (g.ps.getD j ⟨0,[]⟩).r 1 true m=q at *;obtain ⟨i1,i2,i3⟩:=qO g nl dp is hnn l (if 0 < q.1∧(least < 0∨q.1 < least) then q.1 else least) q.2;generalize nsO g nl dp is l (if 0 < q.1∧(least < 0∨q.1 < least) then q.1 else least) q.2=z at *;have hv:=hnn j;cases hn:bH g.t nl (g.ps.getD j ⟨0,[]⟩).r 1 with
  | none=>
   rw [hn] at e1;have e1:q.1= -1:=e1;rw [if_neg (by omega)] at i2 i3
   refine ⟨fun j' hj v hv'=>?_,i2,?_⟩
   ·rcases List.mem_cons.1 hj with rfl | hj
    ·rw [hn] at hv';cases hv'
    ·exact i1 j' hj v hv'
   ·rcases i3 with h | ⟨j',hj,h⟩
    ·exact .inl h
    ·exact .inr ⟨j',List.mem_cons_of_mem _ hj,h⟩
  | some v0=>
   rw [hn] at e1;have e1:q.1=v0:=e1;have hp:=hv v0 hn;rw [e1] at i2 i3;by_cases hc:0 < v0∧(least < 0∨v0 < least)
   ·rw [if_pos hc] at i2 i3;have k2:=i2 (by omega)
    refine ⟨fun j' hj v hv'=>?_,fun h=>⟨k2.1,by omega⟩,?_⟩
    ·rcases List.mem_cons.1 hj with rfl | hj
     ·rw [hn] at hv';simp only [Option.some.injEq] at hv';subst hv';exact k2
     ·exact i1 j' hj v hv'
    ·rcases i3 with h | ⟨j',hj,h⟩
     ·exact .inr ⟨j,List.mem_cons_self ..,by rw [hn,h]⟩
     ·exact .inr ⟨j',List.mem_cons_of_mem _ hj,h⟩
   ·rw [if_neg hc] at i2 i3;have hl:0≤least∧least≤v0:=by omega
    have k2:=i2 hl.1;refine ⟨fun j' hj v hv'=>?_,fun h=>k2,?_⟩
    ·rcases List.mem_cons.1 hj with rfl | hj
     ·rw [hn] at hv';simp only [Option.some.injEq] at hv';subst hv';exact ⟨k2.1,by omega⟩
     ·exact i1 j' hj v hv'
    ·rcases i3 with h | ⟨j',hj,h⟩
     ·exact .inl h
     ·exact .inr ⟨j',List.mem_cons_of_mem _ hj,h⟩
theorem JG (dp:List Int)(l:List Nat)(m:Int):mS dp l (m+1)=dpS dp l m+1:=by
 induction l generalizing m with
 | nil=>rfl
 | cons s l ih=>
  show mS dp l (max (m+1) (dp.getD s 0+1))=dpS dp l (max m (dp.getD s 0))+1;rw [←ih];congr 1;omega
theorem qP (g:Gm){i:Nat}(h:i < g.n.toNat):(cd g).getD i 0=dptM g i:=by
 unfold cd;rw [List.getD_eq_getElem?_getD,List.getElem?_map,List.getElem?_range h];rfl
theorem ye (g:Gm):∀(l:List Nat) (m:Nat),(∀s∈l,s < g.n.toNat)→dpS (cd g) l m=mxl (dptM g) l m
 | [],m,_=>rfl
 | s::l,m,h=>by
  show dpS (cd g) l (max (m:Int) ((cd g).getD s 0))=mxl (dptM g) l (max m (dptM g s));rw [qP g (h s (by simp)),show max (m:Int) (dptM g s:Int)=((max m (dptM g s):Nat):Int) by omega]
  exact ye g l _ fun x hx=>h x (by simp [hx])
theorem lw {ps:List Pr}{left:Int}{m j:Nat}:j∈ofN ps left m↔j < m∧(ps.getD j ⟨0,[]⟩).l=left:=by
 unfold ofN;rw [List.mem_filter,List.mem_range,decide_eq_true_eq]
theorem lx {ps:List Pr}{j:Nat}(h:j < ps.length):ps.getD j ⟨0,[]⟩∈ps:=by
 rw [List.getD_eq_getElem?_getD,List.getElem?_eq_getElem h];exact List.getElem_mem h
theorem DB {g:Gm}(ha:AOk g){a:Nat}(h:a < g.n.toNat):
  nsO g (aH g) (cd g) (derM g false) (ofN g.ps a g.ps.length) (-1) 1=((aH g).getD a 0,(dptM g a:Int))∧(0 < (aH g).getD a 0↔tr (derM g false) a):=by
 have hg:=ha.ok;have hb:∀r v,(∀s∈r,(s - g.t).toNat < (aH g).length)→bH g.t (aH g) r 1=some v→0 < v:=fun r v hs hv=>by
  have:=(dM ((bN hg).hi2 hg) (by omega) r 1 v hs hv).1
  omega
 have hps:∀j,j < g.ps.length→∀s∈(g.ps.getD j ⟨0,[]⟩).r,(s - g.t).toNat < (aH g).length:=fun j hj=>ew hg (bN hg).len (hg.p _ (lx hj));have hnn:∀j v,bH g.t (aH g) (g.ps.getD j ⟨0,[]⟩).r 1=some v→0 < v:=fun j v hv=>by
  by_cases hj:j < g.ps.length
  ·exact hb _ v (hps j hj) hv
  ·rw [List.getD_eq_getElem?_getD,List.getElem?_eq_none (by omega)] at hv
   simp [bH] at hv;omega
 obtain ⟨i1,-,i3⟩:=qO g (aH g) (cd g) (derM g false) hnn (ofN g.ps a g.ps.length) (-1) 1;have hlo:=(bN hg).lo _ (gq (o:=aH g) (i:=a) (by rw [(bN hg).len];exact h))
 have hfn:=me hg a h;have hpos:0≤(aH g).getD a 0→0 < (aH g).getD a 0:=fun h0=>by
  obtain ⟨p,hp,-,v,hv,hle⟩:=hfn h0;have:=(dM ((bN hg).hi2 hg) (by omega) p.r 0 v (ew hg (bN hg).len (hg.p p hp)) hv).1
  omega
 have hidx:∀p∈g.ps,p.l.toNat=a→∃j∈ofN g.ps a g.ps.length,g.ps.getD j ⟨0,[]⟩=p:=fun p hp hl=>by
  obtain ⟨j,hj,rfl⟩:=List.getElem_of_mem hp;have e:g.ps.getD j ⟨0,[]⟩=g.ps[j]:=by rw [List.getD_eq_getElem?_getD,List.getElem?_eq_getElem hj];rfl
  refine ⟨j,lw.2 ⟨hj,?_⟩,e⟩;rw [show (g.ps.getD j ⟨0,[]⟩).l=(g.ps[j]).l from congrArg Pr.l e];have:=(hg.p _ hp).l0;omega
 refine ⟨Prod.ext ?_ ?_,⟨fun h0=>(uY hg h).1 (by omega),fun ht=>hpos ((uY hg h).2 ht)⟩⟩
 ·show (nsO g (aH g) (cd g) (derM g false) (ofN g.ps a g.ps.length) (-1) 1).1=(aH g).getD a 0;generalize (nsO g (aH g) (cd g) (derM g false) (ofN g.ps a g.ps.length) (-1) 1).1=z at *;have up:0≤(aH g).getD a 0→0≤z∧z≤(aH g).getD a 0:=fun h0=>by
   obtain ⟨p,hp,hpl,v,hv,hle⟩:=hfn h0;obtain ⟨j,hj,rfl⟩:=hidx p hp hpl;have hv1:=o9 g.t (aH g) (g.ps.getD j ⟨0,[]⟩).r 0 1;rw [hv] at hv1;have:=i1 j hj (v+1) hv1;omega
  rcases i3 with e | ⟨j,hj,hz⟩
  ·by_cases h0:0≤(aH g).getD a 0
   ·have:=up h0;omega
   ·omega
  ·have hjl:=lw.1 hj;have hv1:=o9 g.t (aH g) (g.ps.getD j ⟨0,[]⟩).r 0 1;rw [show (0:Int)+1=1 from rfl,hz] at hv1;cases hv:bH g.t (aH g) (g.ps.getD j ⟨0,[]⟩).r 0 with
   | none=>rw [hv] at hv1;cases hv1
   | some v=>
    rw [hv] at hv1;have hv2:z=v+1:=by simpa using hv1
    have low:=mf hg (lx hjl.1) hv;rw [hjl.2] at low;simp only [Int.toNat_natCast] at low;have:=up low.1;omega
 ·show (nsO g (aH g) (cd g) (derM g false) (ofN g.ps a g.ps.length) (-1) 1).2=(dptM g a:Int);rw [u6,nh ha];show mS (cd g) (scM g a) (0+1)=_;rw [JG];have:=ye g (scM g a) 0 fun s hs=>(sH hg ((lu hg).1 hs)).2;rw [show ((0:Nat):Int)=0 from rfl] at this;rw [this];omega
end Go.Proofs.YtkllbcjanneppaaGreat
