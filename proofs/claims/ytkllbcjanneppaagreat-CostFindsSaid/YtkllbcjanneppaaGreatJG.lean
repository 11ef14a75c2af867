import Derived.Test.YtkllbcjanneppaaGreatJF
import Derived.Test.YtkllbcjanneppaaGreatJC
import Derived.Test.YtkllbcjanneppaaGreatJB
set_option maxRecDepth 20000
set_option linter.unusedSimpArgs false
set_option linter.unusedVariables false
namespace Go.Proofs.YtkllbcjanneppaaGreat
open Go Go.Hm

abbrev iV (l:List Int):AV:=.sl l.length (ints l)
def IV (v:AV)(l:List Int):Prop:=v=iV l\/(v= .e0/\l=[])
theorem Jf {lk lim:Nat}{H:Heap}(a b:List Int)(hl:a.length<=1000000000)(he:a.length=b.length):aj X A lk lim 13 [(iV a),(iV b)] H=some (Bo (decide (a=b)),H):=by
 refine ar [] rfl A13 rfl rfl ?_;unfold IG;generalize aj X A=C;have hne:((a.length:Int) != b.length)=false:=by simp [he]
 simp [hne];refine ax (σ:=Nat) (fun i=>[(0,(iV a)),(1,(iV b)),(5,I i)]) (fun _=>H)
  (fun i=>i<=a.length/\decide (a=b)=decide (a.drop i=b.drop i)) (fun i=>a.length - i) ?_ 0 (by simp) (by simp [ab,find]) rfl
 rintro i ⟨hi,hinv⟩;unfold sx;have w:IntKind.i64.wrap ((i:Int)+1)=(i:Int)+1:=au (by omega) (by omega)
 by_cases hil:i < a.length
 ·have hil2:i < b.length:=by omega
  have ga:=fun h=>bv hil h;have gb:=fun h=>bv hil2 h;rw [List.drop_eq_getElem_cons hil,List.drop_eq_getElem_cons hil2] at hinv;generalize a[i]=x at ga hinv;generalize b[i]=y at gb hinv;have l1:=aV a;have l2:=aV b;by_cases hxy:x=y
  ·subst hxy;simp [hil,hil2,ga,gb,l1,l2,w,ao];exact ⟨i+1,⟨by omega,(decide_eq_decide.1 hinv).trans (by simp)⟩,by omega,by simp⟩
  ·have hb:(x != y)=true:=by simpa using hxy
   have hb2:¬x=y:=hxy;have:decide (a=b)=false:=by rw [hinv];simp [hxy]
   rw [this];simp [hil,hil2,ga,gb,l1,l2,hb,hb2]
 ·obtain rfl:i=a.length:=by omega
  rw [List.drop_length,he,List.drop_length] at hinv;have h2:decide (a=b)=true:=by rw [hinv];simp
  rw [h2];simp
theorem jM {lk lim:Nat}{H:Heap}{va vb:AV}{a b:List Int}(ha:IV va a)(hb:IV vb b)(hl:a.length<=1000000000):aj X A lk lim 13 [va,vb] H=some (Bo (decide (a=b)),H):=by
 by_cases he:a.length=b.length
 ·by_cases h0:a=[]
  ·subst h0;have hb0:b=[]:=List.eq_nil_of_length_eq_zero he.symm;subst hb0;rw [show decide (([]:List Int)=[])=true from rfl];rcases ha with rfl | ⟨rfl,_⟩<;>rcases hb with rfl | ⟨rfl,_⟩;all_goals
    refine ar [] rfl A13 rfl rfl ?_;unfold IG;generalize aj X A=C;simp
   ·exact ax (σ:=Unit) (fun i=>[(0,(iV [])),(1,(iV [])),(5,I 0)]) (fun _=>H) (fun i=>True) (fun i=>0) (fun i _=>by unfold sx;simp) () trivial (by simp [ab,find]) rfl
   ·exact ax (σ:=Unit) (fun i=>[(0,(iV [])),(1,.e0),(5,I 0)]) (fun _=>H) (fun i=>True) (fun i=>0) (fun i _=>by unfold sx;simp) () trivial (by simp [ab,find]) rfl
   ·exact ax (σ:=Unit) (fun i=>[(0,.e0),(1,(iV [])),(5,I 0)]) (fun _=>H) (fun i=>True) (fun i=>0) (fun i _=>by unfold sx;simp) () trivial (by simp [ab,find]) rfl
   ·exact ax (σ:=Unit) (fun i=>[(0,.e0),(1,.e0),(5,I 0)]) (fun _=>H) (fun i=>True) (fun i=>0) (fun i _=>by unfold sx;simp) () trivial (by simp [ab,find]) rfl
  ·have h1:va=(iV a):=ha.resolve_right fun h=>h0 h.2;have h2:vb=(iV b):=hb.resolve_right fun h=>h0 (List.eq_nil_of_length_eq_zero (by rw [he,h.2];rfl))
   rw [h1,h2];exact Jf a b hl he
 ·have hne:((a.length:Int) != b.length)=true:=by simp;omega
  have hd:decide (a=b)=false:=decide_eq_false fun e=>he (by rw [e])
  rw [hd];rcases ha with rfl | ⟨rfl,rfl⟩<;>rcases hb with rfl | ⟨rfl,rfl⟩;all_goals
   refine ar [] rfl A13 rfl rfl ?_;unfold IG;generalize aj X A=C
   try simp only [List.length_nil,Int.natCast_zero] at hne he
   simp [hne]
  all_goals simp at he
theorem xn {lk lim:Nat}{H:Heap}(x m:Int)(hm:m<=1000000)(hm1:1<=m):
  aj X A lk lim 27 [I x,I m] H=some (I (if x.tmod m < 0 then x.tmod m+m else x.tmod m),H):=by
 refine ar [] rfl A27 rfl rfl ?_;unfold Ot;generalize aj X A=C;have hn:¬m < 1:=by omega
 have h0:¬m=0:=by omega
 have h1: -m < x.tmod m/\x.tmod m < m:=by
  have:=Int.lt_tmod_of_pos x (show 0 < m by omega)
  have:=Int.tmod_lt_of_pos x (show 0 < m by omega)
  omega
 obtain ⟨r,hrm⟩:∃r,x.tmod m=r:=⟨_,rfl⟩;rw [hrm] at h1 |-;have w:r < 0->IntKind.i64.wrap (r+m)=r+m:=fun _=>au (by omega) (by omega)
 by_cases hr:r < 0
 ·simp [hn,h0,hrm,hr,w hr]
 ·simp [hn,h0,hrm,hr]

theorem iY {lk lim:Nat}{H:Heap}(hlk:lk<=H.length)(g:Gm)(hl:g.ps.length<=1000000)(hr:∀p∈g.ps,p.r.length<=1000000):
  ∃tv,aj X A lk lim 12 [gV g] H=some (.agg [tv],H)/\TV tv (eW g):=by
 obtain ⟨tv,kb,hT⟩:=mV (lim:=H.length) hlk g hl hr;refine ⟨tv,?_,hT⟩;obtain ⟨l,a,b,x,hx⟩:=pq (jF g);rw [hx] at kb;refine ar [1,2,3,4] rfl A12 rfl rfl ?_;unfold Nq;generalize fX g=e at *;generalize eW g=T at *;generalize aj X A=C at *;obtain ⟨t,gn,k,ps⟩:=g;simp only [gV,Gm.cells] at kb |-;rcases hT with ⟨rfl,_⟩ | ⟨cs,rfl,_⟩;all_goals
  simp [kb,an]

def rwK (s:List UInt8)(k:Int):List UInt8:=(s++[255]).take (min k.toNat (s.length+1))

def exC:Gm:=⟨1,1,1,[⟨0,[0,1]⟩,⟨0,[]⟩]⟩
theorem Co {lk lim:Nat}{H:Heap}:aj X A lk lim 10 [] H=some (gV exC,H):=by
 refine eB (r:=(gV exC,H)) ?_;show bU 60 fw (bU 10 exG (dn 32 yr X0)) lk lim 10 [] H=_;unfold bU;rw [if_neg (by decide),if_pos rfl]
 rfl
theorem ze:AOk exC:=⟨br (by decide+kernel),by decide+kernel,by decide+kernel,by decide+kernel,by decide+kernel⟩
theorem Az:ce exC=4:=by decide+kernel

theorem Jg (t n k k':Int)(ps:List Pr):nullM ⟨t,n,k,ps⟩=nullM ⟨t,n,k',ps⟩:=rfl
theorem O5 (t n k k':Int)(ps:List Pr)(i:Nat):rkM ⟨t,n,k,ps⟩ i=rkM ⟨t,n,k',ps⟩ i:=rfl
theorem O6 (t n k k':Int)(ps:List Pr)(i:Nat):scM ⟨t,n,k,ps⟩ i=scM ⟨t,n,k',ps⟩ i:=rfl
theorem Gj (t n k k':Int)(ps:List Pr):∀(f i:Nat),xh ⟨t,n,k,ps⟩ f i=xh ⟨t,n,k',ps⟩ f i
 | 0,_=>rfl
 | f+1,i=>by
  simp only [xh];rw [O6 t n k k' ps i];exact congrArg _ (j8 fun s _=>Gj t n k k' ps f s)
theorem Mt (t n k k':Int)(ps:List Pr):bL ⟨t,n,k,ps⟩=bL ⟨t,n,k',ps⟩:=by
 unfold bL;refine List.map_congr_left fun i _=>?_;unfold dptM;rw [O5 t n k k' ps i,Gj t n k k' ps]
theorem Mu (t n k k':Int)(ps:List Pr):ce ⟨t,n,k,ps⟩=ce ⟨t,n,k',ps⟩:=by
 unfold ce;rw [Mt t n k k' ps,Jg t n k k' ps]
theorem AA {g:Gm}(ha:AOk g):0 < ce g:=by
 obtain ⟨_,_,q3,_,_,_,_,_,_⟩:=nT ha;unfold ce;have h1:0<=(uV g.ps:Int) * max 0 (gj (nullM g)):=Int.mul_nonneg (by omega) (by omega)
 have h2:0<=gj (bL g) * (1+(uV g.ps:Int) * max 0 (gj (nullM g))):=Int.mul_nonneg (by omega) (by omega)
 omega

theorem rm {lk lim:Nat}{H:Heap}(g:Gm)(left:Int)(hl:g.ps.length<=1000000)(hr:∀p∈g.ps,p.r.length<=1000000)(hlk:lk<=H.length):aj X A lk lim 26 [gV g,I left] H=some (nL g left,H):=by
 have kc:=fun (L:Nat)=>bN (lk:=lk) (lim:=L) (H:=H) g hl hr;refine ar [2] rfl A26 rfl rfl ?_;unfold Oq;unfold nL;by_cases hc:chkE g=0;case neg=>
  rw [if_neg hc];have hx:(chkE g != 0)=true:=by simpa using hc
  generalize chkE g=e at *;obtain ⟨t,n,k,ps⟩:=g;simp only [gV,Gm.cells] at kc;generalize aj X A=C at kc |-;simp [Gm.cells,kc,hc,hx]
 have ok:=br hc;rw [if_pos hc];rw [hc] at kc;obtain ⟨t,n,k,ps⟩:=g;obtain ⟨t1,t2,n1,n2,k1,k2,l1,l2,okp⟩:=ok;simp only at t1 t2 n1 n2 k1 k2 l1 l2 okp;simp only [gV,Gm.cells] at kc |-;generalize aj X A=C at kc |-;simp [-ak,-af,-ap,kc];rw [af rfl,aA,ah,ai,ae];simp [-ap];rw [ap];refine ax (σ:=Nat) (fun i=>[(1,I left),(2,.box [I t,I n,I k,.sl ps.length (psC ps)]),(5,oV H (ofN ps left i)),(6,I i)]) (fun i=>oH H (ofN ps left i))
  (fun i=>i<=ps.length) (fun i=>ps.length - i) ?_ 0 (by simp) (by simp [ofN,oV]) (by simp [ofN,oH])
 intro i hi;unfold Ko;have w1:IntKind.i64.wrap ((i:Int)+1)=(i:Int)+1:=au (by omega) (by omega)
 by_cases hil:i < ps.length;case neg=>
  obtain rfl:i=ps.length:=by omega
  have hon:=j1 ps left ps.length;generalize ofN ps left ps.length=o at hon |-;by_cases ho:o=[]
  ·subst ho;simp [oV,oH,slvN]
  ·simp [oV,oH,slvN,ho]
 have hs:=Ae hil;have hll:=aY ps;have h2:i * 2 < 2 * ps.length:=by omega
 have hsE:∀h,(psC ps)[i * 2]'h=I ps[i].l:=fun h=>(List.getElem?_eq_some_iff.1 hs).2;have hnx:=wC ps left i hil;have hon:=j1 ps left i;generalize ps[i].l=pl at *;have done:∀(E:Env) (H':Heap),E=[(1,I left),(2,.box [I t,I n,I k,.sl ps.length (psC ps)]),(5,oV H (ofN ps left (i+1))),(6,I ((i:Int)+1))]->H'=oH H (ofN ps left (i+1))->
  ∃i':Nat,i'<=ps.length/\ps.length - i' < ps.length - i/\E=[(1,I left),(2,.box [I t,I n,I k,.sl ps.length (psC ps)]),(5,oV H (ofN ps left i')),(6,I i')]/\H'=oH H (ofN ps left i'):=fun E H' h1 h2=>⟨i+1,by omega,by omega,by rw [h1];simp,h2⟩
 generalize ofN ps left (i+1)=o' at hnx done;generalize ofN ps left i=o at hnx hon |-;have hro1:8<=aM:=by unfold aM;omega
 have hro:(o.length+1) * 8<=aM:=by unfold aM;omega
 by_cases hpl:pl=left
 ·rw [if_pos hpl] at hnx;by_cases ho:o=[]
  ·subst ho;simp [oV,oH,hil,hll,h2,hsE,hpl,w1,hro1,aN];rw [ao];refine done _ _ ?_ ?_
   ·simp [hnx,oV]
   ·simp [hnx,oH,nts]
  ·simp [oV,oH,hil,hll,h2,hsE,hpl,w1,hro,ho,aN,aR,dW,hlk];rw [ao];refine done _ _ ?_ ?_
   ·simp [hnx,oV,eh]
   ·simp [hnx,oH,nts,cS]
 ·rw [if_neg hpl] at hnx;subst hnx;have hp2:(pl==left)=false:=by simpa using hpl
  by_cases ho:o'=[]
  ·subst ho;simp [oV,oH,hil,hll,h2,hsE,hpl,hp2,w1];rw [ao];exact done _ _ (by simp [oV]) (by simp [oH])
  ·simp [oV,oH,hil,hll,h2,hsE,hpl,hp2,w1,ho];rw [ao];exact done _ _ (by simp [oV,ho]) (by simp [oH,ho])

theorem nU (g:Gm){i:Nat}(h:i < g.n.toNat):(bL g).getD i 0=dptM g i:=by
 unfold bL;rw [List.getD_eq_getElem?_getD,List.getElem?_map,List.getElem?_range h];rfl
theorem fj {ps:List Pr}{left:Int}{m j:Nat}:j∈ofN ps left m↔j < m/\(ps.getD j ⟨0,[]⟩).l=left:=by
 unfold ofN;rw [List.mem_filter,List.mem_range,decide_eq_true_eq]
theorem bW {ps:List Pr}{j:Nat}(h:j < ps.length):ps.getD j ⟨0,[]⟩∈ps:=by
 rw [List.getD_eq_getElem?_getD,List.getElem?_eq_getElem h];exact List.getElem_mem h
end Go.Proofs.YtkllbcjanneppaaGreat
