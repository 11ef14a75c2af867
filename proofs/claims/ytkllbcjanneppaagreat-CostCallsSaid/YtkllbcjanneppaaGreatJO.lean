import Derived.Test.YtkllbcjanneppaaGreatJL
import Derived.Test.YtkllbcjanneppaaGreatJE
import Derived.Test.YtkllbcjanneppaaGreatHA
set_option linter.all false
namespace Go.Proofs.YtkllbcjanneppaaGreat
open Go Go.Hm

inductive Run (g:Gm)(T:Ss):Nat->List UInt8->List Int->List UInt8->List Int->List Int->Prop
 | nil (w:List UInt8) (st:List Int):Run g T 0 w st w st []
 | step {n:Nat} {w w1 w2:List UInt8} {st st1 st2 q q2:List Int} (h:stepM g T w st=some (w1,st1,q)) (r:Run g T n w1 st1 w2 st2 q2):Run g T (n+1) w st w2 st2 (q++q2)
theorem CB {g:Gm}{T:Ss}(w:List UInt8)(x:Int)(a b:List Int):stepM g T w (x::a++b)=(stepM g T w (x::a)).map fun y=>(y.1,y.2.1++b,y.2.2):=by
 rw[List.cons_append];simp only[stepM];split
 ·split
  ·rfl
  ·split<;>rfl
 ·split
  ·rfl
  ·simp
theorem AP {g:Gm}{T:Ss}{n:Nat}{w w2:List UInt8}{st st2 q b:List Int}(h:Run g T n w st w2 st2 q):∀{a:List Int},st=a++b->
  (∃n1 n2 w1 q1 q2,n=n1+n2/\Run g T n1 w a w1 [] q1/\Run g T n2 w1 b w2 st2 q2/\q=q1++q2)\/∃a',a'≠[]/\st2=a'++b/\Run g T n w a w2 a' q:=by
 induction h with
 | nil w st=>
  intro a e;cases a with
  | nil=>exact .inl ⟨0,0,w,[],[],rfl,.nil _ _,by rw[e];exact .nil _ _,rfl⟩
  | cons x a=>exact .inr ⟨x::a,by simp,e,.nil _ _⟩
 | @step n w w1 w2 st st1 st2 q q2 hs r ih=>
  intro a e;cases a with
  | nil=>
   rw[List.nil_append]at e;subst e;exact .inl ⟨0,n+1,w,[],_,by omega,.nil _ _,.step hs r,rfl⟩
  | cons x a=>
   subst e;rw[CB]at hs;obtain⟨⟨y1,y2,y3⟩,hy,e⟩:=Option.map_eq_some_iff.1 hs;simp only[R0]at e;obtain⟨rfl,rfl,rfl⟩:=e;rcases ih rfl with⟨n1,n2,w3,q1,q3,rfl,h1,h2,rfl⟩ | ⟨a',h1,h2,h3⟩
   ·exact .inl ⟨n1+1,n2,w3,y3++q1,q3,by omega,.step hy h1,h2,(List.append_assoc ..).symm⟩
   ·exact .inr ⟨a',h1,h2,.step hy h3⟩
theorem m6 {g:Gm}{T:Ss}{w w1:List UInt8}{st st1 q:List Int}(h:stepM g T w st=some (w1,st1,q)):(∃x st',st=x::st')/\∃u,w=u++w1:=by
 cases st with
 | nil=>simp[stepM]at h
 | cons x st=>
  refine⟨⟨x,st,rfl⟩,?_⟩;simp only[stepM]at h;split at h
  ·split at h
   ·cases h
   ·rename_i b r;split at h
    ·simp only[RZ,R0]at h;exact⟨[b],by rw[h.1];rfl⟩
    ·cases h
  ·split at h
   ·cases h
   ·simp only[RZ,R0]at h;exact⟨[],by rw[h.1];rfl⟩
theorem pz {g:Gm}{T:Ss}{n:Nat}{w w2:List UInt8}{st st2 q:List Int}(h:Run g T n w st w2 st2 q):∃u,w=u++w2:=by
 induction h with
 | nil=>exact⟨[],rfl⟩
 | step hs r ih=>
  obtain⟨u,hu⟩:=(m6 hs).2;obtain⟨v,hv⟩:=ih;exact⟨u++v,by rw[hu,hv,List.append_assoc]⟩
theorem pA {g:Gm}{T:Ss}{n:Nat}{w w2:List UInt8}{st st2 q:List Int}(h:Run g T n w st w2 st2 q):w2.length<=w.length:=by
 obtain⟨u,hu⟩:=pz h;rw[hu];simp
theorem m7 {g:Gm}{T:Ss}{w w1:List UInt8}{x:Int}{st1 q:List Int}(h:stepM g T w [x]=some (w1,st1,q)):
  (x<g.t/\st1=[]/\q=[]/\w1.length+1=w.length)\/(¬x<g.t/\w1=w/\∃i,i<g.ps.length/\(g.ps.getD i ⟨0,[]⟩).l=x-g.t/\ct (T.getD i []) (rwK w g.k)=true/\st1=(g.ps.getD i ⟨0,[]⟩).r/\q=[(i:Int)]):=by
 simp only[stepM]at h;split at h
 ·rename_i hx;split at h
  ·cases h
  ·split at h
   ·simp only[RZ,R0]at h;obtain⟨rfl,rfl,rfl⟩:=h;exact .inl ⟨hx,rfl,rfl,by simp⟩
   ·cases h
 ·rename_i hx;rcases iZ (g:=g) T (x-g.t) (rwK w g.k) with hneg | ⟨i,hi,hpi,hl,hv⟩
  ·rw[hneg,if_pos (by omega)]at h
   cases h
  ·rw[hpi,if_neg (by omega),Int.toNat_natCast]at h
   simp only[RZ,R0,List.append_nil]at h;obtain⟨rfl,rfl,rfl⟩:=h;exact .inr ⟨hx,rfl,i,hi,hl,hv,rfl,rfl⟩

theorem Jo {g:Gm}{a b:List Int}{u v:List UInt8}(h:Drv g a u)(k:Drv g b v):Drv g (a++b) (u++v):=by
 induction h with
 | nil=>exact k
 | tok s r t hs d ih=>exact .tok s _ _ hs ih
 | non p r t hp d ih=>
  refine .non p (r++b) _ hp ?_;rw[<-List.append_assoc];exact ih
theorem Jp {g:Gm}(hg:GOk g)(m:Nat):∀(r:List Int) (v:Int),(∀s∈r,0<=s/\s<g.t+g.n)->bq g.t (nullM g) r 0=some v->v<=m->Drv g r []:=by
 induction m using Nat.strongRecOn with
 | ind m ihm=>
  intro r;induction r with
  | nil=>exact fun _ _ _ _=>.nil
  | cons s r ihr=>
   intro v hs hv hle;have hs1:=hs s (by simp)
   simp only[bq]at hv;split at hv
   ·cases hv
   rename_i hc;have hst:¬s<g.t:=fun e=>hc (.inl e);have h0:0<=(nullM g).getD (s-g.t).toNat 0:=by have:=fun e=>hc (.inr e);omega
   have ha:(s-g.t).toNat<g.n.toNat:=by omega
   have hrl:∀x∈r,(x-g.t).toNat<(nullM g).length:=fun x hx=>by
    have:=hs x (by simp[hx])
    rw[(bn hg).len];have:=hg.n1;omega
   have hv2:=jK g.t (nullM g) r 0 ((nullM g).getD (s-g.t).toNat 0);rw[Int.zero_add]at hv2;rw[Int.zero_add]at hv;rw[hv]at hv2;obtain⟨v2,e2,e3⟩:=Option.map_eq_some_iff.1 hv2.symm;have hv20:=(dh ((bn hg).hi2 hg) (by omega) r 0 v2 hrl e2).1
   obtain⟨p,hp,hpl,v3,e4,hle3⟩:=iu hg _ ha h0;have hp2:=hg.p p hp;have hv30:=(dh ((bn hg).hi2 hg) (by omega) p.r 0 v3 (eE hg (bn hg).len hp2) e4).1
   have d1:=ihm v3.toNat (by omega) p.r v3 hp2.s e4 (by omega)
   have d2:=ihr v2 (fun x hx=>hs x (by simp[hx])) e2 (by omega)
   have:=hp2.l0;rw[show s=g.t+p.l by omega]
   exact .non p r [] hp (Jo d1 d2)
theorem GH {g:Gm}(hg:GOk g){r:List Int}{v:Int}(hs:∀s∈r,0<=s/\s<g.t+g.n)(hv:bq g.t (nullM g) r 0=some v):[]∈ofM g (setsM g) r:=by
 obtain⟨u,hu,e⟩:=wd hg (Jp hg v.toNat r v hs hv (by omega))
 refine(eG hg (aJ hg) (fun s h=>(hs s h).1) _).2 ⟨u,hu,?_⟩;rw[e];simp
theorem Jq {g:Gm}(ha:AOk g){i j:Nat}(hi:i<g.ps.length)(hj:j<g.ps.length)(hl:g.ps[i].l=g.ps[j].l){v v':Int}(hv:bq g.t (nullM g) g.ps[i].r 0=some v)(hv':bq g.t (nullM g) g.ps[j].r 0=some v'){x:List UInt8}(hx:x∈cQ g g.ps[i]):i=j:=by
 have hg:=ha.ok;have pi:=hg.p _ (List.getElem_mem hi);have pj:=hg.p _ (List.getElem_mem hj);obtain⟨a,_,f,hf,_⟩:=bA.1 hx;have h1:join g.k.toNat [] f∈cQ g g.ps[i]:=bA.2 ⟨[],GH hg pi.s hv,f,hf,rfl⟩;have h2:join g.k.toNat [] f∈cQ g g.ps[j]:=bA.2 ⟨[],GH hg pj.s hv',f,by rw[<-hl];exact hf,rfl⟩
 have hc:=(j4 hg).1 ha.conf;rcases Nat.lt_trichotomy i j with h | h | h
 ·exact absurd h2 (hc i j hi hj h hl _ h1)
 ·exact h
 ·exact absurd h1 (hc j i hj hi h hl.symm _ h2)
theorem Jr {g:Gm}(ha:AOk g):∀(n:Nat) (st q:List Int) (w:List UInt8),(∀s∈st,0<=s/\s<g.t+g.n)->Run g (aK g) n w st w [] q->bq g.t (nullM g) st 0=some (n:Int):=by
 have hg:=ha.ok;intro n;induction n using Nat.strongRecOn with
 | ind n ih=>
  intro st q w hs h;cases st with
  | nil=>
   cases h with
   | nil=>rfl
   | step hs r=>simp[stepM]at hs
  | cons x st=>
   have one:∀(m:Nat) (q:List Int),m<=n->Run g (aK g) m w [x] w [] q->bq g.t (nullM g) [x] 0=some (m:Int):=by
    intro m q hm h;cases h with
    | step hs1 r=>
     rename_i m' w1 st1 q1 q2;rcases m7 hs1 with⟨_,_,_,hl⟩ | ⟨hx,rfl,i,hi,hl,hv,rfl,rfl⟩
     ·have:=pA r;omega
     ·have pe:g.ps.getD i ⟨0,[]⟩=g.ps[i]:=by rw[R3,R4 hi];rfl
      rw[pe]at hl r;have pok:=hg.p _ (List.getElem_mem hi);have h1:=ih m' (by omega) g.ps[i].r q2 _ pok.s r
      obtain⟨l1,l2⟩:=kA hg (List.getElem_mem hi) h1;have hlk:=fY g hi;rw[hlk]at hv;have hxs:=hs x (by simp)
      have hln:g.ps[i].l.toNat<g.n.toNat:=by have:=pok.l0;have:=pok.l1;omega
      obtain⟨p,hp,hpl,v,h2,h3⟩:=iu hg _ hln l1;obtain⟨j,hj,rfl⟩:=List.getElem_of_mem hp;have hp0:=(hg.p _ hp).l0;have e:=Jq ha hi hj (by have:=pok.l0;omega) h1 h2 (mz.1 hv)
      subst e;rw[h1]at h2;simp only[RZ]at h2;subst h2;have hxa:(x-g.t).toNat=g.ps[i].l.toNat:=by rw[<-hl]
      simp only[bq];rw[hxa,if_neg (by omega)]
      congr 1;omega
   rcases AP (a:=[x]) (b:=st) h rfl with⟨n1,n2,w1,q1,q2,e,h1,h2,_⟩ | ⟨a',h1,h2,_⟩
   ·have hw:=pz h1;have hw2:=pz h2;have hwe:w1=w:=by
     obtain⟨u,hu⟩:=hw;obtain⟨u2,hu2⟩:=hw2;have hl:=congrArg List.length hu;have hl2:=congrArg List.length hu2;simp only[List.length_append]at hl hl2;have hu0:u=[]:=List.eq_nil_of_length_eq_zero (by omega)
     rw[hu,hu0];rfl
    subst hwe;have hn1:0<n1:=by
     cases h1;omega
    have r1:=one n1 q1 (by omega) h1
    have r2:=ih n2 (by omega) st q2 _ (fun s hs'=>hs s (by simp[hs'])) h2
    simp only[bq]at r1 |-;split at r1
    ·cases r1
    ·rename_i hc;rw[if_neg hc];simp only[RZ]at r1;rw[jK,r2];simp only[Option.map_some,RZ];omega
   ·exact absurd h2 (by simp[h1])

def dpR (g:Gm)(r:List Int):Nat:=mxl (dptM g) (bgM g r) 0
def dpT (g:Gm)(x:Int):Nat:=if x<g.t then 0 else dptM g (x-g.t).toNat
structure Bd (g:Gm)(N D M Q K:Nat):Prop where
 n:∀a,a<g.n.toNat->(nullM g).getD a 0<=N
 d:∀a,a<g.n.toNat->dptM g a<=D
 m:∀p∈g.ps,p.r.length<=M
 q:Q=1+M*N
 k:K=D*Q+1
theorem GI (f:Nat->Nat)(a:Nat)(l:List Nat):mxl f (a::l) 0=max (f a) (mxl f l 0):=by
 have key:∀(l:List Nat) (m k:Nat),mxl f l (max m k)=max m (mxl f l k):=by
  intro l;induction l with
  | nil=>intro m k;rfl
  | cons s l ih=>
   intro m k;show mxl f l (max (max m k) (f s))=max m (mxl f l (max k (f s)));rw[<-ih,Nat.max_assoc]
 show mxl f l (max 0 (f a))=_;rw[Nat.max_comm 0,key]
theorem GJ (g:Gm)(x:Int)(r:List Int):dpT g x<=dpR g (x::r)/\(¬x<g.t->tr (derM g false) (x-g.t).toNat->dpR g r<=dpR g (x::r)):=by
 unfold dpR dpT bgM;simp only[bgL];by_cases hx:x<g.t
 ·rw[if_pos hx,if_pos hx];exact⟨Nat.zero_le _,fun h=>absurd hx h⟩
 rw[if_neg hx,if_neg hx,GI];refine⟨Nat.le_max_left ..,fun _ h=>?_⟩;rw[if_pos h];exact Nat.le_max_right ..
theorem zk {g:Gm}(ha:AOk g){i:Nat}(hi:i<g.ps.length):dpR g (g.ps.getD i ⟨0,[]⟩).r+1<=dptM g (g.ps.getD i ⟨0,[]⟩).l.toNat:=by
 rw[mX ha];have h:=Jc (f:=dptM g) (l:=bgM g (g.ps.getD i ⟨0,[]⟩).r) (l':=scM g (g.ps.getD i ⟨0,[]⟩).l.toNat) fun s hs=>by
  refine(j9 ha.ok).2 (Ga (bW hi) hs)
 unfold dpR;omega
theorem MI {g:Gm}(hg:GOk g){D:Nat}(hd:∀a,a<g.n.toNat->dptM g a<=D){r:List Int}(hr:∀s∈r,0<=s/\s<g.t+g.n):dpR g r<=D:=by
 refine uS (Nat.zero_le _) fun s hs=>hd s (lD (n:=g.n.toNat) (fun x hx=>?_) s hs);have h1:=hr x hx;have:=hg.n1;exact⟨h1.1,by omega⟩
structure RB (g:Gm)(N Q K:Nat)(d m n j:Nat)(fin:Prop):Prop where
 u:n<=m*N+d*Q+j*K
 f0:fin->j=0->n<=m*N
 f1:fin->∀i,j=i+1->n<=m*N+d*Q+1+i*K
theorem Js {g:Gm}{x:Int}{v:Int}(h:bq g.t (nullM g) [x] 0=some v):¬x<g.t/\v=(nullM g).getD (x-g.t).toNat 0/\0<=v:=by
 simp only[bq]at h;split at h
 ·cases h
 ·rename_i hc;simp only[RZ]at h;exact⟨fun e=>hc (.inl e),by omega,by have:=fun e=>hc (.inr e);omega⟩
theorem MJ {g:Gm}(ha:AOk g){N D M Q K:Nat}(hb:Bd g N D M Q K):∀(n:Nat) (st:List Int) (w w2:List UInt8) (st2 q:List Int),(∀s∈st,0<=s/\s<g.t+g.n)->Run g (aK g) n w st w2 st2 q->
  RB g N Q K (dpR g st) st.length n (w.length-w2.length) (st2=[]):=by
 have hg:=ha.ok;have hQ:1<=Q:=by rw[hb.q];omega
 have hK:1<=K:=by rw[hb.k];omega
 intro n;induction n using Nat.strongRecOn with
 | ind n ih=>
  have one:∀(m:Nat),m<=n->∀(x:Int) (w w2:List UInt8) (st2 q:List Int),0<=x/\x<g.t+g.n->Run g (aK g) m w [x] w2 st2 q->
    m<=dpT g x*Q+(w.length-w2.length)*K/\(st2=[]->(w.length-w2.length=0->m<=N/\¬x<g.t/\tr (derM g false) (x-g.t).toNat)/\∀i,w.length-w2.length=i+1->m<=dpT g x*Q+1+i*K):=by
   intro m hm x w w2 st2 q hx h;have hl:=pA h;refine⟨?_,fun e=>⟨fun hj=>?_,?_⟩⟩
   ·cases h with
    | nil=>omega
    | step hs r=>
     rename_i m' w1 st1 q1 q2;rcases m7 hs with⟨_,rfl,_,hlw⟩ | ⟨hxt,rfl,i,hi,hil,_,rfl,rfl⟩
     ·cases r with
      | nil=>
       rw[show w.length-w2.length=1 by omega]
       omega
      | step hs r=>simp[stepM]at hs
     ·have pok:=hg.p _ (bW hi);have h1:=(ih m' (by omega) _ w1 w2 st2 q2 pok.s r).u
      have h2:=hb.m _ (bW hi);have h3:=zk ha hi;have h4:dpT g x=dptM g (g.ps.getD i ⟨0,[]⟩).l.toNat:=by unfold dpT;rw[if_neg hxt,<-hil]
      have h5:(g.ps.getD i ⟨0,[]⟩).r.length*N<=M*N:=Nat.mul_le_mul_right _ h2;have h6:(dpR g (g.ps.getD i ⟨0,[]⟩).r+1)*Q<=dpT g x*Q:=Nat.mul_le_mul_right _ (by omega)
      rw[Nat.succ_mul]at h6;have:=hb.q;omega
   ·subst e;have hww:w=w2:=by
     obtain⟨u,hu⟩:=pz h;have:=congrArg List.length hu;simp only[List.length_append]at this;have hu0:u=[]:=List.eq_nil_of_length_eq_zero (by omega)
     rw[hu,hu0];rfl
    subst hww;have h1:=Jr ha m [x] q _ (fun s hs=>by simp at hs;subst hs;exact hx) h
    obtain⟨e1,e2,e3⟩:=Js h1;have hlt:(x-g.t).toNat<g.n.toNat:=by have:=hg.n1;omega
    have:=hb.n _ hlt;exact⟨by omega,e1,(rj hg hlt).1 (by omega)⟩
   ·intro i hj;subst e;cases h with
    | step hs r=>
     rename_i m' w1 st1 q1 q2;rcases m7 hs with⟨_,rfl,_,hlw⟩ | ⟨hxt,rfl,i',hi,hil,_,rfl,rfl⟩
     ·cases r with
      | nil=>omega
      | step hs r=>simp[stepM]at hs
     ·have pok:=hg.p _ (bW hi);have h1:=(ih m' (by omega) _ w1 w2 [] q2 pok.s r).f1 rfl i hj
      have h2:=hb.m _ (bW hi);have h3:=zk ha hi;have h4:dpT g x=dptM g (g.ps.getD i' ⟨0,[]⟩).l.toNat:=by unfold dpT;rw[if_neg hxt,<-hil]
      have h5:(g.ps.getD i' ⟨0,[]⟩).r.length*N<=M*N:=Nat.mul_le_mul_right _ h2;have h6:(dpR g (g.ps.getD i' ⟨0,[]⟩).r+1)*Q<=dpT g x*Q:=Nat.mul_le_mul_right _ (by omega)
      rw[Nat.succ_mul]at h6;have:=hb.q;omega
  have row:∀(st:List Int) (m:Nat),m<=n->∀(w w2:List UInt8) (st2 q:List Int),(∀s∈st,0<=s/\s<g.t+g.n)->Run g (aK g) m w st w2 st2 q->RB g N Q K (dpR g st) st.length m (w.length-w2.length) (st2=[]):=by
   intro st;induction st with
   | nil=>
    intro m hm w w2 st2 q _ h;cases h with
    | nil=>exact⟨Nat.zero_le _,fun _ _=>Nat.zero_le _,fun _ _ _=>Nat.zero_le _⟩
    | step hs r=>simp[stepM]at hs
   | cons x st ihs=>
    intro m hm w w2 st2 q hs h;have hx:=hs x (by simp)
    have hst:∀s∈st,0<=s/\s<g.t+g.n:=fun s h=>hs s (by simp[h])
    obtain⟨c1,c2⟩:=GJ g x st;have e1:dpT g x*Q<=dpR g (x::st)*Q:=Nat.mul_le_mul_right _ c1;have eN:(x::st).length*N=st.length*N+N:=by rw[List.length_cons,Nat.succ_mul]
    rcases AP (a:=[x]) (b:=st) h rfl with⟨n1,n2,w1,q1,q2,rfl,h1,h2,rfl⟩ | ⟨a',ha',rfl,h1⟩
    ·obtain⟨_,o1⟩:=one n1 (by omega) x w w1 [] q1 hx h1
     obtain⟨o2,o3⟩:=o1 rfl;have r2:=ihs n2 (by omega) w1 w2 st2 q2 hst h2
     have l1:=pA h1;have l2:=pA h2;by_cases hj1:w.length-w1.length=0
     ·obtain⟨k1,k2,k3⟩:=o2 hj1;have e2:dpR g st*Q<=dpR g (x::st)*Q:=Nat.mul_le_mul_right _ (c2 k2 k3);have ej:w.length-w2.length=w1.length-w2.length:=by omega
      rw[ej];refine⟨?_,fun hf hj=>?_,fun hf i hj=>?_⟩
      ·have:=r2.u;rw[eN];omega
      ·have:=r2.f0 hf hj;rw[eN];omega
      ·have:=r2.f1 hf i hj;rw[eN];omega
     ·obtain⟨i1,hi1⟩:∃i,w.length-w1.length=i+1:=⟨w.length-w1.length-1,by omega⟩
      have k1:=o3 i1 hi1;have hD:=MI hg hb.d hst;have e3:dpR g st*Q<=D*Q:=Nat.mul_le_mul_right _ hD;have hk:=hb.k;refine⟨?_,fun hf hj=>by omega,fun hf i hj=>?_⟩
      ·have:=r2.u;have ej:w.length-w2.length=(i1+1)+(w1.length-w2.length):=by omega
       rw[ej,Nat.add_mul,Nat.succ_mul,eN];omega
      ·by_cases hj2:w1.length-w2.length=0
       ·have:=r2.f0 hf hj2;have ei:i=i1:=by omega
        rw[ei,eN];omega
       ·obtain⟨i2,hi2⟩:∃i,w1.length-w2.length=i+1:=⟨w1.length-w2.length-1,by omega⟩
        have:=r2.f1 hf i2 hi2;have ei:i=i1+(i2+1):=by omega
        rw[ei,Nat.add_mul,Nat.succ_mul,eN];omega
    ·have o1:=(one m hm x w w2 a' q hx h1).1;refine⟨?_,fun hf=>?_,fun hf=>?_⟩
     ·rw[eN];omega
     ·simp at hf;exact absurd hf.1 ha'
     ·simp at hf;exact absurd hf.1 ha'
  intro st w w2 st2 q hs h;exact row st n (Nat.le_refl _) w w2 st2 q hs h

theorem tl {g:Gm}{T:Ss}:∀(f:Nat) (w:List UInt8) (st:List Int),runM g T f w st=none->∃w2 st2 q,Run g T f w st w2 st2 q
 | f,w,[],h=>by simp[runM]at h
 | 0,w,x::st,_=>⟨_,_,_,.nil _ _⟩
 | f+1,w,x::st,h=>by
  simp only[runM]at h;split at h
  ·cases h
  ·rename_i w1 st1 q hs;rw[Option.map_eq_none_iff]at h;obtain⟨w2,st2,q2,r⟩:=tl f w1 st1 h;exact⟨w2,st2,_,.step hs r⟩
theorem fE {g:Gm}{T:Ss}:∀(f:Nat) (w:List UInt8) (st l:List Int) (n:Nat),runM g T f w st=some (some (l,n))->Run g T n w st [] [] l/\n<=f
 | f,w,[],l,n,h=>by
  simp only[runM,RZ]at h;split at h
  ·rename_i hw;simp only[RZ,R0]at h;obtain⟨rfl,rfl⟩:=h;subst hw;exact⟨.nil _ _,Nat.zero_le _⟩
  ·cases h
 | 0,w,x::st,l,n,h=>by simp[runM]at h
 | f+1,w,x::st,l,n,h=>by
  simp only[runM]at h;split at h
  ·cases h
  ·rename_i w1 st1 q hs;obtain⟨o,ho,h⟩:=Option.map_eq_some_iff.1 h;obtain⟨⟨l1,n1⟩,rfl,e⟩:=Option.map_eq_some_iff.1 h;simp only[R0]at e;obtain⟨rfl,rfl⟩:=e;obtain⟨r,hn⟩:=fE f w1 st1 l1 n1 ho;exact⟨.step hs r,by omega⟩
theorem tn {g:Gm}{T:Ss}{n:Nat}{w w2:List UInt8}{st st2 q:List Int}(h:Run g T n w st w2 st2 q):n+w2.length=q.length+w.length:=by
 induction h with
 | nil=>simp
 | @step n w w1 w2 st st1 st2 q q2 hs r ih=>
  have:q.length+w.length=1+w1.length:=by
   obtain⟨⟨x,st',rfl⟩,_⟩:=m6 hs;simp only[stepM]at hs;split at hs
   ·split at hs
    ·cases hs
    ·split at hs
     ·simp only[RZ,R0]at hs;obtain⟨rfl,rfl,rfl⟩:=hs;simp;omega
     ·cases hs
   ·split at hs
    ·cases hs
    ·simp only[RZ,R0]at hs;obtain⟨rfl,rfl,rfl⟩:=hs;simp
  rw[List.length_append];omega
theorem xC {l:List Int}{i:Nat}(h:i<l.length):l.getD i 0<=gj l:=by
 have key:∀(r:List Int) (x:Int),x<=r.foldl max x/\∀y∈r,y<=r.foldl max x:=by
  intro r;induction r with
  | nil=>exact fun x=>⟨Int.le_refl _,fun y h=>absurd h List.not_mem_nil⟩
  | cons a r ih=>
   intro x;obtain⟨h1,h2⟩:=ih (max x a);simp only[List.foldl_cons];refine⟨by omega,fun y hy=>?_⟩
   rcases List.mem_cons.1 hy with rfl | hy
   ·omega
   ·exact h2 y hy
 have hm:=fT h;obtain⟨x,r,rfl⟩:=List.exists_cons_of_ne_nil (fun e=>by rw[e]at h;simp at h:l≠[])
 rcases List.mem_cons.1 hm with e | hm
 ·rw[e];exact(key r x).1
 ·exact(key r x).2 _ hm
theorem GK:∀(ps:List Pr) (m:Nat),m<=ps.foldl (fun m p=>max m p.r.length) m/\∀p∈ps,p.r.length<=ps.foldl (fun m p=>max m p.r.length) m
 | [],m=>⟨Nat.le_refl _,fun p h=>absurd h List.not_mem_nil⟩
 | a::ps,m=>by
  obtain⟨h1,h2⟩:=GK ps (max m a.r.length);simp only[List.foldl_cons];refine⟨by omega,fun p hp=>?_⟩
  rcases List.mem_cons.1 hp with rfl | hp
  ·omega
  ·exact h2 p hp
theorem Ph {g:Gm}(ha:AOk g):∃N D M Q K,Bd g N D M Q K/\(K:Int)=ce g/\D*Q+1=K:=by
 obtain⟨q1,q2,q3,q4,q5,q6,q7,q8,q9⟩:=nT ha;have hnl:=(bn ha.ok).len;have hdl:(bL g).length=g.n.toNat:=by simp[bL]
 refine⟨(max 0 (gj (nullM g))).toNat,(gj (bL g)).toNat,uV g.ps,_,_,⟨fun a h=>?_,fun a h=>?_,fun p hp=>(GK g.ps 0).2 p hp,rfl,rfl⟩,?_,rfl⟩
 ·have:=xC (l:=nullM g) (i:=a) (by omega)
  omega
 ·have:=xC (l:=bL g) (i:=a) (by omega)
  rw[nU g h]at this;omega
 ·unfold ce;have e1:((max 0 (gj (nullM g))).toNat:Int)=max 0 (gj (nullM g)):=by omega
  have e2:((gj (bL g)).toNat:Int)=gj (bL g):=by omega
  rw[Int.natCast_add,Int.natCast_mul,Int.natCast_add,Int.natCast_mul,e1,e2];rfl
theorem tq {g:Gm}(ha:AOk g){n:Nat}{w w2:List UInt8}{st2 q:List Int}(h:Run g (aK g) n w [g.t] w2 st2 q):(n:Int)<=ce g*(w.length+1):=by
 have hg:=ha.ok;obtain⟨N,D,M,Q,K,hb,hK,hDQ⟩:=Ph ha;have hQ:1<=Q:=by rw[hb.q];omega
 have main:n<=D*Q+w.length*K:=by
  cases h with
  | nil=>omega
  | step hs r=>
   rename_i m' w1 st1 q1 q2;rcases m7 hs with⟨hx,_⟩ | ⟨hxt,rfl,i,hi,hil,_,rfl,rfl⟩
   ·omega
   ·have pok:=hg.p _ (bW hi);have h1:=(MJ ha hb _ _ w1 w2 st2 q2 pok.s r).u;have h2:=hb.m _ (bW hi);have h3:=zk ha hi;have h7:=hb.d (g.ps.getD i ⟨0,[]⟩).l.toNat (by have:=pok.l0;have:=pok.l1;omega)
    have h5:(g.ps.getD i ⟨0,[]⟩).r.length*N<=M*N:=Nat.mul_le_mul_right _ h2;have h6:(dpR g (g.ps.getD i ⟨0,[]⟩).r+1)*Q<=D*Q:=Nat.mul_le_mul_right _ (by omega)
    have h8:(w1.length-w2.length)*K<=w1.length*K:=Nat.mul_le_mul_right _ (by omega)
    rw[Nat.succ_mul]at h6;have:=hb.q;omega
 have e:(w.length+1)*K=w.length*K+K:=Nat.succ_mul ..;have h9:n<=(w.length+1)*K:=by omega
 rw[<-hK,Int.mul_comm]
 exact_mod_cast h9
theorem GL {g:Gm}(ha:AOk g)(hc:ce g<=65536){w:List UInt8}(hw:w.length<=14):∃o,runM g (aK g) 1000000 w [g.t]=some o:=by
 cases h:runM g (aK g) 1000000 w [g.t] with
 | some o=>exact⟨o,rfl⟩
 | none=>
  obtain⟨w2,st2,q,r⟩:=tl _ _ _ h;have h1:=tq ha r;have h2:ce g*(w.length+1)<=65536*(w.length+1):=Int.mul_le_mul_of_nonneg_right hc (by omega)
  omega

inductive Der (g:Gm):Nat->List Int->List UInt8->List Int->Prop
 | nil:Der g 0 [] [] []
 | tok {n:Nat} {x:Int} {st:List Int} {w:List UInt8} {l:List Int} (b:UInt8) (h:x<g.t) (hb:(b.toNat:Int)=x) (d:Der g n st w l):Der g (n+1) (x::st) (b::w) l
 | non {n:Nat} {x:Int} {st:List Int} {w:List UInt8} {l:List Int} (i:Nat) (h:¬x<g.t) (hi:i<g.ps.length) (hl:(g.ps.getD i ⟨0,[]⟩).l=x-g.t) (d:Der g n ((g.ps.getD i ⟨0,[]⟩).r++st) w l):Der g (n+1) (x::st) w ((i:Int)::l)

def zm (o:Option (List Int×Nat)):AV:=match o with
 | none=>.e0
 | some (l,_)=>iW l
def Pi (o:Option (List Int×Nat)):List Int:=match o with
 | none=>[]
 | some (l,_)=>l
theorem AQ (o:Option (List Int×Nat)):zg o= .tup [zm o,Bo o.isSome]:=by
 rcases o with _ | ⟨l,n⟩<;>rfl
theorem pB (o:Option (List Int×Nat)):IV (zm o) (Pi o):=by
 rcases o with _ | ⟨l,n⟩
 ·exact .inr ⟨rfl,rfl⟩
 ·simp only[zm,Pi,iW];split
  ·rename_i h;subst h;exact .inr ⟨rfl,rfl⟩
  ·exact .inl rfl
theorem AR (o:Option (List Int×Nat)):zm o= .e0\/∃cs,zm o= .sl cs.length cs/\belowL 0 cs=true:=by
 rcases o with _ | ⟨l,n⟩
 ·exact .inl rfl
 ·exact Gn l
theorem jO {g:Gm}(hg:GOk g):∀s∈[g.t],0<=s/\s<g.t+g.n:=fun s hs=>by
 have:=hg.t1;have:=hg.n1;simp only[List.mem_singleton]at hs;subst hs;omega
theorem AU {tv:AV}{T:Ss}(hT:TV tv T):tv= .e0\/∃m cs,tv= .sl m cs:=by
 rcases hT with⟨rfl,_⟩ | ⟨cs,rfl,_⟩
 ·exact .inl rfl
 ·exact .inr ⟨_,_,rfl⟩

structure SM (S:List AV)(st:List Int):Prop where
 le:st.length<=S.length
 tk:S.take st.length=ints st.reverse
theorem SM.top {S:List AV}{x:Int}{st:List Int}(h:SM S (x::st)):S[st.length]?=some (I x)/\SM S st:=by
 obtain⟨h1,h2⟩:=AB h.le h.tk;exact⟨h1,⟨by have:=h.le;simp only[List.length_cons]at this;omega,h2⟩⟩
theorem SM.push {S:List AV}{x:Int}{st:List Int}(h:SM S st):SM (cS st.length S.length S [I x]) (x::st)/\(cS st.length S.length S [I x]).length=eh st.length S.length 1:=by
 obtain⟨a1,a2,a3⟩:=s7 (a:=I x) h.le;refine⟨⟨by simpa using a3,?_⟩,a2⟩
 rw[List.length_cons,a1,h.tk];simp[ints]
section
variable {C:Orc}{Q:Ex->Kt}{E:Env}{lk L:Nat}{H:Heap}{t gn k x:Int}{ps:List Pr}{lv:AV}{out:List UInt8}{S:List AV}{sn:Nat}{r st:List Int}{pl:Int}{kk:Int}
def e25 (t gn k:Int)(ps:List Pr)(lv:AV)(b sc sn:Nat)(out:List UInt8)(e:Env):Env:=(1,lv)::(2,.box [I t,I gn,I k,.sl ps.length (psC ps)])::(6,.hs b sc 0 sn 1)::(7,Sg out)::e
theorem v22 {m:Nat}(hsn:sn=m+1)(hm:m<=100000000)(hx:S[m]?=some (I x))(hE:ab [1,2,6,7] E=e25 t gn k ps lv H.length S.length sn out [])
  (hQ:∀E',ab [1,2,6,7,8] E'=e25 t gn k ps lv H.length S.length sn out [(8,I x)]->Q .nrm E' (H++[.cells S])):
  WB ⟨C,lk,L,[2,9]⟩ (.regN [1,2,6,7] [ kM 17 6,kM 18 6,kN 19 18,kx 20 (.bini .sub (ux 19) c1),kI 21 1 17 20,kL 22 21,kM 8 22]) Q E (H++[.cells S]):=by
 subst hsn;have hb:(H++[HB.cells S])[H.length]?=some (.cells S):=by simp
 have hm2:=(List.getElem?_eq_some_iff.1 hx).1;have hx2:∀h,S[m]'h=I x:=fun h=>(List.getElem?_eq_some_iff.1 hx).2;have w1:IntKind.i64.wrap (m:Int)=(m:Int):=au (by omega) (by omega)
 have hlt:(m:Int)<(m:Int)+1:=by omega
 unfold e25 at *;rw[ae,hE];simp[hb,hm2,hx2,w1,hlt];refine hQ _ ?_;rfl
theorem v27 {m:Nat}(hsn:sn=m+1)(hm:m<=100000000)(hE:ab [1,2,6,7,8] E=e25 t gn k ps lv H.length S.length sn out [(8,I x)])
  (hQ:∀E',ab [1,2,6,7,8] E'=e25 t gn k ps lv H.length S.length m out [(8,I x)]->Q .nrm E' (H++[.cells S])):
  WB ⟨C,lk,L,[2,9]⟩ (.regN [1,2,6,7,8] [ kM 23 6,kM 24 6,kN 25 24,kx 26 (.bini .sub (ux 25) c1),kx 27 (.slC 1 (ux 23) none (some (ux 26))),kM 6 27]) Q E (H++[.cells S]):=by
 subst hsn;have w1:IntKind.i64.wrap (m:Int)=(m:Int):=au (by omega) (by omega)
 have hle:(m:Int)<=(m:Int)+1:=by omega
 unfold e25 at *;rw[ae,hE];simp[w1,hle,bnd];refine hQ _ ?_;rfl
end

structure T25 (g:Gm)(N:Nat)(w:List UInt8)(x:Nat×List Int×List AV×List UInt8×List Int×List UInt8):Prop where
 d:Der g x.1 x.2.1 x.2.2.2.1 x.2.2.2.2.1
 o:x.2.2.2.2.2++x.2.2.2.1=w
 n:x.1<=N
 m:SM x.2.2.1 x.2.1
 s:∀y∈x.2.1,0<=y/\y<g.t+g.n

section
variable {C:Orc}{Q:Ex->Kt}{E:Env}{Z:Heap}{t gn k x:Int}{ps:List Pr}{cl:List Int}{pv:AV}{out:List UInt8}{S:List AV}{sn n:Nat}{r st prods:List Int}{ol:List Nat}{kk:Int}
def e6 (t gn k:Int)(ps:List Pr)(cl:List Int)(pv:AV)(sc sn:Nat)(out:List UInt8)(n:Nat)(e:Env):Env:=(1,.sl cl.length (ints cl))::(2,.box [I t,I gn,I k,.sl ps.length (psC ps)])::(5,pv)::(6,.hs 0 sc 0 sn 1)::(7,Sg out)::(8,I n)::e
end

def fH (S:List AV)(prods:List Int):Heap:=.cells S::(if prods=[] then [] else [.cells (ints prods)])
def pvF (prods:List Int):AV:=if prods=[] then .e0 else .hs 1 prods.length 0 prods.length 1
theorem MM (l:List Int):pvF l= .e0\/∃m,pvF l= .hs 1 m 0 m 1:=by
 unfold pvF;split
 ·exact .inl rfl
 ·exact .inr ⟨_,rfl⟩
theorem fH0 (S:List AV)(l:List Int):(fH S l)[0]?=some (.cells S):=rfl
theorem Jv (S S':List AV)(l:List Int):(fH S l).set 0 (.cells S')=fH S' l:=rfl
section
variable {C:Orc}{Q:Ex->Kt}{E:Env}{Z:Heap}{t gn k x:Int}{ps:List Pr}{cl:List Int}{pv:AV}{out:List UInt8}{S:List AV}{sn n:Nat}{r st prods:List Int}{ol:List Nat}{kk:Int}
end
structure F6 (g:Gm)(x:Nat×List Int×List AV×List UInt8×List Int):Prop where
 d:∀m w l,Der g m x.2.1 w l->Der g (x.1+m) [g.t] (x.2.2.2.1++w) (x.2.2.2.2++l)
 m:SM x.2.2.1 x.2.1
 s:∀y∈x.2.1,0<=y/\y<g.t+g.n
 b:x.2.1.length<=209/\(121<=x.1->x.1+x.2.1.length<=330)
 o:x.2.2.2.1.length<=x.1/\x.2.2.2.2.length<=x.1


section
variable {C:Orc}{Q:Ex->Kt}{E:Env}{Z:Heap}{t gn k:Int}{ps:List Pr}{cl:List Int}{tv v:AV}{out:List UInt8}
theorem g2 (hE:ab [0,1] E=[(0,.agg [I t,I gn,I k,.sl ps.length (psC ps)]),(1,.sl cl.length (ints cl))])
  (hQ:∀E',ab [1,2] E'=[(1,.sl cl.length (ints cl)),(2,.box [I t,I gn,I k,.sl ps.length (psC ps)])]->Q .nrm E' []):
  WB ⟨C,0,0,[2]⟩ (.regN [0,1] [ kB 2 4 0,kx 4 (.mv cF)]) Q E []:=by
 rw[ae,hE];simp;refine hQ _ ?_;rfl
end
end Go.Proofs.YtkllbcjanneppaaGreat
