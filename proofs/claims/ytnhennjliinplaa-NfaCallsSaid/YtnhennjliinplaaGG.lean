/- Rows compared: walked. -/
import Derived.Test.YtnhennjliinplaaGF
set_option linter.all false
namespace Go.Proofs.Ytnhennjliinplaa
open Go Go.Hm

noncomputable instance decAV:DecidableEq (List AV):=fun a b=>Classical.propDecidable (a=b)
theorem RowI.sl {v:AV}{l:List Int}(h:RowI v l)(hl:0<l.length):v= .sl l.length (ints l):=by
 rcases h with⟨_,h⟩ | h
 ·rw[h]at hl;simp at hl
 ·exact h
theorem RowI.arg {v:AV}{l:List Int}(h:RowI v l):argOk v=true:=by
 rcases h with⟨rfl,_⟩ | rfl<;>rfl
theorem ints_at {l:List Int}{i:Nat}{k:Int}(h:l[i]?=some k):(ints l)[i]?=some (I k):=by
 rw[ints_get,h];rfl
theorem eq_of_get {α:Type}{a b:List α}(hl:a.length=b.length)(h:∀j,j<a.length→a[j]?=b[j]?):a=b:=by
 apply List.ext_getElem?
 intro j
 by_cases hj:j<a.length
 ·exact h j hj
 ·rw[List.getElem?_eq_none (by omega),List.getElem?_eq_none (by omega)]
section
variable {lk lim:Nat}{H:Heap}{av bv:AV}{a b:List Int}
set_option maxRecDepth 20000 in
theorem same22 (ha:RowI av a)(hb:RowI bv b)(hn:a.length≤1000000):callW X A lk lim 22 [av,bv] H=some (Bo (decide (a=b)),H):=by
 have hX:X lk lim 22 [av,bv] H=none:=noX1 (by decide) (by decide) (by decide)
 refine wb_callB [] hX A22 rfl (by rcases ha with⟨rfl,_⟩ | rfl<;>rcases hb with⟨rfl,_⟩ | rfl<;>rfl) ?_
 show WB ⟨callW X A,lk,H.length,[]⟩ t22B _ _ _
 generalize callW X A=C
 generalize hP:FinT [.tmp 4] true H (Bo (decide (a=b)),H)=P
 have fin:∀env t,find env 4=Bo t→decide (a=b)=t→P .ret env H:=fun env t h h2=>by
  rw[←hP,h2]
  simp[FinT,finish,resOf,resList,resOne,h,frz,below]
 clear hP
 have hloop:a.length=b.length→∀env,restrict [0,1,5] env=[(0,av),(1,bv),(5,I 0)]→WB ⟨C,lk,H.length,[]⟩ (.block 0 (.loop [0,1,5] t22L1)) (Fol ⟨C,lk,H.length,[]⟩ (.seq (.regN [] [kx 4 (.mv cT)]) .ret) P) env H:=by
  intro hl env hE
  refine wb_loop (σ:=Nat) (fun i=>[(0,av),(1,bv),(5,I i)]) (fun _=>H) (fun i=>i≤a.length∧∀j,j<i→a[j]?=b[j]?) (fun i=>a.length-i) ?_ 0 ⟨Nat.zero_le _,fun _ h=>absurd h (Nat.not_lt_zero _)⟩ hE rfl
  rintro i ⟨hi,hj⟩
  unfold t22L1
  generalize hR:Rnd _ _ _ _ _ _ _=R
  by_cases hk:i<a.length
  case neg=>
   obtain rfl:i=a.length:=by omega
   have hab:=eq_of_get hl hj
   have hfin:∀env,R (.exit 0) env H:=fun env=>by
    rw[←hR]
    show WB ⟨C,lk,H.length,[]⟩ (.seq (.regN [] [kx 4 (.mv cT)]) .ret) P env H
    simp
    exact fin _ _ rfl (decide_eq_true hab)
   rcases ha with⟨rfl,rfl⟩ | rfl
   ·simp
    exact hfin _
   ·simp
    exact hfin _
  obtain rfl:=ha.sl (by omega)
  obtain rfl:=hb.sl (by omega)
  obtain⟨p,hp⟩:∃p,a[i]?=some p:=⟨a[i],List.getElem?_eq_getElem hk⟩
  obtain⟨q,hq⟩:∃q,b[i]?=some q:=⟨b[i],List.getElem?_eq_getElem (by omega)⟩
  have hkb:i<b.length:=by omega
  have e1:(ints a)[i]'(by rw[ints_len];exact hk)=I p:=by
   have:=ints_at hp;rw[List.getElem?_eq_getElem (by rw[ints_len];exact hk)]at this;simpa using this
  have e2:(ints b)[i]'(by rw[ints_len];exact hkb)=I q:=by
   have:=ints_at hq;rw[List.getElem?_eq_getElem (by rw[ints_len];exact hkb)]at this;simpa using this
  have w:IntKind.i64.wrap ((i:Int)+1)=(i:Int)+1:=wrap64 (by omega) (by omega)
  by_cases hpq:p=q
  ·simp[hk,hkb,e1,e2,hpq,w]
   rw[←hR,rnd_nrm]
   refine⟨i+1,⟨hk,fun j h=>?_⟩,by omega,rfl,rfl⟩
   by_cases h2:j=i
   ·subst h2;rw[hp,hq,hpq]
   ·exact hj j (by omega)
  ·simp[hk,hkb,e1,e2,hpq,w]
   rw[←hR]
   exact fin _ _ rfl (decide_eq_false fun h=>hpq (by rw[h,hq]at hp;simpa using hp.symm))
 unfold t22B
 generalize (.block 0 (.loop [0,1,5] t22L1):AC)=LL at hloop ⊢
 by_cases hl:a.length=b.length
 ·have hlp:=hloop hl
  have hl2:((a.length:Int)==(b.length:Int))=true:=by rw[hl];simp
  rcases ha with⟨rfl,rfl⟩ | rfl<;>rcases hb with⟨rfl,rfl⟩ | rfl
  ·simp
   exact hlp _ rfl
  ·have hl:b.length=0:=by simpa using hl.symm
   simp[hl]
   exact hlp _ (by rw[hl];rfl)
  ·have hl:a.length=0:=by simpa using hl
   simp[hl]
   exact hlp _ (by rw[hl];rfl)
  ·simp[hl]
   exact hlp _ (by rw[hl];rfl)
 ·have hab:decide (a=b)=false:=decide_eq_false fun h=>hl (by rw[h])
  have hl2:¬((a.length:Int)=(b.length:Int)):=by omega
  rcases ha with⟨rfl,rfl⟩ | rfl<;>rcases hb with⟨rfl,rfl⟩ | rfl
  ·exact absurd rfl hl
  ·have hl3:¬(0:Int)=b.length:=by simpa using hl2
   simp[hl3]
   exact fin _ _ rfl hab
  ·have hl3:((a.length:Int) != 0)=true:=by simpa using hl2
   simp[hl3]
   exact fin _ _ rfl hab
  ·simp[hl2]
   exact fin _ _ rfl hab
set_option maxRecDepth 20000 in
theorem eq46 (ha:RowI av a)(hb:RowI bv b)(hn:a.length≤1000000):callW X A lk lim 46 [av,bv] H=some (Bo (decide (a=b)),H):=by
 have hX:X lk lim 46 [av,bv] H=none:=noX1 (by decide) (by decide) (by decide)
 refine wb_callB [] hX A46 rfl (by rcases ha with⟨rfl,_⟩ | rfl<;>rcases hb with⟨rfl,_⟩ | rfl<;>rfl) ?_
 show WB ⟨callW X A,lk,H.length,[]⟩ t46B _ _ _
 generalize callW X A=C
 generalize hP:FinT [.tmp 4] true H (Bo (decide (a=b)),H)=P
 have fin:∀env t,find env 4=Bo t→decide (a=b)=t→P .ret env H:=fun env t h h2=>by
  rw[←hP,h2]
  simp[FinT,finish,resOf,resList,resOne,h,frz,below]
 clear hP
 have hloop:a.length=b.length→∀env,restrict [0,1,12,13] env=[(0,av),(1,bv),(12,I a.length),(13,I 0)]→WB ⟨C,lk,H.length,[]⟩ (.block 0 (.loop [0,1,12,13] t46L1)) (Fol ⟨C,lk,H.length,[]⟩ (.seq (.regN [] [kx 4 (.mv cT)]) .ret) P) env H:=by
  intro hl env hE
  refine wb_loop (σ:=Nat) (fun i=>[(0,av),(1,bv),(12,I a.length),(13,I i)]) (fun _=>H) (fun i=>i≤a.length∧∀j,j<i→a[j]?=b[j]?) (fun i=>a.length-i) ?_ 0 ⟨Nat.zero_le _,fun _ h=>absurd h (Nat.not_lt_zero _)⟩ hE rfl
  rintro i ⟨hi,hj⟩
  unfold t46L1
  generalize hR:Rnd _ _ _ _ _ _ _=R
  by_cases hk:i<a.length
  case neg=>
   obtain rfl:i=a.length:=by omega
   have hab:=eq_of_get hl hj
   have hfin:∀env,R (.exit 0) env H:=fun env=>by
    rw[←hR]
    show WB ⟨C,lk,H.length,[]⟩ (.seq (.regN [] [kx 4 (.mv cT)]) .ret) P env H
    simp
    exact fin _ _ rfl (decide_eq_true hab)
   simp
   exact hfin _
  obtain rfl:=ha.sl (by omega)
  obtain rfl:=hb.sl (by omega)
  obtain⟨p,hp⟩:∃p,a[i]?=some p:=⟨a[i],List.getElem?_eq_getElem hk⟩
  obtain⟨q,hq⟩:∃q,b[i]?=some q:=⟨b[i],List.getElem?_eq_getElem (by omega)⟩
  have hkb:i<b.length:=by omega
  have e1:(ints a)[i]'(by rw[ints_len];exact hk)=I p:=by
   have:=ints_at hp;rw[List.getElem?_eq_getElem (by rw[ints_len];exact hk)]at this;simpa using this
  have e2:(ints b)[i]'(by rw[ints_len];exact hkb)=I q:=by
   have:=ints_at hq;rw[List.getElem?_eq_getElem (by rw[ints_len];exact hkb)]at this;simpa using this
  have w:IntKind.i64.wrap ((i:Int)+1)=(i:Int)+1:=wrap64 (by omega) (by omega)
  by_cases hpq:p=q
  ·simp[hk,hkb,e1,e2,hpq,w]
   rw[←hR,rnd_nrm]
   refine⟨i+1,⟨hk,fun j h=>?_⟩,by omega,rfl,rfl⟩
   by_cases h2:j=i
   ·subst h2;rw[hp,hq,hpq]
   ·exact hj j (by omega)
  ·simp[hk,hkb,e1,e2,hpq,w]
   rw[←hR]
   exact fin _ _ rfl (decide_eq_false fun h=>hpq (by rw[h,hq]at hp;simpa using hp.symm))
 unfold t46B
 generalize (.block 0 (.loop [0,1,12,13] t46L1):AC)=LL at hloop ⊢
 by_cases hl:a.length=b.length
 ·have hlp:=hloop hl
  have hl2:((a.length:Int)==(b.length:Int))=true:=by rw[hl];simp
  rcases ha with⟨rfl,rfl⟩ | rfl<;>rcases hb with⟨rfl,rfl⟩ | rfl
  ·simp
   exact hlp _ rfl
  ·have hl:b.length=0:=by simpa using hl.symm
   simp[hl]
   exact hlp _ (by rw[hl];rfl)
  ·have hl:a.length=0:=by simpa using hl
   simp[hl]
   exact hlp _ (by rw[hl];rfl)
  ·simp[hl]
   exact hlp _ (by rw[hl];rfl)
 ·have hab:decide (a=b)=false:=decide_eq_false fun h=>hl (by rw[h])
  have hl2:¬((a.length:Int)=(b.length:Int)):=by omega
  rcases ha with⟨rfl,rfl⟩ | rfl<;>rcases hb with⟨rfl,rfl⟩ | rfl
  ·exact absurd rfl hl
  ·have hl3:¬(0:Int)=b.length:=by simpa using hl2
   simp[hl3]
   exact fin _ _ rfl hab
  ·have hl3:((a.length:Int) != 0)=true:=by simpa using hl2
   simp[hl3]
   exact fin _ _ rfl hab
  ·simp[hl2]
   exact fin _ _ rfl hab
def ClI (v:AV)(k:Nat)(cl:List AV):Prop:=((v= .e0∧k=0)∨v= .sl k cl)∧cl.length=k*4∧∀c∈cl,∃z,c=U z
theorem ClI.sl {v:AV}{k:Nat}{cl:List AV}(h:ClI v k cl)(hl:0<k):v= .sl k cl:=by
 rcases h.1 with⟨_,h⟩ | h
 ·omega
 ·exact h
theorem eqU (a b c d a' b' c' d':Int):eqCells [1,1,1,1] [U a,U b,U c,U d] [U a',U b',U c',U d']=some (decide ([U a,U b,U c,U d]=[U a',U b',U c',U d'])):=by
 have e:∀a b:Int,eqScalar 1 (Value.int IntKind.u64 a) (Value.int IntKind.u64 b)=some (decide (a=b)):=fun a b=>by simp[eqScalar];rfl
 have e2:∀a b:Int,(U a=U b)=(a=b):=fun a b=>by simp
 simp[eqCells,e]
theorem eqU4 {x y:List AV}(hx:∃a b c d,x=[U a,U b,U c,U d])(hy:∃a b c d,y=[U a,U b,U c,U d]):eqCells [1,1,1,1] x y=some (decide (x=y)):=by
 obtain⟨a,b,c,d,rfl⟩:=hx
 obtain⟨a',b',c',d',rfl⟩:=hy
 exact eqU _ _ _ _ _ _ _ _
def cls (cl:List AV)(i:Nat):List AV:=(cl.drop (i*4)).take 4
theorem cls_eq:∀{k:Nat} {a b:List AV},a.length=k*4→b.length=k*4→(∀j,j<k→cls a j=cls b j)→a=b
 | 0,a,b,ha,hb,_=>by
  have ha:a=[]:=List.length_eq_zero_iff.1 (by omega)
  have hb:b=[]:=List.length_eq_zero_iff.1 (by omega)
  rw[ha,hb]
 | k+1,a,b,ha,hb,h=>by
  have h0:=h 0 (Nat.zero_lt_succ _)
  simp only[cls,Nat.zero_mul,List.drop_zero]at h0
  have hr:a.drop 4=b.drop 4:=cls_eq (k:=k) (by rw[List.length_drop];omega) (by rw[List.length_drop];omega) fun j hj=>by
   have:=h (j+1) (by omega)
   unfold cls at this ⊢
   rw[List.drop_drop,List.drop_drop,show 4+j*4=(j+1)*4 from by omega]
   exact this
  rw[←List.take_append_drop 4 a,←List.take_append_drop 4 b,h0,hr]
variable {k:Nat}{ca cb:List AV}
set_option maxRecDepth 20000 in
theorem eq45 {m:Nat}(ha:ClI av k ca)(hb:ClI bv m cb)(hn:k≤1000000):callW X A lk lim 45 [av,bv] H=some (Bo (decide (k=m∧ca=cb)),H):=by
 have hX:X lk lim 45 [av,bv] H=none:=noX1 (by decide) (by decide) (by decide)
 refine wb_callB [] hX A45 rfl (by rcases ha.1 with⟨rfl,_⟩ | rfl<;>rcases hb.1 with⟨rfl,_⟩ | rfl<;>rfl) ?_
 show WB ⟨callW X A,lk,H.length,[]⟩ t45B _ _ _
 generalize callW X A=C
 generalize hP:FinT [.tmp 4] true H (Bo (decide (k=m∧ca=cb)),H)=P
 have fin:∀env t,find env 4=Bo t→decide (k=m∧ca=cb)=t→P .ret env H:=fun env t h h2=>by
  rw[←hP,h2]
  simp[FinT,finish,resOf,resList,resOne,h,frz,below]
 clear hP
 have hloop:k=m→∀env,restrict [0,1,12,13] env=[(0,av),(1,bv),(12,I k),(13,I 0)]→WB ⟨C,lk,H.length,[]⟩ (.block 0 (.loop [0,1,12,13] t45L1)) (Fol ⟨C,lk,H.length,[]⟩ (.seq (.regN [] [kx 4 (.mv cT)]) .ret) P) env H:=by
  intro hl env hE
  subst hl
  refine wb_loop (σ:=Nat) (fun i=>[(0,av),(1,bv),(12,I k),(13,I i)]) (fun _=>H) (fun i=>i≤k∧∀j,j<i→cls ca j=cls cb j) (fun i=>k-i) ?_ 0 ⟨Nat.zero_le _,fun _ h=>absurd h (Nat.not_lt_zero _)⟩ hE rfl
  rintro i ⟨hi,hj⟩
  unfold t45L1
  generalize hR:Rnd _ _ _ _ _ _ _=R
  by_cases hk:i<k
  case neg=>
   obtain rfl:i=k:=by omega
   have hab:=cls_eq ha.2.1 hb.2.1 hj
   have hfin:∀env,R (.exit 0) env H:=fun env=>by
    rw[←hR]
    show WB ⟨C,lk,H.length,[]⟩ (.seq (.regN [] [kx 4 (.mv cT)]) .ret) P env H
    simp
    exact fin _ _ rfl (decide_eq_true ⟨rfl,hab⟩)
   simp
   exact hfin _
  obtain rfl:=ha.sl (by omega)
  obtain rfl:=hb.sl (by omega)
  obtain⟨p0,p1,p2,p3,hp,h4⟩:=cls_at ha.2.1 ha.2.2 hk
  obtain⟨q0,q1,q2,q3,hq,h5⟩:=cls_at hb.2.1 hb.2.2 hk
  have hc:=eqU4 ⟨p0,p1,p2,p3,hp⟩ ⟨q0,q1,q2,q3,hq⟩
  have hj2:∀h:(ca.drop (i*4)).take 4=(cb.drop (i*4)).take 4,∀j,j<i+1→cls ca j=cls cb j:=fun h j hj2=>by
   by_cases h2:j=i
   ·subst h2;exact h
   ·exact hj j (by omega)
  have hno:¬(ca.drop (i*4)).take 4=(cb.drop (i*4)).take 4→¬ca=cb:=fun h e=>h (by rw[e])
  rw[hp,hq]at hc hj2 hno
  have w:IntKind.i64.wrap ((i:Int)+1)=(i:Int)+1:=wrap64 (by omega) (by omega)
  generalize [U p0,U p1,U p2,U p3]=P4 at hp hc hj2 hno
  generalize [U q0,U q1,U q2,U q3]=Q4 at hq hc hj2 hno
  by_cases hpq:P4=Q4
  ·rw[decide_eq_true hpq]at hc
   simp[hk,hp,hq,h4,h5,hc,w]
   rw[←hR,rnd_nrm]
   exact⟨i+1,⟨hk,hj2 hpq⟩,by omega,rfl,rfl⟩
  ·rw[decide_eq_false hpq]at hc
   simp[hk,hp,hq,h4,h5,hc,w]
   rw[←hR]
   exact fin _ _ rfl (decide_eq_false fun h=>hno hpq h.2)
 unfold t45B
 generalize (.block 0 (.loop [0,1,12,13] t45L1):AC)=LL at hloop ⊢
 by_cases hl:k=m
 ·have hlp:=hloop hl
  subst hl
  rcases ha.1 with⟨rfl,h0⟩ | rfl<;>rcases hb.1 with⟨rfl,h1⟩ | rfl
  ·simp
   exact hlp _ (by rw[h0];rfl)
  ·simp[h0]
   exact hlp _ (by rw[h0];rfl)
  ·simp[h1]
   exact hlp _ (by rw[h1];rfl)
  ·simp
   exact hlp _ rfl
 ·have hab:decide (k=m∧ca=cb)=false:=decide_eq_false fun h=>hl h.1
  have hl2:¬((k:Int)=(m:Int)):=by omega
  rcases ha.1 with⟨rfl,h0⟩ | rfl<;>rcases hb.1 with⟨rfl,h1⟩ | rfl
  ·omega
  ·have hl3:¬(0:Int)=m:=by omega
   simp[hl3]
   exact fin _ _ rfl hab
  ·have hl3:((k:Int) != 0)=true:=by simp;omega
   simp[hl3]
   exact fin _ _ rfl hab
  ·simp[hl2]
   exact fin _ _ rfl hab
end
end Go.Proofs.Ytnhennjliinplaa

namespace Go.Proofs.Ytnhennjliinplaa
open Go Go.Hm
def RwI (v:AV)(vs:List AV)(nx:List (List Int)):Prop:=((v= .e0∧nx=[])∨v= .sl nx.length vs)∧∀(j:Nat) l,nx[j]?=some l→∃v,vs[j]?=some v∧RowI v l
theorem RwI.sl {v:AV}{vs:List AV}{nx:List (List Int)}(h:RwI v vs nx)(hl:0<nx.length):v= .sl nx.length vs:=by
 rcases h.1 with⟨_,h⟩ | h
 ·rw[h]at hl;simp at hl
 ·exact h
theorem get_lt {α:Type}{l:List α}{i:Nat}{x:α}(h:l[i]?=some x):i<l.length:=(List.getElem?_eq_some_iff.1 h).1
theorem get_of {α:Type}{l:List α}{i:Nat}(h:i<l.length):∃x,l[i]?=some x:=⟨l[i],List.getElem?_eq_getElem h⟩
theorem get_some {α:Type}{l:List α}{i:Nat}{x:α}(h:l[i]?=some x)(hi:i<l.length):l[i]=x:=by
 rw[List.getElem?_eq_getElem hi]at h;simpa using h
section
variable {lk lim:Nat}{H:Heap}{av bv:AV}{va vb:List AV}{a b:List (List Int)}
set_option maxRecDepth 20000 in
theorem eq47 (ha:RwI av va a)(hb:RwI bv vb b)(hn:a.length≤1000000)(hr:∀l∈a,l.length≤1000000):callW X A lk lim 47 [av,bv,.fn 46 []] H=some (Bo (decide (a=b)),H):=by
 have hX:X lk lim 47 [av,bv,.fn 46 []] H=none:=noX1 (by decide) (by decide) (by decide)
 refine wb_callB [] hX A47 rfl (by rcases ha.1 with⟨rfl,_⟩ | rfl<;>rcases hb.1 with⟨rfl,_⟩ | rfl<;>rfl) ?_
 show WB ⟨callW X A,lk,H.length,[]⟩ t47B _ _ _
 have h46:∀{p q:AV} {x y:List Int},RowI p x→RowI q y→x∈a→callW X A lk H.length 46 [p,q] H=some (Bo (decide (x=y)),H):=fun h1 h2 h3=>eq46 h1 h2 (hr _ h3)
 generalize callW X A=C at h46 ⊢
 generalize hP:FinT [.tmp 6] true H (Bo (decide (a=b)),H)=P
 have fin:∀env t,find env 6=Bo t→decide (a=b)=t→P .ret env H:=fun env t h h2=>by
  rw[←hP,h2]
  simp[FinT,finish,resOf,resList,resOne,h,frz,below]
 clear hP
 have hloop:a.length=b.length→∀env,restrict [1,2,15,16,17] env=[(1,bv),(2,.fn 46 []),(15,av),(16,I a.length),(17,I 0)]→WB ⟨C,lk,H.length,[]⟩ (.block 0 (.loop [1,2,15,16,17] t47L1)) (Fol ⟨C,lk,H.length,[]⟩ (.seq (.regN [] [kx 6 (.mv cT)]) .ret) P) env H:=by
  intro hl env hE
  refine wb_loop (σ:=Nat) (fun i=>[(1,bv),(2,.fn 46 []),(15,av),(16,I a.length),(17,I i)]) (fun _=>H) (fun i=>i≤a.length∧∀j,j<i→a[j]?=b[j]?) (fun i=>a.length-i) ?_ 0 ⟨Nat.zero_le _,fun _ h=>absurd h (Nat.not_lt_zero _)⟩ hE rfl
  rintro i ⟨hi,hj⟩
  unfold t47L1
  generalize hR:Rnd _ _ _ _ _ _ _=R
  by_cases hk:i<a.length
  case neg=>
   obtain rfl:i=a.length:=by omega
   have hab:=eq_of_get hl hj
   have hfin:∀env,R (.exit 0) env H:=fun env=>by
    rw[←hR]
    show WB ⟨C,lk,H.length,[]⟩ (.seq (.regN [] [kx 6 (.mv cT)]) .ret) P env H
    simp
    exact fin _ _ rfl (decide_eq_true hab)
   simp
   exact hfin _
  obtain rfl:=ha.sl (by omega)
  obtain rfl:=hb.sl (by omega)
  obtain⟨p,hp⟩:=get_of hk
  obtain⟨q,hq⟩:=get_of (show i<b.length by omega)
  have hkb:i<b.length:=by omega
  obtain⟨pv,hpv,hpr⟩:=ha.2 i p hp
  obtain⟨qv,hqv,hqr⟩:=hb.2 i q hq
  have hc:=h46 hpr hqr (List.mem_of_getElem? hp)
  have w:IntKind.i64.wrap ((i:Int)+1)=(i:Int)+1:=wrap64 (by omega) (by omega)
  have hok:decide (p=q)=true→R .nrm [(17,I ((i+1:Nat):Int))] H→True:=fun _ _=>trivial
  by_cases hpq:p=q
  ·rw[decide_eq_true hpq]at hc
   have hn2:∀env,restrict [1,2,15,16,17] env=[(1,.sl b.length vb),(2,.fn 46 []),(15,.sl a.length va),(16,I a.length),(17,I ((i+1:Nat):Int))]→R .nrm env H:=fun env h=>by
    rw[←hR,rnd_nrm]
    refine⟨i+1,⟨hk,fun j h=>?_⟩,by omega,h,rfl⟩
    by_cases h2:j=i
    ·subst h2;rw[hp,hq,hpq]
    ·exact hj j (by omega)
   rcases hpr with⟨rfl,_⟩ | rfl<;>rcases hqr with⟨rfl,_⟩ | rfl
   all_goals
    simp[hk,hkb,hpv,hqv,hc,w]
    exact hn2 _ rfl
  ·rw[decide_eq_false hpq]at hc
   have hf2:∀env,find env 6=Bo false→R .ret env H:=fun env h=>by
    rw[←hR]
    exact fin _ _ h (decide_eq_false fun h=>hpq (by rw[h,hq]at hp;simpa using hp.symm))
   rcases hpr with⟨rfl,_⟩ | rfl<;>rcases hqr with⟨rfl,_⟩ | rfl
   all_goals
    simp[hk,hkb,hpv,hqv,hc,w]
    exact hf2 _ rfl
 unfold t47B
 generalize (.block 0 (.loop [1,2,15,16,17] t47L1):AC)=LL at hloop ⊢
 by_cases hl:a.length=b.length
 ·have hlp:=hloop hl
  rcases ha.1 with⟨rfl,rfl⟩ | rfl<;>rcases hb.1 with⟨rfl,rfl⟩ | rfl
  ·simp
   exact hlp _ rfl
  ·have hl:b.length=0:=by simpa using hl.symm
   simp[hl]
   exact hlp _ (by rw[hl];rfl)
  ·have hl:a.length=0:=by simpa using hl
   simp[hl]
   exact hlp _ (by rw[hl];rfl)
  ·simp[hl]
   exact hlp _ (by rw[hl];rfl)
 ·have hab:decide (a=b)=false:=decide_eq_false fun h=>hl (by rw[h])
  have hl2:¬((a.length:Int)=(b.length:Int)):=by omega
  rcases ha.1 with⟨rfl,rfl⟩ | rfl<;>rcases hb.1 with⟨rfl,rfl⟩ | rfl
  ·exact absurd rfl hl
  ·have hl3:¬(0:Int)=b.length:=by simpa using hl2
   simp[hl3]
   exact fin _ _ rfl hab
  ·have hl3:((a.length:Int) != 0)=true:=by simpa using hl2
   simp[hl3]
   exact fin _ _ rfl hab
  ·simp[hl2]
   exact fin _ _ rfl hab
end
theorem NfOk.cl {N:Nf}{cv nv rv:AV}{vs:List AV}(h:NfOk N cv nv rv vs):ClI cv N.k N.cl:=⟨h.c,h.lc,h.u⟩
theorem NfOk.nx {N:Nf}{cv nv rv:AV}{vs:List AV}(h:NfOk N cv nv rv vs):RwI nv vs N.nx:=⟨h.n,h.v⟩
noncomputable def sameN (N M:Nf):Bool:=decide (N.k=M.k∧N.cl=M.cl)&&(decide (N.rl=M.rl)&&decide (N.nx=M.nx))
abbrev nfV (N:Nf)(vs:List AV):AV:=.agg [.sl N.k N.cl,.sl N.nx.length vs,.sl N.rl.length (ints N.rl)]
abbrev NfE (N:Nf)(vs:List AV):Prop:=NfOk N (.sl N.k N.cl) (.sl N.nx.length vs) (.sl N.rl.length (ints N.rl)) vs
section
variable {lk lim:Nat}{H:Heap}{N M:Nf}{vs ws:List AV}
set_option maxRecDepth 20000 in
theorem same23 (hN:NfE N vs)(hM:NfE M ws)(hk:N.k≤1000000)(hr:N.rl.length≤1000000)(hx:N.nx.length≤1000000∧∀l∈N.nx,l.length≤1000000):callW X A lk lim 23 [nfV N vs,nfV M ws] H=some (Bo (sameN N M),H):=by
 have hX:X lk lim 23 [nfV N vs,nfV M ws] H=none:=noX1 (by decide) (by decide) (by decide)
 refine wb_callB [2,3] hX A23 rfl (by simp[argOk]) ?_
 show WB ⟨callW X A,lk,H.length,[2,3]⟩ t23B _ _ _
 have h45:=eq45 (lk:=lk) (lim:=H.length) (H:=H) hN.cl hM.cl hk
 have h46:=eq46 (lk:=lk) (lim:=H.length) (H:=H) hN.r hM.r hr
 have h47:=eq47 (lk:=lk) (lim:=H.length) (H:=H) hN.nx hM.nx hx.1 hx.2
 generalize callW X A=C at h45 h46 h47 ⊢
 unfold sameN
 generalize decide (N.k=M.k∧N.cl=M.cl)=t1 at h45 ⊢
 generalize decide (N.rl=M.rl)=t2 at h46 ⊢
 generalize decide (N.nx=M.nx)=t3 at h47 ⊢
 generalize hP:FinT [.tmp 4] true H (Bo (t1&&(t2&&t3)),H)=P
 have fin:∀env t,find env 4=Bo t→(t1&&(t2&&t3))=t→P .ret env H:=fun env t h h2=>by
  rw[←hP,h2]
  simp[FinT,finish,resOf,resList,resOne,h,frz,below]
 clear hP
 unfold t23B
 cases t1
 ·simp[h45]
  exact fin _ _ rfl rfl
 ·cases t2
  ·simp[h45,h46]
   exact fin _ _ rfl rfl
  ·simp[h45,h46,h47]
   exact fin _ _ rfl rfl
set_option maxRecDepth 20000 in
theorem l26a (hN:NfE N vs)(hM:NfE M ws)(hkk:N.k=M.k)(hk:N.k≤1000000){C:Orc}{Q:Ex→Kt}{E:Env}
  (hE:restrict [2,3,5] E=[(2,.box [.sl N.k N.cl,.sl N.nx.length vs,.sl N.rl.length (ints N.rl)]),(3,.box [.sl M.k M.cl,.sl M.nx.length ws,.sl M.rl.length (ints M.rl)]),(5,I 0)])
  (hQ:N.cl=M.cl→∀E',restrict [2,3] E'=[(2,.box [.sl N.k N.cl,.sl N.nx.length vs,.sl N.rl.length (ints N.rl)]),(3,.box [.sl M.k M.cl,.sl M.nx.length ws,.sl M.rl.length (ints M.rl)])]→Q .nrm E' H) (hR:N.cl≠M.cl→Q .ret [(4,Bo false)] H):
  WB ⟨C,lk,lim,[2,3]⟩ (.block 0 (.loop [2,3,5] t26L1)) Q E H:=by
 refine wb_loop (σ:=Nat) (fun i=>[(2,.box [.sl N.k N.cl,.sl N.nx.length vs,.sl N.rl.length (ints N.rl)]),(3,.box [.sl M.k M.cl,.sl M.nx.length ws,.sl M.rl.length (ints M.rl)]),(5,I i)]) (fun _=>H) (fun i=>i≤N.k∧∀j,j<i→cls N.cl j=cls M.cl j) (fun i=>N.k-i) ?_ 0 ⟨Nat.zero_le _,fun _ h=>absurd h (Nat.not_lt_zero _)⟩ hE rfl
 rintro i ⟨hi,hj⟩
 have hM2:=hM.lc
 have hM3:=hM.u
 rw[←hkk]at hM2
 unfold t26L1
 generalize hR2:Rnd _ _ _ _ _ _ _=R
 by_cases hkl:i<N.k
 case neg=>
  obtain rfl:i=N.k:=by omega
  have hab:=cls_eq hN.lc hM2 hj
  simp
  rw[←hR2]
  exact hQ hab _ rfl
 obtain⟨p0,p1,p2,p3,hp,h4⟩:=cls_at hN.lc hN.u hkl
 obtain⟨q0,q1,q2,q3,hq,h5⟩:=cls_at hM2 hM3 hkl
 have hc:=eqU4 ⟨p0,p1,p2,p3,hp⟩ ⟨q0,q1,q2,q3,hq⟩
 have hj2:∀h:(N.cl.drop (i*4)).take 4=(M.cl.drop (i*4)).take 4,∀j,j<i+1→cls N.cl j=cls M.cl j:=fun h j hj2=>by
  by_cases h2:j=i
  ·subst h2;exact h
  ·exact hj j (by omega)
 have hno:¬(N.cl.drop (i*4)).take 4=(M.cl.drop (i*4)).take 4→¬N.cl=M.cl:=fun h e=>h (by rw[e])
 rw[hp,hq]at hc hj2 hno
 have w:IntKind.i64.wrap ((i:Int)+1)=(i:Int)+1:=wrap64 (by omega) (by omega)
 have hkm:i<M.k:=by omega
 generalize [U p0,U p1,U p2,U p3]=P4 at hp hc hj2 hno
 generalize [U q0,U q1,U q2,U q3]=Q4 at hq hc hj2 hno
 by_cases hpq:P4=Q4
 ·rw[decide_eq_true hpq]at hc
  simp[hkl,hkm,hp,hq,h4,h5,hc,w]
  rw[←hR2,rnd_nrm]
  exact⟨i+1,⟨hkl,hj2 hpq⟩,by omega,rfl,rfl⟩
 ·rw[decide_eq_false hpq]at hc
  simp[hkl,hkm,hp,hq,h4,h5,hc,w]
  rw[←hR2]
  exact hR (hno hpq)
set_option maxRecDepth 20000 in
theorem l26b (hkk:N.rl.length=M.rl.length)(hk:N.rl.length≤1000000){C:Orc}{Q:Ex→Kt}{E:Env}
  (hE:restrict [2,3,6] E=[(2,.box [.sl N.k N.cl,.sl N.nx.length vs,.sl N.rl.length (ints N.rl)]),(3,.box [.sl M.k M.cl,.sl M.nx.length ws,.sl M.rl.length (ints M.rl)]),(6,I 0)])
  (hQ:N.rl=M.rl→∀E',restrict [2,3] E'=[(2,.box [.sl N.k N.cl,.sl N.nx.length vs,.sl N.rl.length (ints N.rl)]),(3,.box [.sl M.k M.cl,.sl M.nx.length ws,.sl M.rl.length (ints M.rl)])]→Q .nrm E' H) (hR:N.rl≠M.rl→Q .ret [(4,Bo false)] H):
  WB ⟨C,lk,lim,[2,3]⟩ (.block 2 (.loop [2,3,6] t26L2)) Q E H:=by
 refine wb_loop (σ:=Nat) (fun i=>[(2,.box [.sl N.k N.cl,.sl N.nx.length vs,.sl N.rl.length (ints N.rl)]),(3,.box [.sl M.k M.cl,.sl M.nx.length ws,.sl M.rl.length (ints M.rl)]),(6,I i)]) (fun _=>H) (fun i=>i≤N.rl.length∧∀j,j<i→N.rl[j]?=M.rl[j]?) (fun i=>N.rl.length-i) ?_ 0 ⟨Nat.zero_le _,fun _ h=>absurd h (Nat.not_lt_zero _)⟩ hE rfl
 rintro i ⟨hi,hj⟩
 unfold t26L2
 generalize hR2:Rnd _ _ _ _ _ _ _=R
 by_cases hkl:i<N.rl.length
 case neg=>
  obtain rfl:i=N.rl.length:=by omega
  have hab:=eq_of_get hkk hj
  simp
  rw[←hR2]
  exact hQ hab _ rfl
 have hkm:i<M.rl.length:=by omega
 obtain⟨p,hp⟩:=get_of hkl
 obtain⟨q,hq⟩:=get_of hkm
 have e1:=get_some (ints_at hp) (by rw[ints_len];exact hkl)
 have e2:=get_some (ints_at hq) (by rw[ints_len];exact hkm)
 have w:IntKind.i64.wrap ((i:Int)+1)=(i:Int)+1:=wrap64 (by omega) (by omega)
 by_cases hpq:p=q
 ·simp[hkl,hkm,e1,e2,hpq,w]
  rw[←hR2,rnd_nrm]
  refine⟨i+1,⟨hkl,fun j h=>?_⟩,by omega,rfl,rfl⟩
  by_cases h2:j=i
  ·subst h2;rw[hp,hq,hpq]
  ·exact hj j (by omega)
 ·simp[hkl,hkm,e1,e2,hpq,w]
  rw[←hR2]
  exact hR fun h=>hpq (by rw[h,hq]at hp;simpa using hp.symm)
end
end Go.Proofs.Ytnhennjliinplaa

namespace Go.Proofs.Ytnhennjliinplaa
open Go Go.Hm
abbrev bxV (N:Nf)(vs:List AV):AV:=.box [.sl N.k N.cl,.sl N.nx.length vs,.sl N.rl.length (ints N.rl)]
section
variable {lk lim:Nat}{H:Heap}{N M:Nf}{vs ws:List AV}{i:Nat}{x y:List Int}{C:Orc}{Q:Ex→Kt}{E:Env}
set_option maxRecDepth 20000 in
theorem l26c {xv yv:AV}(hi:i<N.nx.length)(hi2:i<M.nx.length)(hx:vs[i]?=some xv∧RowI xv x)(hy:ws[i]?=some yv∧RowI yv y)(hkk:x.length=y.length)(hk:x.length≤1000000)
  (hE:restrict [2,3,7,8] E=[(2,bxV N vs),(3,bxV M ws),(7,I i),(8,I 0)])
  (hQ:x=y→∀E',restrict [2,3,7] E'=[(2,bxV N vs),(3,bxV M ws),(7,I i)]→Q .nrm E' H) (hR:x≠y→Q .ret [(4,Bo false)] H):
  WB ⟨C,lk,lim,[2,3]⟩ (.block 6 (.loop [2,3,7,8] t26L3)) Q E H:=by
 refine wb_loop (σ:=Nat) (fun j=>[(2,bxV N vs),(3,bxV M ws),(7,I i),(8,I j)]) (fun _=>H) (fun i=>i≤x.length∧∀j,j<i→x[j]?=y[j]?) (fun i=>x.length-i) ?_ 0 ⟨Nat.zero_le _,fun _ h=>absurd h (Nat.not_lt_zero _)⟩ hE rfl
 rintro j ⟨hj0,hj⟩
 unfold t26L3
 generalize hR2:Rnd _ _ _ _ _ _ _=R
 obtain⟨hx1,hx2⟩:=hx
 obtain⟨hy1,hy2⟩:=hy
 by_cases hkl:j<x.length
 case neg=>
  obtain rfl:j=x.length:=by omega
  have hab:=eq_of_get hkk hj
  rcases hx2 with⟨rfl,rfl⟩ | rfl
  ·simp[hi,hx1]
   rw[←hR2]
   exact hQ hab _ rfl
  ·simp[hi,hx1]
   rw[←hR2]
   exact hQ hab _ rfl
 have hkm:j<y.length:=by omega
 obtain rfl:=hx2.sl (by omega)
 obtain rfl:=hy2.sl (by omega)
 obtain⟨p,hp⟩:=get_of hkl
 obtain⟨q,hq⟩:=get_of hkm
 have e1:=get_some (ints_at hp) (by rw[ints_len];exact hkl)
 have e2:=get_some (ints_at hq) (by rw[ints_len];exact hkm)
 have w:IntKind.i64.wrap ((j:Int)+1)=(j:Int)+1:=wrap64 (by omega) (by omega)
 by_cases hpq:p=q
 ·simp[hi,hi2,hx1,hy1,hkl,hkm,e1,e2,hpq,w]
  rw[←hR2,rnd_nrm]
  refine⟨j+1,⟨hkl,fun j' h=>?_⟩,by omega,rfl,rfl⟩
  by_cases h2:j'=j
  ·subst h2;rw[hp,hq,hpq]
  ·exact hj j' (by omega)
 ·simp[hi,hi2,hx1,hy1,hkl,hkm,e1,e2,hpq,w]
  rw[←hR2]
  exact hR fun h=>hpq (by rw[h,hq]at hp;simpa using hp.symm)
def a26:AC:=.seq (.regD [2,3,7] 0 [ kF 77 1 2,kS 78 2 77,kM 79 7,kI 80 1 78 79,kL 81 80,kN 82 81,kF 83 1 3,kS 84 3 83,kM 85 7,kI 86 1 84 85,kL 87 86,kN 88 87,kx 89 (.bini .neq (ux 82) (ux 88))]) (.cond (ux 89) (.seq (.regN [] [kx 4 (.mv cF)]) .ret) .skip)
theorem a26_ok {xv yv:AV}(hi:i<N.nx.length)(hi2:i<M.nx.length)(hx:vs[i]?=some xv∧RowI xv x)(hy:ws[i]?=some yv∧RowI yv y)
  (hE:restrict [2,3,7] E=[(2,bxV N vs),(3,bxV M ws),(7,I i)])
  (hQ:x.length=y.length→∀E',restrict [2,3,7] E'=[(2,bxV N vs),(3,bxV M ws),(7,I i)]→Q .nrm E' H) (hR:x.length≠y.length→Q .ret [(4,Bo false)] H):
  WB ⟨C,lk,lim,[2,3]⟩ a26 Q E H:=by
 obtain⟨hx1,hx2⟩:=hx
 obtain⟨hy1,hy2⟩:=hy
 unfold a26
 rw[wb_seq,wb_regD rfl,hE]
 by_cases hl:x.length=y.length
 ·have hQ2:=hQ hl
  rcases hx2 with⟨rfl,rfl⟩ | rfl<;>rcases hy2 with⟨rfl,rfl⟩ | rfl
  ·simp[hi,hi2,hx1,hy1]
   exact hQ2 _ rfl
  ·have hl:y.length=0:=by simpa using hl.symm
   rw[hl]at hy1
   simp[hi,hi2,hx1,hy1]
   exact hQ2 _ rfl
  ·have hl:x.length=0:=by simpa using hl
   rw[hl]at hx1
   simp[hi,hi2,hx1,hy1]
   exact hQ2 _ rfl
  ·rw[hl]at hx1
   simp[hi,hi2,hx1,hy1]
   exact hQ2 _ rfl
 ·have hR2:=hR hl
  have hl2:((x.length:Int) != (y.length:Int))=true:=by simp;omega
  rcases hx2 with⟨rfl,rfl⟩ | rfl<;>rcases hy2 with⟨rfl,rfl⟩ | rfl
  ·exact absurd rfl hl
  ·have hl3:((0:Int) != (y.length:Int))=true:=hl2
   simp[hi,hi2,hx1,hy1,hl3]
   exact hR2
  ·have hl3:((x.length:Int) != 0)=true:=hl2
   simp[hi,hi2,hx1,hy1,hl3]
   exact hR2
  ·simp[hi,hi2,hx1,hy1,hl2]
   exact hR2
set_option maxRecDepth 20000 in
theorem l26d (hN:RwI (.sl N.nx.length vs) vs N.nx)(hM:RwI (.sl M.nx.length ws) ws M.nx)(hkk:N.nx.length=M.nx.length)(hk:N.nx.length≤1000000∧∀l∈N.nx,l.length≤1000000)
  (hE:restrict [2,3,7] E=[(2,bxV N vs),(3,bxV M ws),(7,I 0)])
  (hQ:N.nx=M.nx→∀E',Q .nrm E' H) (hR:N.nx≠M.nx→Q .ret [(4,Bo false)] H):
  WB ⟨C,lk,lim,[2,3]⟩ (.block 4 (.loop [2,3,7] t26L4)) Q E H:=by
 refine wb_loop (σ:=Nat) (fun i=>[(2,bxV N vs),(3,bxV M ws),(7,I i)]) (fun _=>H) (fun i=>i≤N.nx.length∧∀j,j<i→N.nx[j]?=M.nx[j]?) (fun i=>N.nx.length-i) ?_ 0 ⟨Nat.zero_le _,fun _ h=>absurd h (Nat.not_lt_zero _)⟩ hE rfl
 rintro i ⟨hi,hj⟩
 have he:t26L4= .seq (.seq (.regN [2,3,7] [kM 70 7,kF 71 1 2,kS 72 2 71,kN 73 72,kT 74 70 73]) (.cond (ux 74) .skip (.exit 4))) (.seq (.block 5 (.seq a26 (.seq (.regN [2,3,7] [kZ 8]) (.block 6 (.loop [2,3,7,8] t26L3))))) (.regN [2,3,7] [kM 75 7,kU 76 75,kM 7 76])):=rfl
 rw[he]
 generalize hR2:Rnd _ _ _ _ _ _ _=R
 by_cases hkl:i<N.nx.length
 case neg=>
  obtain rfl:i=N.nx.length:=by omega
  have hab:=eq_of_get hkk hj
  generalize a26=F
  generalize (.block 6 (.loop [2,3,7,8] t26L3):AC)=LL
  simp
  rw[←hR2]
  exact hQ hab _
 have hkm:i<M.nx.length:=by omega
 obtain⟨x,hx⟩:=get_of hkl
 obtain⟨y,hy⟩:=get_of hkm
 obtain⟨xv,hxv,hxr⟩:=hN.2 i x hx
 obtain⟨yv,hyv,hyr⟩:=hM.2 i y hy
 have hno:¬x=y→R .ret [(4,Bo false)] H:=fun h=>by
  rw[←hR2]
  exact hR fun e=>h (by rw[e,hy]at hx;simpa using hx.symm)
 have hyes:x=y→∀env,restrict [2,3,7] env=[(2,bxV N vs),(3,bxV M ws),(7,I ((i+1:Nat):Int))]→R .nrm env H:=fun hpq env h=>by
  rw[←hR2,rnd_nrm]
  refine⟨i+1,⟨hkl,fun j h=>?_⟩,by omega,h,rfl⟩
  by_cases h2:j=i
  ·subst h2;rw[hx,hy,hpq]
  ·exact hj j (by omega)
 have w:IntKind.i64.wrap ((i:Int)+1)=(i:Int)+1:=wrap64 (by omega) (by omega)
 have hb:∀E,restrict [2,3,7] E=[(2,bxV N vs),(3,bxV M ws),(7,I i)]→WB ⟨C,lk,lim,[2,3]⟩ (.block 5 (.seq a26 (.seq (.regN [2,3,7] [kZ 8]) (.block 6 (.loop [2,3,7,8] t26L3))))) (Fol ⟨C,lk,lim,[2,3]⟩ (.regN [2,3,7] [kM 75 7,kU 76 75,kM 7 76]) R) E H:=fun E hE=>by
  rw[wb_block,wb_seq]
  refine a26_ok hkl hkm ⟨hxv,hxr⟩ ⟨hyv,hyr⟩ hE (fun hl E' hE'=>?_) (fun hl=>?_)
  ·rw[fol_nrm,wb_seq,wb_regN,hE']
   have hl3:∀E,restrict [2,3,7,8] E=[(2,bxV N vs),(3,bxV M ws),(7,I i),(8,I 0)]→WB ⟨C,lk,lim,[2,3]⟩ (.block 6 (.loop [2,3,7,8] t26L3)) (BlkE 5 (Fol ⟨C,lk,lim,[2,3]⟩ (.regN [2,3,7] [kM 75 7,kU 76 75,kM 7 76]) R)) E H:=fun E hE=>
    l26c hkl hkm ⟨hxv,hxr⟩ ⟨hyv,hyr⟩ hl (hk.2 x (List.mem_of_getElem? hx)) hE (fun h E2 hE2=>by
     rw[blk_nrm,fol_nrm,wb_regN,hE2]
     simp[w]
     exact hyes h _ rfl) fun h=>by
     rw[blk_ret,fol_ret]
     exact hno h
   generalize (.block 6 (.loop [2,3,7,8] t26L3):AC)=LL at hl3 ⊢
   simp
   exact hl3 _ rfl
  ·rw[fol_ret,blk_ret,fol_ret]
   exact hno fun h=>hl (by rw[h])
 generalize (.block 5 (.seq a26 (.seq (.regN [2,3,7] [kZ 8]) (.block 6 (.loop [2,3,7,8] t26L3)))):AC)=F at hb ⊢
 simp[hkl]
 exact hb _ rfl
def g26:AC:=(.regN [2,3] [ kF 9 0 2,kS 10 2 9,kN 11 10,kF 12 0 3,kS 13 3 12,kN 14 13,kx 15 (.bini .neq (ux 11) (ux 14)),kM 16 15,zF 17 16 1 2,zS 18 16 2 17,zN 19 16 18,zF 20 16 1 3,zS 21 16 3 20,zN 22 16 21,kz 23 16 (.bini .neq (ux 19) (ux 22)),kO 24 16 23,kM 25 24,zF 26 25 2 2,zS 27 25 2 26,zN 28 25 27,zF 29 25 2 3,zS 30 25 3 29,zN 31 25 30,kz 32 25 (.bini .neq (ux 28) (ux 31)),kO 33 25 32])
def u26:AC:=.seq (.seq (.regN [2,3] [kZ 5]) (.block 0 (.loop [2,3,5] t26L1))) (.seq (.seq (.regN [2,3] [kZ 6]) (.block 2 (.loop [2,3,6] t26L2))) (.seq (.seq (.regN [2,3] [kZ 7]) (.block 4 (.loop [2,3,7] t26L4))) (.seq (.regN [] [kx 4 (.mv cT)]) .ret)))
theorem e26:t26B= .seq (.regN [0,1] [kB 2 3 0,kB 3 3 1,kx 4 (.mv cF)]) (.seq (.seq g26 (.cond (ux 33) (.seq (.regN [] [kx 4 (.mv cF)]) .ret) .skip)) u26):=rfl
theorem g26_ok (hE:restrict [2,3] E=[(2,bxV N vs),(3,bxV M ws)])
  (hQ:∀E',find E' 33=Bo (!(decide (N.k=M.k∧N.nx.length=M.nx.length∧N.rl.length=M.rl.length)))→restrict [2,3] E'=[(2,bxV N vs),(3,bxV M ws)]→Q .nrm E' H):
  WB ⟨C,lk,lim,[2,3]⟩ g26 Q E H:=by
 unfold g26
 rw[wb_regN,hE]
 by_cases h1:N.k=M.k
 ·by_cases h2:N.nx.length=M.nx.length
  ·by_cases h3:N.rl.length=M.rl.length
   ·rw[decide_eq_true (⟨h1,h2,h3⟩:_∧_)]at hQ
    simp[h1,h2,h3]
    exact hQ _ rfl (by rw[←h1,←h2,←h3];rfl)
   ·rw[decide_eq_false (fun h=>h3 h.2.2)]at hQ
    have h3:((N.rl.length:Int) != (M.rl.length:Int))=true:=by simp;omega
    simp[h1,h2,h3]
    exact hQ _ rfl (by rw[←h1,←h2];rfl)
  ·rw[decide_eq_false (fun h=>h2 h.2.1)]at hQ
   have h2:((N.nx.length:Int) != (M.nx.length:Int))=true:=by simp;omega
   simp[h1,h2]
   exact hQ _ rfl (by rw[←h1];rfl)
 ·rw[decide_eq_false (fun h=>h1 h.1)]at hQ
  have h1:((N.k:Int) != (M.k:Int))=true:=by simp;omega
  simp[h1]
  exact hQ _ rfl rfl
theorem same26 (hN:NfE N vs)(hM:NfE M ws)(hk:N.k≤1000000)(hr:N.rl.length≤1000000)(hx:N.nx.length≤1000000∧∀l∈N.nx,l.length≤1000000):callW X A lk lim 26 [nfV N vs,nfV M ws] H=some (Bo (sameN N M),H):=by
 have hX:X lk lim 26 [nfV N vs,nfV M ws] H=none:=noX1 (by decide) (by decide) (by decide)
 refine wb_callB [2,3] hX A26 rfl (by simp[argOk]) ?_
 show WB ⟨callW X A,lk,H.length,[2,3]⟩ t26B _ _ _
 generalize callW X A=C
 generalize hP:FinT [.tmp 4] true H (Bo (sameN N M),H)=P
 have fin:∀env t,find env 4=Bo t→sameN N M=t→P .ret env H:=fun env t h h2=>by
  rw[←hP,h2]
  simp[FinT,finish,resOf,resList,resOne,h,frz,below]
 clear hP
 have sF1:¬(N.k=M.k∧N.cl=M.cl)→sameN N M=false:=fun h=>by unfold sameN;rw[decide_eq_false h];rfl
 have sF2:¬N.rl=M.rl→sameN N M=false:=fun h=>by unfold sameN;rw[decide_eq_false h];simp
 have sF3:¬N.nx=M.nx→sameN N M=false:=fun h=>by unfold sameN;rw[decide_eq_false h];simp
 have hu:N.k=M.k→N.nx.length=M.nx.length→N.rl.length=M.rl.length→∀E,restrict [2,3] E=[(2,bxV N vs),(3,bxV M ws)]→WB ⟨C,lk,H.length,[2,3]⟩ u26 P E H:=by
  intro h1 h2 h3 E hE
  unfold u26
  have w3:N.cl=M.cl→N.rl=M.rl→∀E,restrict [2,3,7] E=[(2,bxV N vs),(3,bxV M ws),(7,I 0)]→WB ⟨C,lk,H.length,[2,3]⟩ (.block 4 (.loop [2,3,7] t26L4)) (Fol ⟨C,lk,H.length,[2,3]⟩ (.seq (.regN [] [kx 4 (.mv cT)]) .ret) P) E H:=fun ec er E hE=>
   l26d hN.nx hM.nx h2 hx hE (fun ex E'=>by
    rw[fol_nrm]
    simp
    exact fin _ _ rfl (by unfold sameN;rw[decide_eq_true (⟨h1,ec⟩:_∧_),decide_eq_true er,decide_eq_true ex];rfl)) fun ex=>by
    rw[fol_ret]
    exact fin _ _ rfl (sF3 ex)
  generalize (.block 4 (.loop [2,3,7] t26L4):AC)=L3 at w3 ⊢
  have w2:N.cl=M.cl→∀E,restrict [2,3,6] E=[(2,bxV N vs),(3,bxV M ws),(6,I 0)]→WB ⟨C,lk,H.length,[2,3]⟩ (.block 2 (.loop [2,3,6] t26L2)) (Fol ⟨C,lk,H.length,[2,3]⟩ (.seq (.seq (.regN [2,3] [kZ 7]) L3) (.seq (.regN [] [kx 4 (.mv cT)]) .ret)) P) E H:=fun ec E hE=>
   l26b h3 hr hE (fun er E' hE'=>by
    rw[fol_nrm,wb_seq,wb_seq,wb_regN,hE']
    simp
    exact w3 ec er _ rfl) fun er=>by
    rw[fol_ret]
    exact fin _ _ rfl (sF2 er)
  generalize (.block 2 (.loop [2,3,6] t26L2):AC)=L2 at w2 ⊢
  have w1:∀E,restrict [2,3,5] E=[(2,bxV N vs),(3,bxV M ws),(5,I 0)]→WB ⟨C,lk,H.length,[2,3]⟩ (.block 0 (.loop [2,3,5] t26L1)) (Fol ⟨C,lk,H.length,[2,3]⟩ (.seq (.seq (.regN [2,3] [kZ 6]) L2) (.seq (.seq (.regN [2,3] [kZ 7]) L3) (.seq (.regN [] [kx 4 (.mv cT)]) .ret))) P) E H:=fun E hE=>
   l26a hN hM h1 hk hE (fun ec E' hE'=>by
    rw[fol_nrm,wb_seq,wb_seq,wb_regN,hE']
    simp
    exact w2 ec _ rfl) fun ec=>by
    rw[fol_ret]
    exact fin _ _ rfl (sF1 fun h=>ec h.2)
  generalize (.block 0 (.loop [2,3,5] t26L1):AC)=L1 at w1 ⊢
  rw[wb_seq,wb_seq,wb_regN,hE]
  simp
  exact w1 _ rfl
 rw[e26]
 generalize u26=U' at hu ⊢
 have hg:∀E,restrict [2,3] E=[(2,bxV N vs),(3,bxV M ws)]→WB ⟨C,lk,H.length,[2,3]⟩ g26 (Fol ⟨C,lk,H.length,[2,3]⟩ (.cond (ux 33) (.seq (.regN [] [kx 4 (.mv cF)]) .ret) .skip) (Fol ⟨C,lk,H.length,[2,3]⟩ U' P)) E H:=fun E hE=>
  g26_ok hE fun E' h33 hE'=>by
   rw[fol_nrm]
   by_cases hc:N.k=M.k∧N.nx.length=M.nx.length∧N.rl.length=M.rl.length
   ·rw[decide_eq_true hc]at h33
    rw[wb_false (ev_bo h33),wb_skip,fol_nrm]
    exact hu hc.1 hc.2.1 hc.2.2 _ hE'
   ·rw[decide_eq_false hc]at h33
    rw[wb_true (ev_bo h33)]
    simp
    refine fin _ _ rfl ?_
    by_cases h1:N.k=M.k∧N.cl=M.cl
    ·by_cases h2:N.rl=M.rl
     ·exact sF3 fun h3=>hc ⟨h1.1,by rw[h3],by rw[h2]⟩
     ·exact sF2 h2
    ·exact sF1 h1
 generalize g26=G at hg ⊢
 simp
 exact hg _ rfl
end
end Go.Proofs.Ytnhennjliinplaa

namespace Go.Proofs.Ytnhennjliinplaa
open Go Go.Hm
def g27:AC:=(.regN [1,3] [ kM 9 3,kx 10 (.bini .lss (ux 9) c1),kM 11 10,zM 12 11 3,kz 13 11 (.bini .gtr (ux 12) (.con (.val (.int .i64 1024)))),kO 14 11 13,kM 15 14,zF 16 15 1 1,zS 17 15 1 16,zN 18 15 17,zM 19 15 3,kz 20 15 (.bini .neq (ux 18) (ux 19)),kO 21 15 20,kM 22 21,zF 23 22 2 1,zS 24 22 1 23,zN 25 22 24,zM 26 22 3,kz 27 22 (.bini .neq (ux 25) (ux 26)),kO 28 22 27,kM 29 28,zF 30 29 0 1,zS 31 29 1 30,kz 32 29 (.ixA 4 (ux 31) c0),kz 33 29 (.ldA none 4 (ux 32)),kz 34 29 (.build [(.val (.int .u64 0)),(.val (.int .u64 0)),(.val (.int .u64 0)),(.val (.int .u64 0))] []),kz 35 29 (.eqa true [1,1,1,1] (ux 33) (ux 34)),kO 36 29 35])
def r27:AC:=(.regD [1,3,4,5] 0 [ kF 66 1 1,kS 67 1 66,kM 68 4,kI 69 1 67 68,kL 70 69,kM 71 5,kI 72 1 70 71,kL 73 72,kx 74 (.bini .lss (ux 73) c1),kM 75 74,zF 76 75 1 1,zS 77 75 1 76,zM 78 75 4,zI 79 75 1 77 78,zL 80 75 79,zM 81 75 5,zI 82 75 1 80 81,zL 83 75 82,zM 84 75 3,kz 85 75 (.bini .geq (ux 83) (ux 84)),kO 86 75 85,kM 87 86,zM 88 87 5,kz 89 87 (.bini .gtr (ux 88) c0),zM 90 87 89,yF 91 90 1 1,yS 92 90 1 91,yM 93 90 4,yI 94 90 1 92 93,yL 95 90 94,yM 96 90 5,ky 97 90 (.bini .sub (ux 96) c1),yI 98 90 1 95 97,yL 99 90 98,yF 100 90 1 1,yS 101 90 1 100,yM 102 90 4,yI 103 90 1 101 102,yL 104 90 103,yM 105 90 5,yI 106 90 1 104 105,yL 107 90 106,ky 108 90 (.bini .geq (ux 99) (ux 107)),kz 109 87 (.pick (ux 90) (ux 108) cF),kO 110 87 109])
section
variable {lk lim:Nat}{H:Heap}{N:Nf}{vs:List AV}{i j:Nat}{l:List Int}{lv:AV}{C:Orc}{Q:Ex→Kt}{E:Env}
set_option maxRecDepth 20000 in
theorem g27_ok (hN:NfE N vs)(hE:restrict [1,3] E=[(1,bxV N vs),(3,I N.k)])
  (hQ:∀E',restrict [1,3] E'=[(1,bxV N vs),(3,I N.k)]→find E' 36=Bo (badH N)→Q .nrm E' H):
  WB ⟨C,lk,lim,[1]⟩ g27 Q E H:=by
 obtain⟨B,hB⟩:∃B,badH N=B:=⟨_,rfl⟩
 rw[hB]at hQ
 unfold badH at hB
 unfold g27
 rw[wb_regN,hE]
 obtain⟨hc,hlc,hu,hn,hv,hr⟩:=hN
 obtain⟨k,cl,nx,rl⟩:=N
 dsimp only at *
 by_cases h1:(k:Int)<1
 ·iterate 28 (rw[wr_cons];simp[-wr_cons,-wr_nil,h1])
  rw[wr_nil]
  exact hQ _ rfl (by rw[←hB];simp[find,h1])
 by_cases h2:(1024:Int)<(k:Int)
 ·iterate 28 (rw[wr_cons];simp[-wr_cons,-wr_nil,h1,h2])
  rw[wr_nil]
  exact hQ _ rfl (by rw[←hB];simp[find,h1,h2])
 obtain⟨a,b',c,d,hcl,h4⟩:=cls_at (t:=0) hlc hu (by omega)
 rw[Nat.zero_mul,List.drop_zero]at hcl
 have hez:=eqz a b' c d
 rw[←hcl]at hez
 have h04:4≤cl.length:=by omega
 have hk0:0<k:=by omega
 generalize zC (cl.take 4)=zb at hez hB
 by_cases h3:(nx.length:Int)=(k:Int)
 case neg=>
  have e3:((nx.length:Int) != (k:Int))=true:=by simpa using h3
  iterate 28 (rw[wr_cons];simp[-wr_cons,-wr_nil,h1,h2,e3])
  rw[wr_nil]
  exact hQ _ rfl (by rw[←hB];simp[find,h3])
 have e3:((nx.length:Int) != (k:Int))=false:=by simpa using h3
 by_cases h5:(rl.length:Int)=(k:Int)
 case neg=>
  have e5:((rl.length:Int) != (k:Int))=true:=by simpa using h5
  iterate 28 (rw[wr_cons];simp[-wr_cons,-wr_nil,h1,h2,e3,e5])
  rw[wr_nil]
  exact hQ _ rfl (by rw[←hB];simp[find,h5])
 have e5:((rl.length:Int) != (k:Int))=false:=by simpa using h5
 iterate 28 (rw[wr_cons];simp[-wr_cons,-wr_nil,h1,h2,e3,e5,hk0,h04,hez])
 rw[wr_nil]
 exact hQ _ rfl (by rw[←hB];simp[find,h1,h2,h3,h5])
set_option maxRecDepth 20000 in
theorem r27_ok {t last:Int}(hi:i<N.nx.length)(hlv:vs[i]?=some (.sl l.length (ints l)))(hj:j<l.length)(hn:l.length≤1000000)(ht:l[j]?=some t)(h0:0≤last)(hl:(j=0∧last=0)∨(∃m,j=m+1∧l[m]?=some last))
  (hE:restrict [1,3,4,5] E=[(1,bxV N vs),(3,I N.k),(4,I i),(5,I j)])
  (hQ:∀E',restrict [1,3,4,5] E'=[(1,bxV N vs),(3,I N.k),(4,I i),(5,I j)]→find E' 110=Bo (!(decide (last<t)&&decide (t<(N.k:Int))))→Q .nrm E' H):
  WB ⟨C,lk,lim,[1]⟩ r27 Q E H:=by
 have e1:=get_some (ints_at ht) (by rw[ints_len];exact hj)
 unfold r27
 rw[wb_regD rfl,hE]
 by_cases h1:t<1
 ·rw[decide_eq_false (by omega:¬last<t)]at hQ
  iterate 45 (rw[wrd_cons];simp[-wrd_cons,-wrd_nil,hi,hlv,hj,e1,h1])
  rw[wrd_nil]
  exact hQ _ rfl rfl
 by_cases h2:(N.k:Int)≤t
 ·rw[decide_eq_false (by omega:¬t<(N.k:Int)),Bool.and_false]at hQ
  iterate 45 (rw[wrd_cons];simp[-wrd_cons,-wrd_nil,hi,hlv,hj,e1,h1,h2])
  rw[wrd_nil]
  exact hQ _ rfl rfl
 rw[decide_eq_true (by omega:t<(N.k:Int)),Bool.and_true]at hQ
 rcases hl with⟨rfl,rfl⟩ | ⟨m,rfl,hm⟩
 ·rw[decide_eq_true (by omega)]at hQ
  iterate 45 (rw[wrd_cons];simp[-wrd_cons,-wrd_nil,hi,hlv,hj,e1,h1,h2])
  rw[wrd_nil]
  exact hQ _ rfl rfl
 ·have e2:=get_some (ints_at hm) (by rw[ints_len];omega)
  have hm2:m<l.length:=by omega
  have b4:(0:Int)<(m:Int)+1:=by omega
  have b5:(0:Int)≤(m:Int)+1:=by omega
  have b6:(m:Int)+1<(l.length:Int):=by omega
  have w:IntKind.i64.wrap (m:Int)=(m:Int):=wrap64 (by omega) (by omega)
  by_cases h3:last<t
  ·rw[decide_eq_true h3]at hQ
   have h4:¬t≤last:=by omega
   iterate 45 (rw[wrd_cons];simp[-wrd_cons,-wrd_nil,hi,hlv,hj,hm2,b4,b5,b6,w,e1,e2,h1,h2,h4])
   rw[wrd_nil]
   exact hQ _ rfl rfl
  ·rw[decide_eq_false h3]at hQ
   have h4:t≤last:=by omega
   iterate 45 (rw[wrd_cons];simp[-wrd_cons,-wrd_nil,hi,hlv,hj,hm2,b4,b5,b6,w,e1,e2,h1,h2,h4])
   rw[wrd_nil]
   exact hQ _ rfl rfl
theorem e271:t27L1= .seq (.seq (.regN [1,3,4,5] [kM 56 5,kF 57 1 1,kS 58 1 57,kM 59 4,kI 60 1 58 59,kL 61 60,kN 62 61,kT 63 56 62]) (.cond (ux 63) .skip (.exit 2))) (.seq (.block 3 (.seq r27 (.cond (ux 110) (.seq (.regN [] [kx 2 (.mv (.con (.val (.int .i64 2))))]) .ret) .skip))) (.regN [1,3,4,5] [kM 64 5,kU 65 64,kM 5 65])):=rfl
theorem ris27 (hi:i<N.nx.length)(hlv:vs[i]?=some lv)(hrow:RowI lv l)(hn:l.length≤1000000)
  (hE:restrict [1,3,4,5] E=[(1,bxV N vs),(3,I N.k),(4,I i),(5,I 0)])
  (hQ:risK N.k 0 l=true→∀E',restrict [1,3,4] E'=[(1,bxV N vs),(3,I N.k),(4,I i)]→Q .nrm E' H) (hR:risK N.k 0 l=false→Q .ret [(2,I 2)] H):
  WB ⟨C,lk,lim,[1]⟩ (.block 2 (.loop [1,3,4,5] t27L1)) Q E H:=by
 refine wb_loop (σ:=Nat×Int) (fun z=>[(1,bxV N vs),(3,I N.k),(4,I i),(5,I z.1)]) (fun _=>H)
  (fun z=>z.1≤l.length∧0≤z.2∧((z.1=0∧z.2=0)∨(∃m,z.1=m+1∧l[m]?=some z.2))∧risK N.k z.2 (l.drop z.1)=risK N.k 0 l) (fun z=>l.length-z.1) ?_ (0,0) ⟨Nat.zero_le _,Int.le_refl _,.inl ⟨rfl,rfl⟩,rfl⟩ hE rfl
 rintro⟨j,last⟩ ⟨hj,h0,hl,hf⟩
 dsimp only at hj h0 hl hf ⊢
 rw[e271]
 generalize hP:Rnd _ _ _ _ _ _ _=P
 by_cases hk:j<l.length
 case neg=>
  obtain rfl:j=l.length:=by omega
  rw[List.drop_length]at hf
  have hf:true=risK N.k 0 l:=hf
  generalize r27=F
  rcases hrow with⟨rfl,rfl⟩ | rfl
  ·simp[hi,hlv]
   rw[←hP]
   exact hQ hf.symm _ rfl
  ·simp[hi,hlv]
   rw[←hP]
   exact hQ hf.symm _ rfl
 obtain rfl:=hrow.sl (by omega)
 obtain⟨t,ht⟩:=get_of hk
 rw[List.drop_eq_getElem_cons hk,get_some ht hk]at hf
 simp only[risK]at hf
 have hb:∀E,restrict [1,3,4,5] E=[(1,bxV N vs),(3,I N.k),(4,I i),(5,I j)]→WB ⟨C,lk,lim,[1]⟩ (.block 3 (.seq r27 (.cond (ux 110) (.seq (.regN [] [kx 2 (.mv (.con (.val (.int .i64 2))))]) .ret) .skip))) (Fol ⟨C,lk,lim,[1]⟩ (.regN [1,3,4,5] [kM 64 5,kU 65 64,kM 5 65]) P) E H:=fun E hE=>by
  rw[wb_block,wb_seq]
  refine r27_ok hi hlv hk hn ht h0 hl hE fun E' hE' h110=>?_
  rw[fol_nrm]
  by_cases h1:last<t
  ·by_cases h2:t<(N.k:Int)
   ·rw[decide_eq_true h1,decide_eq_true h2]at h110 hf
    rw[wb_false (ev_bo h110),wb_skip,blk_nrm,fol_nrm,wb_regN,hE']
    have w:IntKind.i64.wrap ((j:Int)+1)=(j:Int)+1:=wrap64 (by omega) (by omega)
    simp[w]
    rw[←hP,rnd_nrm]
    exact⟨(j+1,t),⟨hk,by omega,.inr ⟨j,rfl,ht⟩,hf⟩,by show l.length-(j+1)<l.length-j;omega,rfl,rfl⟩
   ·rw[decide_eq_true h1,decide_eq_false h2]at h110 hf
    rw[wb_true (ev_bo h110)]
    simp
    rw[←hP]
    exact hR hf.symm
  ·rw[decide_eq_false h1]at h110 hf
   rw[wb_true (ev_bo h110)]
   simp
   rw[←hP]
   exact hR hf.symm
 generalize (.block 3 (.seq r27 (.cond (ux 110) (.seq (.regN [] [kx 2 (.mv (.con (.val (.int .i64 2))))]) .ret) .skip)):AC)=F at hb ⊢
 simp[hi,hlv,hk]
 exact hb _ rfl
def h27:AC:=(.regN [1,3,4] [ kF 42 2 1,kS 43 1 42,kM 44 4,kI 45 1 43 44,kL 46 45,kx 47 (.bini .lss (ux 46) (.con (.val (.int .i64 (-1))))),kM 48 47,zF 49 48 2 1,zS 50 48 1 49,zM 51 48 4,zI 52 48 1 50 51,zL 53 48 52,kz 54 48 (.bini .geq (ux 53) (.con (.val (.int .i64 16)))),kO 55 48 54])
theorem e272:t27L2= .seq (.seq (.regN [1,3,4] [kM 37 4,kM 38 3,kT 39 37 38]) (.cond (ux 39) .skip (.exit 0))) (.seq (.block 1 (.seq (.seq h27 (.cond (ux 55) (.seq (.regN [] [kx 2 (.mv (.con (.val (.int .i64 2))))]) .ret) .skip)) (.seq (.regN [1,3,4] [kZ 5]) (.block 2 (.loop [1,3,4,5] t27L1))))) (.regN [1,3,4] [kM 40 4,kU 41 40,kM 4 41])):=rfl
set_option maxRecDepth 20000 in
theorem rows27 (hN:NfE N vs)(hx:∀l∈N.nx,l.length≤1000000)(hk2:N.k≤1000000)(hr:N.rl.length=N.k)(hr2:N.nx.length=N.k)
  (hE:restrict [1,3,4] E=[(1,bxV N vs),(3,I N.k),(4,I 0)])
  (hQ:chkZ N.k N.nx N.rl=true→∀E',Q .nrm E' H) (hR:chkZ N.k N.nx N.rl=false→Q .ret [(2,I 2)] H):
  WB ⟨C,lk,lim,[1]⟩ (.block 0 (.loop [1,3,4] t27L2)) Q E H:=by
 refine wb_loop (σ:=Nat) (fun i=>[(1,bxV N vs),(3,I N.k),(4,I i)]) (fun _=>H)
  (fun i=>i≤N.nx.length∧chkZ N.k (N.nx.drop i) (N.rl.drop i)=chkZ N.k N.nx N.rl) (fun i=>N.nx.length-i) ?_ 0 ⟨Nat.zero_le _,rfl⟩ hE rfl
 rintro i ⟨hi,hf⟩
 rw[e272]
 generalize hP:Rnd _ _ _ _ _ _ _=P
 by_cases hk:i<N.nx.length
 case neg=>
  obtain rfl:i=N.nx.length:=by omega
  rw[List.drop_length]at hf
  have h2:¬((N.nx.length:Int)<(N.k:Int)):=by omega
  generalize h27=F
  generalize (.block 2 (.loop [1,3,4,5] t27L1):AC)=LL
  simp[h2,hr2]
  rw[←hP]
  exact hQ (by rw[←hf];simp[chkZ]) _
 obtain⟨l,hkk⟩:=get_of hk
 obtain⟨lv,hlv,hrow⟩:=hN.v i l hkk
 have hlen:=hx l (List.mem_of_getElem? hkk)
 have hir:i<N.rl.length:=by omega
 obtain⟨r,hri⟩:=get_of hir
 have hrr:=get_some (ints_at hri) (by rw[ints_len];exact hir)
 rw[List.drop_eq_getElem_cons hk,List.drop_eq_getElem_cons hir,get_some hkk hk,get_some hri hir]at hf
 simp only[chkZ]at hf
 have w:IntKind.i64.wrap ((i:Int)+1)=(i:Int)+1:=wrap64 (by omega) (by omega)
 have hret:chkZ N.k N.nx N.rl=false→P .ret [(2,I 2)] H:=fun h=>by rw[←hP];exact hR h
 have hnext:chkZ N.k (N.nx.drop (i+1)) (N.rl.drop (i+1))=chkZ N.k N.nx N.rl→∀E',restrict [1,3,4] E'=[(1,bxV N vs),(3,I N.k),(4,I ((i+1:Nat):Int))]→P .nrm E' H:=fun h E' hE'=>by
  rw[←hP,rnd_nrm]
  exact⟨i+1,⟨hk,h⟩,by omega,hE',rfl⟩
 clear hP hE hQ hR
 have inner: -1≤r→r<16→∀E',restrict [1,3,4,5] E'=[(1,bxV N vs),(3,I N.k),(4,I i),(5,I 0)]→WB ⟨C,lk,lim,[1]⟩ (.block 2 (.loop [1,3,4,5] t27L1)) (BlkE 1 (Fol ⟨C,lk,lim,[1]⟩ (.regN [1,3,4] [kM 40 4,kU 41 40,kM 4 41]) P)) E' H:=fun h1 h2 E' hE'=>by
  rw[decide_eq_true h1,decide_eq_true h2,Bool.true_and,Bool.true_and]at hf
  refine ris27 hk hlv hrow hlen hE' (fun hris E2 hE2=>?_) (fun hris=>?_)
  ·rw[hris,Bool.true_and]at hf
   rw[blk_nrm,fol_nrm,wb_regN,hE2]
   simp[w]
   exact hnext hf _ rfl
  ·rw[hris,Bool.false_and]at hf
   rw[blk_ret,fol_ret]
   exact hret hf.symm
 generalize (.block 2 (.loop [1,3,4,5] t27L1):AC)=LL at inner ⊢
 have hb:∀E,restrict [1,3,4] E=[(1,bxV N vs),(3,I N.k),(4,I i)]→WB ⟨C,lk,lim,[1]⟩ (.block 1 (.seq (.seq h27 (.cond (ux 55) (.seq (.regN [] [kx 2 (.mv (.con (.val (.int .i64 2))))]) .ret) .skip)) (.seq (.regN [1,3,4] [kZ 5]) LL))) (Fol ⟨C,lk,lim,[1]⟩ (.regN [1,3,4] [kM 40 4,kU 41 40,kM 4 41]) P) E H:=fun E hE=>by
  unfold h27
  rw[wb_block,wb_seq,wb_seq,wb_regN,hE]
  by_cases h1:r < -1
  ·rw[decide_eq_false (by omega:¬-1≤r),Bool.false_and,Bool.and_false]at hf
   simp[hir,hrr,h1]
   exact hret hf.symm
  ·by_cases h2:16≤r
   ·rw[decide_eq_false (by omega:¬r<16),Bool.false_and,Bool.and_false,Bool.and_false]at hf
    simp[hir,hrr,h1,h2]
    exact hret hf.symm
   ·simp[hir,hrr,h1,h2]
    exact inner (by omega) (by omega) _ rfl
 generalize (.block 1 (.seq (.seq h27 (.cond (ux 55) (.seq (.regN [] [kx 2 (.mv (.con (.val (.int .i64 2))))]) .ret) .skip)) (.seq (.regN [1,3,4] [kZ 5]) LL)):AC)=F at hb ⊢
 have h2:((i:Int)<(N.k:Int)):=by omega
 have h3:i<N.k:=by omega
 simp[h2,h3]
 exact hb _ rfl
def j27:AC:=.seq (.seq (.regN [1,3] [kZ 4]) (.block 0 (.loop [1,3,4] t27L2))) (.seq (.regN [] [kZ 2]) .ret)
theorem e27:t27B= .seq (.regN [0] [kB 1 3 0,kZ 2]) (.seq (.regN [1] [kF 6 0 1,kS 7 1 6,kN 8 7,kM 3 8]) (.seq (.seq g27 (.cond (ux 36) (.seq (.regN [] [kx 2 (.mv (.con (.val (.int .i64 2))))]) .ret) .skip)) j27)):=rfl
theorem check27 (hN:NfE N vs)(hsz:SzOk N):callW X A lk lim 27 [nfV N vs] H=some (I (if chkF N then 0 else 2),H):=by
 have hX:X lk lim 27 [nfV N vs] H=none:=noX1 (by decide) (by decide) (by decide)
 refine wb_callB [1] hX A27 rfl (by simp[argOk]) ?_
 show WB ⟨callW X A,lk,H.length,[1]⟩ t27B _ _ _
 generalize callW X A=C
 generalize hP:FinT [.tmp 2] true H (I (if chkF N then 0 else 2),H)=P
 have fin:∀e env,find env 2=I e→(if chkF N then (0:Int) else 2)=e→P .ret env H:=by
  intro e env h2 he
  rw[←hP,he]
  simp[FinT,finish,resOf,resList,resOne,h2,frz,below]
 have hj:badH N=false→∀env,restrict [1,3] env=[(1,bxV N vs),(3,I N.k)]→WB ⟨C,lk,H.length,[1]⟩ j27 P env H:=by
  intro hb env hE
  obtain⟨_,h2,h3,h4⟩:=badH_get hb
  have hl:∀env,restrict [1,3,4] env=[(1,bxV N vs),(3,I N.k),(4,I 0)]→WB ⟨C,lk,H.length,[1]⟩ (.block 0 (.loop [1,3,4] t27L2)) (Fol ⟨C,lk,H.length,[1]⟩ (.seq (.regN [] [kZ 2]) .ret) P) env H:=fun env hE=>
   rows27 hN hsz.1 (by omega) (by omega) (by omega) hE (fun hz E'=>by
    rw[fol_nrm]
    simp
    exact fin 0 _ rfl (by unfold chkF;rw[hb,hz];rfl)) (fun hz=>by
    rw[fol_ret]
    exact fin 2 _ rfl (by unfold chkF;rw[hb,hz];rfl))
  unfold j27
  generalize (.block 0 (.loop [1,3,4] t27L2):AC)=LL at hl ⊢
  rw[wb_seq,wb_seq,wb_regN,hE]
  simp
  exact hl _ rfl
 have hg:∀env,restrict [1,3] env=[(1,bxV N vs),(3,I N.k)]→WB ⟨C,lk,H.length,[1]⟩ (.seq (.seq g27 (.cond (ux 36) (.seq (.regN [] [kx 2 (.mv (.con (.val (.int .i64 2))))]) .ret) .skip)) j27) P env H:=by
  intro env hE
  rw[wb_seq,wb_seq]
  refine g27_ok hN hE fun E' hE' h36=>?_
  rw[fol_nrm]
  cases hb:badH N with
  | true=>
   rw[hb]at h36
   rw[wb_true (ev_bo h36)]
   simp
   exact fin 2 _ rfl (by unfold chkF;rw[hb];rfl)
  | false=>
   rw[hb]at h36
   rw[wb_false (ev_bo h36),wb_skip,fol_nrm]
   exact hj hb _ hE'
 rw[e27]
 generalize (.seq (.seq g27 (.cond (ux 36) (.seq (.regN [] [kx 2 (.mv (.con (.val (.int .i64 2))))]) .ret) .skip)) j27:AC)=TT at hg ⊢
 simp
 exact hg _ rfl
end
end Go.Proofs.Ytnhennjliinplaa
