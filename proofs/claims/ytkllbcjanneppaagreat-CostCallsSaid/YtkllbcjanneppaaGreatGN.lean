import Derived.Test.YtkllbcjanneppaaGreatGB
import Derived.Test.YtkllbcjanneppaaGreatHmG10
set_option maxRecDepth 20000
set_option linter.all false
namespace Go.Proofs.YtkllbcjanneppaaGreat
open Go Go.Hm

theorem mM {α:Type}(st:List Bool->α->List Bool)(ps:List α)(o:List Bool)(i:Nat)(h:i<ps.length):rnd st (ps.take (i+1)) o=st (rnd st (ps.take i) o) ps[i]:=by
 rw[List.take_succ_eq_append_getElem h];simp only[rnd,List.foldl_append,List.foldl_cons,List.foldl_nil]
theorem mN (g:Gm)(tok:Bool)(o:List Bool)(p:Pr):(ek g tok o p).length=o.length:=by
 unfold ek;repeat' split
 all_goals simp
theorem fB (n:Nat):repl n [Bo false]=bools (List.replicate n false):=by
 simp[repl,bools]
theorem j5 (lim:Nat)(H:Heap)(d:Nat)(l:List Bool):ep (frz lim H d) (bools l)=some (bools l):=by
 induction l with
 | nil=>rfl
 | cons a l ih=>
  simp only[bools,List.map_cons,ep,gC]at ih |-;rw[ih]
theorem j6 (lim:Nat)(l:List Bool):belowL lim (bools l)=true:=by
 induction l with
 | nil=>rfl
 | cons a l ih=>simp only[bools,List.map_cons,belowL,Hm.below,Bool.true_and];exact ih
theorem bV {o:List Bool}{i:Nat}(h:i<o.length):o.getD i false=o[i]:=by
 rw[R3,R4 h];rfl
theorem all_nil {α:Type}(P:α->Bool):([]:List α).all P=true:=rfl
theorem sL {lk lim:Nat}{H:Heap}(g:Gm)(tok:Bool)(hl:g.ps.length<=1000000)(hr:∀p∈g.ps,p.r.length<=1000000)(hlk:lk<=H.length):
  aj X A lk lim 42 [gV g,Bo tok] H=some (if chkE g=0 then .sl g.n.toNat (bools (derM g tok)) else .e0,H):=by
 have kc:=fun (L:Nat)=>bN (lk:=lk) (lim:=L) (H:=H) g hl hr;refine ar [2,8] rfl A42 rfl rfl ?_;unfold Ol;by_cases hc:chkE g=0;case neg=>
  have h3:((chkE g) != 0)=true:=by simp[hc]
  rw[if_neg hc];obtain⟨t,n,k,ps⟩:=g;simp only[gV,Gm.cells]at kc;generalize aj X A=C at kc |-;simp[Gm.cells,kc,hc]
 have ok:=br hc;rw[if_pos hc];rw[hc]at kc;obtain⟨t,n,k,ps⟩:=g;have ok2:=ok;obtain⟨t1,t2,n1,n2,k1,k2,l1,l2,okp⟩:=ok2;simp only at t1 t2 n1 n2 k1 k2 l1 l2 okp;obtain⟨n,rfl⟩:=Int.eq_ofNat_of_zero_le (by omega:0<=n)
 simp only[gV,Gm.cells]at kc;have hro:(n:Int)<=(aM:Int):=by unfold aM;omega
 simp[Gm.cells,kc,hro,fB]
 let bx:AV:=.box [I t,I n,I k,.sl ps.length (psC ps)]
 let f:=rnd (ek ⟨t,n,k,ps⟩ tok) ps
 have hf:Grows f:=bu (fun p=>dg _ _ p) ps;refine ax (σ:=List Bool×Bool) (fun s=>[(1,Bo tok),(2,bx),(5,.hs H.length n 0 n 1),(6,Bo s.2)]) (fun s=>H++[.cells (bools s.1)])
  (fun s=>s.1.length=n/\fin f s.1=derM ⟨t,n,k,ps⟩ tok/\(s.2=false->f s.1=s.1)) (fun s=>bC s.1+if s.2=true then 1 else 0) ?_ (List.replicate n false,true) ⟨by simp,rfl,by simp⟩ (by simp[bx]) (by simp)
 rintro⟨o,more⟩ ⟨ho,hfin,hmore⟩;simp only at ho hfin hmore;unfold Kj;cases more with
 | false=>
  have h1:fin f o=o:=by rw[d6 hf,if_pos (hmore rfl)]
  rw[h1]at hfin;rw[<-hfin];have hb:=j5 H.length (H++[.cells (bools o)]) 7 o;have hb2:=j6 0 o;have htk:(bools o).take n=bools o:=List.take_of_length_le (by rw[aH];omega)
  simp[bx,aH,ho,htk,hb,hb2]
  done
 | true=>
  simp
  let hsV:AV:=.hs H.length n 0 n 1
  let st:=ek ⟨t,n,k,ps⟩ tok
  refine ax (σ:=Nat×List Bool×Bool) (fun s=>[(1,Bo tok),(2,bx),(5,hsV),(6,Bo s.2.2),(7,I s.1)]) (fun s=>H++[.cells (bools s.2.1)])
   (fun s=>s.1<=ps.length/\s.2.1=rnd st (ps.take s.1) o/\s.2.2=decide (s.2.1≠o)) (fun s=>ps.length-s.1) ?_ (0,o,false) ⟨Nat.zero_le _,rfl,by simp⟩ (by simp[bx,hsV]) rfl
  rintro⟨i,o2,more⟩ ⟨hi,ho2,hm⟩;simp only at hi ho2 hm;unfold Ki;have w1:IntKind.i64.wrap ((i:Int)+1)=(i:Int)+1:=au (by omega) (by omega)
  have hlen2:o2.length=n:=by
   rw[ho2,<-ho];have:∀(l:List Pr) (q:List Bool),(rnd st l q).length=q.length:=by
    intro l;induction l with
    | nil=>intro q;rfl
    | cons p l ih=>intro q;simp only[rnd,List.foldl_cons]at ih |-;rw[ih];exact mN _ _ _ _
   exact this _ _
  by_cases hil:i<ps.length;case neg=>
   obtain rfl:i=ps.length:=by omega
   rw[List.take_of_length_le (Nat.le_refl _)]at ho2;have hfo:f o=o2:=ho2.symm;have hstep:=d6 hf o;rw[hfo]at hstep;simp[bx,hsV,ao];by_cases he:o2=o
   ·subst he;refine⟨o2,.inl ⟨⟨hlen2,by rw[<-hfin],hfo⟩,by omega,by simpa using hm,rfl⟩⟩
   ·rw[if_neg he]at hstep;refine⟨o2,.inr ⟨⟨hlen2,by rw[<-hfin,hstep]⟩,?_,by simpa[he] using hm,rfl⟩⟩
    have:=hf o;rw[hfo]at this;rcases this with h | h
    ·exact absurd h he
    ·exact h
  obtain⟨p,hp⟩:∃p,ps[i]=p:=⟨_,rfl⟩;have pok:=okp p (hp▸List.getElem_mem hil);have hs:=cd hil;have hll:=aY ps;have h2:i*2+2<=2*ps.length:=by omega
  rw[hp]at hs;simp only[Pr.cells]at hs;have hnext:rnd st (ps.take (i+1)) o=ek ⟨t,n,k,ps⟩ tok o2 p:=by rw[mM _ _ _ _ hil,<-ho2,hp]
  obtain⟨pl,pr⟩:=p;obtain⟨q1,q2,q3,q4⟩:=pok;simp only at q1 q2 q3 q4 hs;obtain⟨pl,rfl⟩:=Int.eq_ofNat_of_zero_le q2;have hpl:pl<n:=by omega
  have hpl2:pl<o2.length:=by omega
  have hpl3:pl<(bools o2).length:=by rw[aH];omega
  obtain⟨v,hv⟩:∃v,o2[pl]=v:=⟨_,rfl⟩;have hbl:(bools o2).length=n:=by rw[aH];exact hlen2
  have hpn1:pl+1<=n:=hpl;simp[-bd,bx,hil,hll,hs,h2];rw[bd];simp[an,hsV,hpl,hpl2,hbl,aF,hv];have hgD:o2.getD pl false=v:=by rw[bV hpl2,hv]
  obtain⟨want,hwant⟩:∃want,(!v&&pr.all (okS ⟨t,n,k,ps⟩ tok o2))=want:=⟨_,rfl⟩;have hder:ek ⟨t,n,k,ps⟩ tok o2 ⟨pl,pr⟩=if want=true then o2.set pl true else o2:=by
   unfold ek;simp only[Int.toNat_natCast,hgD];cases v<;>cases hq:pr.all (okS ⟨t,n,k,ps⟩ tok o2)<;>rw[hq]at hwant<;>subst hwant<;>simp
  rw[hder]at hnext;refine ax (σ:=Nat×Bool) (fun s=>[(1,Bo tok),(2,bx),(5,hsV),(6,Bo more),(7,I i),(8,.box [I pl,.sl pr.length (ints pr)]),(9,Bo s.2),(10,I s.1)]) (fun _=>H++[.cells (bools o2)])
   (fun s=>s.1<=pr.length/\(s.2&&(pr.drop s.1).all (okS ⟨t,n,k,ps⟩ tok o2))=want) (fun s=>pr.length-s.1) ?_ (0,!v) ⟨Nat.zero_le _,by rw[<-hwant];rfl⟩ (by simp[bx,hsV]) rfl
  rintro⟨m,okb⟩ ⟨hmm,hinv2⟩;simp only at hmm hinv2;unfold Kh;have w2:IntKind.i64.wrap ((m:Int)+1)=(m:Int)+1:=au (by omega) (by omega)
  by_cases hgo:m<pr.length/\okb=true;case neg=>
   have hw:okb=want:=by
    by_cases h1:m<pr.length
    ·have h2:okb=false:=by
      cases okb with
      | false=>rfl
      | true=>exact absurd ⟨h1,rfl⟩ hgo
     rw[h2]at hinv2 |-;simpa using hinv2
    ·obtain rfl:m=pr.length:=by omega
     rw[List.drop_length,all_nil,Bool.and_true]at hinv2;exact hinv2
   subst hw;cases okb with
   | false=>
    have hc:∀q:Prop,(if m<pr.length then AV.val (Value.bool false) else AV.val (Value.bool false))=AV.val (Value.bool false):=fun _=>by split<;>rfl
    by_cases h1:m<pr.length
    ·simp[bx,hsV,h1,w1];rw[ao];exact⟨(i+1,o2,more),⟨by simp only;omega,by rw[hnext];rfl,by simpa using hm⟩,by simp only;omega,by simp,rfl⟩
    ·simp[bx,hsV,h1,w1];rw[ao];exact⟨(i+1,o2,more),⟨by simp only;omega,by rw[hnext];rfl,by simpa using hm⟩,by simp only;omega,by simp,rfl⟩
   | true=>
    have h1:¬m<pr.length:=fun h=>hgo ⟨h,rfl⟩;have hwv:v=false:=by
     cases v with
     | false=>rfl
     | true=>simp at hwant
    rw[if_pos rfl]at hnext;have hcn:=ik o2 pl hpl2 (by rw[hv,hwv])
    have hle:=nG (fun p=>dg ⟨t,n,k,ps⟩ tok p) (ps.take i) o;have hle:bC o2<=bC o:=by rw[ho2];exact hle
    have hne:o2.set pl true≠o:=fun h=>by rw[h]at hcn;omega
    simp[bx,hsV,h1,w1,hpl,hbl,hpn1,aR,hlk,bg _ hpl3,cJ];rw[ao];exact⟨(i+1,o2.set pl true,true),⟨by simp only;omega,hnext.symm,by simp[hne]⟩,by simp only;omega,by simp,rfl⟩
  obtain⟨hml,rfl⟩:=hgo;obtain⟨x,hx⟩:∃x,pr[m]=x:=⟨_,rfl⟩;obtain⟨x1,x2⟩:=q4 x (hx▸List.getElem_mem hml);rw[List.drop_eq_getElem_cons hml,hx,List.all_cons,Bool.true_and]at hinv2;by_cases hxt:x<t
  ·have hok:okS ⟨t,n,k,ps⟩ tok o2 x=tok:=by unfold okS;rw[if_pos hxt]
   rw[hok]at hinv2;have hxt2:¬t<=x:=by omega
   cases tok with
   | true=>
    simp[bx,hsV,hml,hx,hxt,hxt2,w2];rw[ao];exact⟨(m+1,true),⟨by simp only;omega,hinv2⟩,by simp only;omega,by simp,rfl⟩
   | false=>
    simp[bx,hsV,hml,hx,hxt,hxt2,w2];rw[ao];exact⟨(m+1,false),⟨by simp only;omega,hinv2⟩,by simp only;omega,by simp,rfl⟩
  ·have hxt2:t<=x:=by omega
   have hxn:(x-t).toNat<o2.length:=by omega
   obtain⟨u,hu⟩:∃u,o2[(x-t).toNat]=u:=⟨_,rfl⟩;have hok:okS ⟨t,n,k,ps⟩ tok o2 x=u:=by unfold okS;rw[if_neg hxt];simp only;rw[bV hxn,hu]
   rw[hok]at hinv2;have w3:IntKind.i64.wrap (x-t)=x-t:=au (by omega) (by omega)
   have y1:0<=x-t:=by omega
   have y2:x-t<n:=by omega
   have y3:(x-t).toNat<n:=by omega
   simp[bx,hsV,hml,hx,hxt,hxt2,w2,w3,y1,y2,hbl,aF,hxn,hu];rw[ao];exact⟨(m+1,u),⟨by simp only;omega,hinv2⟩,by simp only;omega,by simp,rfl⟩

theorem iT {α:Type}{st:List Bool->α->List Bool}(Q:List Bool->Prop)(ps:List α)(hq:∀o,∀p∈ps,Q o->Q (st o p)):∀(l:List α),(∀p∈l,p∈ps)->∀o,Q o->Q (rnd st l o)
 | [],_,_,h=>h
 | p::l,hl,o,h=>iT Q ps hq l (fun q hq=>hl q (List.mem_cons_of_mem _ hq)) (st o p) (hq o p (hl p (List.mem_cons_self ..)) h)
theorem nO {lk lim:Nat}{f:FuncId}{cap:List AV}(ps:List Pr)(st:List Bool->Pr->List Bool)(S:List Bool->Heap)(Q:List Bool->Prop)(L:Nat)(hl:ps.length<=1000000)(hc:cap.all a7=true)
  (hs:∀p,Grows fun o=>st o p) (hQ:∀o,∀p∈ps,Q o->Q (st o p)) (hL:∀o,(S o).length=L)
  (hst:∀o,∀p∈ps,Q o->aj X A lk L f (.agg p.cells::cap) (S o)=some (Bo (decide (st o p≠o)),S (st o p))) (o0:List Bool) (h0:Q o0):
  aj X A lk lim 76 [.sl ps.length (psC ps),.fn f cap] (S o0)=some (.tup [],S (fin (rnd st ps) o0)):=by
 have hf:Grows (rnd st ps):=bu hs ps;have htk:∀o,(S o).take L=S o:=fun o=>List.take_of_length_le (by rw[hL];exact Nat.le_refl _)
 refine ar [6] rfl A76 rfl rfl ?_;unfold NO;rw[hL];simp;refine ax (σ:=List Bool×Bool) (fun s=>[(0,.sl ps.length (psC ps)),(1,.fn f cap),(4,Bo s.2)]) (fun s=>S s.1)
  (fun s=>Q s.1/\fin (rnd st ps) s.1=fin (rnd st ps) o0/\(s.2=false->rnd st ps s.1=s.1)) (fun s=>bC s.1+if s.2=true then 1 else 0) ?_ (o0,true) ⟨h0,rfl,by simp⟩ (by simp) rfl
 rintro⟨o,again⟩ ⟨hq,hfin,hag⟩;simp only at hq hfin hag;unfold JX;cases again with
 | false=>
  have h1:fin (rnd st ps) o=o:=by rw[d6 hf,if_pos (hag rfl)]
  rw[h1]at hfin;rw[<-hfin];simp[hL,htk]
 | true=>
  simp;refine ax (σ:=Nat×List Bool×Bool) (fun s=>[(0,.sl ps.length (psC ps)),(1,.fn f cap),(4,Bo s.2.2),(8,.sl ps.length (psC ps)),(9,I ps.length),(10,I s.1)]) (fun s=>S s.2.1)
   (fun s=>s.1<=ps.length/\Q s.2.1/\s.2.1=rnd st (ps.take s.1) o/\s.2.2=decide (s.2.1≠o)) (fun s=>ps.length-s.1) ?_ (0,o,false) ⟨Nat.zero_le _,hq,rfl,by simp⟩ (by simp) rfl
  rintro⟨i,o2,ag⟩ ⟨hi,hq2,ho2,hm⟩;simp only at hi hq2 ho2 hm;unfold JW;have w1:IntKind.i64.wrap ((i:Int)+1)=(i:Int)+1:=au (by omega) (by omega)
  by_cases hil:i<ps.length;case neg=>
   obtain rfl:i=ps.length:=by omega
   rw[List.take_of_length_le (Nat.le_refl _)]at ho2;have hfo:rnd st ps o=o2:=ho2.symm;have hstep:=d6 hf o;rw[hfo]at hstep;simp;rw[ao];refine⟨(o2,ag),⟨hq2,?_,fun h=>?_⟩,?_,by simp,rfl⟩
   ·rw[<-hfin,hstep];by_cases he:o2=o
    ·rw[if_pos he,he,d6 hf o,if_pos (hfo.trans he)]
    ·rw[if_neg he]
   ·have h:ag=false:=h;rw[h]at hm;have he:o2=o:=by simpa using hm.symm
    show rnd st ps o2=o2;rw[he]at hfo |-;exact hfo
   ·show bC o2+(if ag=true then 1 else 0)<bC o+(if true=true then 1 else 0);by_cases he:o2=o
    ·rw[hm];simp[he]
    ·have:=hf o;rw[hfo]at this;rcases this with h | h
     ·exact absurd h he
     ·rw[hm];simp[he];omega
  obtain⟨p,hp⟩:∃p,ps[i]=p:=⟨_,rfl⟩;have hpm:p∈ps:=hp▸List.getElem_mem hil;have hsub:=cd hil;have hll:=aY ps;have h2:i*2+2<=2*ps.length:=by omega
  rw[hp]at hsub;have hnext:rnd st (ps.take (i+1)) o=st o2 p:=by rw[mM _ _ _ _ hil,<-ho2,hp]
  have hcall:=hst o2 p hpm hq2;have hle:=nG hs (ps.take i) o;rw[<-ho2]at hle;have hch:decide (st o2 p≠o)=(decide (st o2 p≠o2)||ag):=by
   rw[hm];by_cases h1:st o2 p=o2
   ·rw[h1];simp
   ·have h3:bC (st o2 p)<bC o2:=by
     rcases hs p o2 with h | h
     ·exact absurd h h1
     ·exact h
    have h4:st o2 p≠o:=fun h=>by rw[h]at h3;omega
    simp[h1,h4]
  obtain⟨c,hcc⟩:∃c,decide (st o2 p≠o2)=c:=⟨_,rfl⟩;rw[hcc]at hcall hch;obtain⟨pl,pr⟩:=p;simp only[Pr.cells]at hsub hcall;generalize aj X A=C at hcall |-;simp[-bd,hil,hll,hsub,h2];rw[bd];simp[-a7,mj,uw,an,hcall,hc];cases c with
  | true=>
   simp[w1];rw[ao];exact⟨(i+1,st o2 ⟨pl,pr⟩,true),⟨by simp only;omega,hQ _ _ hpm hq2,hnext.symm,by simpa using hch.symm⟩,by simp only;omega,by simp,rfl⟩
  | false=>
   simp[w1];rw[ao];exact⟨(i+1,st o2 ⟨pl,pr⟩,ag),⟨by simp only;omega,hQ _ _ hpm hq2,hnext.symm,by simpa using hch.symm⟩,by simp only;omega,by simp,rfl⟩

theorem sM (H:Heap)(b:Nat)(x:HB):(H.set b x).take H.length=H.set b x:=List.take_of_length_le (by simp)
theorem mO {H:Heap}{b:Nat}{x:HB}(h:H[b]?=some x):b<H.length:=by
 rcases Nat.lt_or_ge b H.length with h1 | h1
 ·exact h1
 ·rw[List.getElem?_eq_none h1]at h;cases h
structure DH (g:Gm)(tok:Bool)(H:Heap)(b:Nat)(o:List Bool):Prop where
 g0:H[b]?=some (.cells g.cells)
 g1:H[b+1]?=some (.cells [Bo tok])
 g2:H[b+2]?=some (.cells (bools o))
 g3:H[b+3]?=some (.cells [.hs (b+2) g.n.toNat 0 g.n.toNat 1])
 g4:H[b+4]?=some (.cells [.fn 81 [.hp b 4 0,.hp (b+1) 1 0,.hp (b+3) 1 0]])
abbrev Al (b:Nat):List AV:=[.hp b 4 0,.hp (b+1) 1 0,.hp (b+3) 1 0]
theorem FJ {lk lim:Nat}{H:Heap}{g:Gm}{tok:Bool}{b:Nat}{o:List Bool}(hd:DH g tok H b o)(ok:GOk g)(ho:o.length=g.n.toNat)(s:Int)(s1:0<=s)(s2:s<g.t+g.n):
  aj X A lk lim 81 (I s::Al b) H=some (Bo (!okS g tok o s),H):=by
 refine ar [] rfl A81 rfl rfl ?_;unfold NM;obtain⟨g0,g1,g2,g3,g4⟩:=hd;obtain⟨t,n,k,ps⟩:=g;obtain⟨t1,t2,n1,n2,k1,k2,l1,l2,okp⟩:=ok;simp only at t1 t2 n1 n2 ho s2;obtain⟨n,rfl⟩:=Int.eq_ofNat_of_zero_le (by omega:0<=n)
 simp only[Gm.cells]at g0;simp only[Int.toNat_natCast]at g3 ho;by_cases hst:s<t
 ·have hok:okS ⟨t,n,k,ps⟩ tok o s=tok:=by unfold okS;rw[if_pos hst]
  rw[hok];have hst2:¬t<=s:=by omega
  cases tok<;>simp[g0,g1,hst,hst2]
 ·have hst2:t<=s:=by omega
  have hxn:(s-t).toNat<o.length:=by omega
  obtain⟨u,hu⟩:∃u,o[(s-t).toNat]=u:=⟨_,rfl⟩;have hok:okS ⟨t,n,k,ps⟩ tok o s=u:=by unfold okS;rw[if_neg hst];simp only;rw[bV hxn,hu]
  rw[hok];have w3:IntKind.i64.wrap (s-t)=s-t:=au (by omega) (by omega)
  have y1:0<=s-t:=by omega
  have y2:s-t<n:=by omega
  have hbl:(bools o).length=n:=by rw[aH];exact ho
  simp[g0,g3,g2,hst,hst2,w3,y1,y2,hbl,aF,hxn,hu]
theorem DH.set {g:Gm}{tok:Bool}{H:Heap}{b:Nat}{o o2:List Bool}(hd:DH g tok H b o):DH g tok (H.set (b+2) (.cells (bools o2))) b o2:=by
 obtain⟨g0,g1,g2,g3,g4⟩:=hd;have hl:=mO g2;exact⟨by rw[List.getElem?_set_ne (by omega)];exact g0,by rw[List.getElem?_set_ne (by omega)];exact g1,by rw[List.getElem?_set_self hl],by rw[List.getElem?_set_ne (by omega)];exact g3,by rw[List.getElem?_set_ne (by omega)];exact g4⟩
theorem IX {α:Type}(P:α->Bool)(l:List α):(l.any fun x=>!P x)=!l.all P:=by
 induction l with
 | nil=>rfl
 | cons a l ih=>simp only[List.any_cons,List.all_cons,ih,Bool.not_and]
theorem FK {lk lim:Nat}{H:Heap}{g:Gm}{tok:Bool}{b:Nat}{o:List Bool}(hd:DH g tok H b o)(hlk:lk<=b+2)(ok:GOk g)(ho:o.length=g.n.toNat)(p:Pr)(pok:POk g p):
  aj X A lk lim 82 [.agg p.cells,.hp (b+3) 1 0,.hp (b+4) 1 0] H=some (Bo (decide (ek g tok o p≠o)),H.set (b+2) (.cells (bools (ek g tok o p)))):=by
 have k35:=lx (lk:=lk) (lim:=H.length) (H:=H) (f:=81) (cap:=Al b) p.r (fun s=>!okS g tok o s) (by have:=pok.len;omega) rfl (fun s hs=>FJ hd ok ho s (pok.s s hs).1 (pok.s s hs).2)
 rw[IX]at k35;have htk:=fun x:HB=>sM H (b+2) x;refine ar [3] rfl A82 rfl rfl ?_;unfold NN;obtain⟨g0,g1,g2,g3,g4⟩:=hd;obtain⟨t,n,k,ps⟩:=g;have n1:=ok.n1;simp only at n1;obtain⟨n,rfl⟩:=Int.eq_ofNat_of_zero_le (by omega:0<=n)
 simp only[Int.toNat_natCast]at g3 ho;obtain⟨pl,pr⟩:=p;obtain⟨q1,q2,q3,q4⟩:=pok;simp only at q1 q2 q3 q4 k35;obtain⟨pl,rfl⟩:=Int.eq_ofNat_of_zero_le q2;have hpl2:pl<o.length:=by omega
 have hpn:pl<n:=by omega
 have hpn1:pl+1<=n:=hpn;have hpn2:(pl:Int)<n:=by omega
 obtain⟨v,hv⟩:∃v,o[pl]=v:=⟨_,rfl⟩;have hbl:(bools o).length=n:=by rw[aH];exact ho
 have hpl3:pl<(bools o).length:=by rw[hbl];exact hpn
 have hgD:o.getD pl false=v:=by rw[bV hpl2,hv]
 have hself:H.set (b+2) (.cells (bools o))=H:=by
  have hl:=mO g2;rw[R4 hl]at g2;have g2:=Option.some.inj g2;rw[<-g2];exact List.set_getElem_self hl
 generalize aj X A=C at k35 |-;cases v with
 | true=>
  have hder:ek ⟨t,n,k,ps⟩ tok o ⟨pl,pr⟩=o:=by unfold ek;simp only[Int.toNat_natCast,hgD];rfl
  rw[hder,hself];simp[Pr.cells,g3,g2,hpn,hpn2,hbl,aF,hpl2,hv]
 | false=>
  cases hall:pr.all (okS ⟨t,n,k,ps⟩ tok o) with
  | false=>
   have hder:ek ⟨t,n,k,ps⟩ tok o ⟨pl,pr⟩=o:=by unfold ek;simp only[Int.toNat_natCast,hgD,hall];rfl
   rw[hall]at k35;rw[hder,hself];simp[Pr.cells,g3,g2,g4,hpn,hpn2,hbl,aF,hpl2,hv,k35]
  | true=>
   have hder:ek ⟨t,n,k,ps⟩ tok o ⟨pl,pr⟩=o.set pl true:=by unfold ek;simp only[Int.toNat_natCast,hgD,hall];rfl
   rw[hall]at k35;rw[hder];have hcn:=ik o pl hpl2 hv;have hne:o.set pl true≠o:=fun h=>by rw[h]at hcn;omega
   simp[Pr.cells,g3,g2,g4,hpn,hpn1,hpn2,hbl,aF,hpl2,hv,k35,aR,hlk,bg _ hpl3,cJ,hne];exact htk _

def dS (g:Gm)(tok:Bool)(H:Heap)(o:List Bool):Heap:=H++[.cells g.cells,.cells [Bo tok],.cells (bools o),.cells [.hs (H.length+2) g.n.toNat 0 g.n.toNat 1],.cells [.fn 81 (Al H.length)]]
theorem OL (g:Gm)(tok:Bool)(H:Heap)(o:List Bool):DH g tok (dS g tok H o) H.length o:=by
 unfold dS;exact⟨by rw[get_at0];rfl,by rw[Hm.get_at];rfl,by rw[Hm.get_at];rfl,by rw[Hm.get_at];rfl,by rw[Hm.get_at];rfl⟩
theorem Mg (g:Gm)(tok:Bool)(H:Heap)(o o2:List Bool):(dS g tok H o).set (H.length+2) (.cells (bools o2))=dS g tok H o2:=by
 unfold dS;rw[set_at];rfl
theorem wP {lk lim:Nat}{H:Heap}(g:Gm)(tok:Bool)(hl:g.ps.length<=1000000)(hr:∀p∈g.ps,p.r.length<=1000000)(hlk:lk<=H.length):
  aj X A lk lim 52 [gV g,Bo tok] H=some (if chkE g=0 then .sl g.n.toNat (bools (derM g tok)) else .e0,H):=by
 have kc:=fun (L:Nat) (H':Heap)=>ck (lk:=lk) (lim:=L) (H:=H') g hl hr;have kg:=fun (L:Nat) (ok:GOk g)=>nO (lk:=lk) (lim:=L) (f:=82) (cap:=[.hp (H.length+3) 1 0,.hp (H.length+4) 1 0]) g.ps (ek g tok) (dS g tok H) (fun o=>o.length=g.n.toNat) (H.length+5) hl rfl
  (fun p=>dg g tok p) (fun o p _ h=>by rw[mN];exact h) (fun o=>by simp[dS]) (fun o p hp ho=>by
   have:=FK (lk:=lk) (lim:=H.length+5) (OL g tok H o) (by omega) ok ho p (ok.p p hp)
   rw[Mg]at this;exact this) (List.replicate g.n.toNat false) (by simp)
 refine ar [] rfl A52 rfl rfl ?_;unfold NL;by_cases hc:chkE g=0;case neg=>
  rw[if_neg hc];obtain⟨t,n,k,ps⟩:=g;simp only[gV,Gm.cells]at kc;generalize aj X A=C at kc |-;simp[Gm.cells,kc,hc]
 have ok:=br hc;rw[if_pos hc];rw[hc]at kc;have kg:=fun L=>kg L ok;obtain⟨t,n,k,ps⟩:=g;have n1:=ok.n1;have n2:=ok.n2;simp only at n1 n2;obtain⟨n,rfl⟩:=Int.eq_ofNat_of_zero_le (by omega:0<=n)
 simp only[gV,Gm.cells]at kc;have hro:(n:Int)<=(aM:Int):=by unfold aM;omega
 obtain⟨F,hF⟩:∃F,derM ⟨t,n,k,ps⟩ tok=F:=⟨_,rfl⟩;have hFl:F.length=n:=by
  rw[<-hF];have:=iI (bu (fun p=>dg ⟨t,n,k,ps⟩ tok p) ps) (fun o=>o.length=n) (fun o h=>iT (fun o=>o.length=n) ps (fun o p _ h=>by rw[mN];exact h) ps (fun _ h=>h) o h) _ (List.replicate n false) (Nat.le_refl _) (by simp)
  exact this
 have kg:∀L,aj X A lk L 76 [.sl ps.length (psC ps),.fn 82 [.hp (H.length+3) 1 0,.hp (H.length+4) 1 0]] (dS ⟨t,n,k,ps⟩ tok H (List.replicate n false))=some (.tup [],dS ⟨t,n,k,ps⟩ tok H F):=fun L=>by
  rw[<-hF];exact kg L
 have hb:=fun (H':Heap)=>j5 H.length H' 7 F;have hb2:=j6 0 F;have htk:(bools F).take n=bools F:=List.take_of_length_le (by rw[aH];omega)
 have hbl:(bools F).length=n:=by rw[aH];exact hFl
 simp only[dS,Gm.cells,Al,Int.toNat_natCast]at kg;rw[hF];simp only[Int.toNat_natCast];generalize aj X A=C at kc kg |-;have s1:lk<=H.length+3:=by omega
 have s2:lk<=H.length+4:=by omega
 have s3:¬(H.length+2<H.length):=by omega
 simp[Gm.cells,kc,hro,fB,aR,s1,s2,set_at,Hm.get_at,get_at0,kg,hbl,htk,hb,hb2,s3]

def jG (g:Gm)(tok:Bool):AV:=if chkE g=0 then .sl g.n.toNat (bools (derM g tok)) else .e0
theorem mP (g:Gm)(tok:Bool):(jG g tok= .e0)\/∃n c,jG g tok= .sl n c:=by
 unfold jG;split
 ·exact .inr ⟨_,_,rfl⟩
 ·exact .inl rfl
section
variable {lk lim:Nat}{H:Heap}(g:Gm)(hl:g.ps.length<=1000000)(hr:∀p∈g.ps,p.r.length<=1000000)(hlk:lk<=H.length)
include hl hr hlk
theorem sN:aj X A lk lim 34 [gV g] H=some (jG g false,H):=by
 have k:=wP (lk:=lk) (lim:=H.length) (H:=H) g false hl hr hlk;have e:(if chkE g=0 then AV.sl g.n.toNat (bools (derM g false)) else AV.e0)=jG g false:=rfl;rw[e]at k;refine ar [1] rfl A34 rfl rfl ?_;unfold NS;simp only[gV,Gm.cells]at k;generalize aj X A=C at k |-;rcases mP g false with h | ⟨n,c,h⟩<;>rw[h]at k |-<;>simp[Gm.cells,k]
theorem B8:aj X A lk lim 74 [gV g] H=some (jG g true,H):=by
 have k:=wP (lk:=lk) (lim:=H.length) (H:=H) g true hl hr hlk;have e:(if chkE g=0 then AV.sl g.n.toNat (bools (derM g true)) else AV.e0)=jG g true:=rfl;rw[e]at k;refine ar [1] rfl A74 rfl rfl ?_;unfold NK;simp only[gV,Gm.cells]at k;generalize aj X A=C at k |-;rcases mP g true with h | ⟨n,c,h⟩<;>rw[h]at k |-<;>simp[Gm.cells,k]
theorem qV:aj X A lk lim 28 [gV g] H=some (jG g false,H):=by
 have k:=sL (lk:=lk) (lim:=H.length) (H:=H) g false hl hr hlk;have e:(if chkE g=0 then AV.sl g.n.toNat (bools (derM g false)) else AV.e0)=jG g false:=rfl;rw[e]at k;refine ar [1] rfl A28 rfl rfl ?_;unfold Oo;simp only[gV,Gm.cells]at k;generalize aj X A=C at k |-;rcases mP g false with h | ⟨n,c,h⟩<;>rw[h]at k |-<;>simp[Gm.cells,k]
theorem yX:aj X A lk lim 57 [gV g] H=some (jG g true,H):=by
 have k:=sL (lk:=lk) (lim:=H.length) (H:=H) g true hl hr hlk;have e:(if chkE g=0 then AV.sl g.n.toNat (bools (derM g true)) else AV.e0)=jG g true:=rfl;rw[e]at k;refine ar [1] rfl A57 rfl rfl ?_;unfold Oj;simp only[gV,Gm.cells]at k;generalize aj X A=C at k |-;rcases mP g true with h | ⟨n,c,h⟩<;>rw[h]at k |-<;>simp[Gm.cells,k]
end

def dM (g:Gm)(o:List Bool)(s:Int):List Bool:=if s<g.t then o else if o.getD (s-g.t).toNat false=true then o else o.set (s-g.t).toNat true
def jH (g:Gm)(o:List Bool)(p:Pr):List Bool:=if o.getD p.l.toNat false=true then p.r.foldl (dM g) o else o
theorem lC (g:Gm)(s:Int):Grows fun o=>dM g o s:=fun o=>by
 simp only[dM];split
 ·exact .inl rfl
 ·split
  ·exact .inl rfl
  ·rename_i h;exact nH o _ h
theorem iU (g:Gm)(p:Pr):Grows fun o=>jH g o p:=fun o=>by
 simp only[jH];split
 ·exact bu (st:=dM g) (fun s=>lC g s) p.r o
 ·exact .inl rfl
def yY (g:Gm):List Bool:=fin (rnd (jH g) g.ps) ((List.replicate g.n.toNat false).set 0 true)

structure RH (g:Gm)(H:Heap)(b:Nat)(o:List Bool):Prop where
 g0:H[b]?=some (.cells g.cells)
 g2:H[b+1]?=some (.cells (bools o))
 g3:H[b+2]?=some (.cells [.hs (b+1) g.n.toNat 0 g.n.toNat 1])
theorem RH.set {g:Gm}{H:Heap}{b:Nat}{o o2:List Bool}(hd:RH g H b o):RH g (H.set (b+1) (.cells (bools o2))) b o2:=by
 obtain⟨g0,g2,g3⟩:=hd;have hl:=mO g2;exact⟨by rw[List.getElem?_set_ne (by omega)];exact g0,by rw[List.getElem?_set_self hl],by rw[List.getElem?_set_ne (by omega)];exact g3⟩
theorem FL {H:Heap}{b:Nat}{x:HB}(h:H[b]?=some x):H.set b x=H:=by
 have hl:=mO h;rw[R4 hl]at h;have h:=Option.some.inj h;rw[<-h];exact List.set_getElem_self hl
theorem qW (g:Gm)(o:List Bool)(s:Int):(dM g o s).length=o.length:=by
 unfold dM;repeat' split
 all_goals simp
theorem sO {α:Type}(st:List Bool->α->List Bool)(l:List α)(o:List Bool)(i:Nat)(h:i<l.length):(l.take (i+1)).foldl st o=st ((l.take i).foldl st o) l[i]:=mM st l o i h
theorem FM {lk lim:Nat}{H:Heap}{g:Gm}{b:Nat}{o:List Bool}(hd:RH g H b o)(hlk:lk<=b+1)(ok:GOk g)(ho:o.length=g.n.toNat)(p:Pr)(pok:POk g p):
  aj X A lk lim 98 [.agg p.cells,.hp (b+2) 1 0,.hp b 4 0] H=some (Bo (decide (jH g o p≠o)),H.set (b+1) (.cells (bools (jH g o p)))):=by
 refine ar [3] rfl A98 rfl rfl ?_;unfold NQ;have hself:=FL hd.g2;have hlt:=mO hd.g2;obtain⟨t,n,k,ps⟩:=g;have n1:=ok.n1;have n2:=ok.n2;have t1:=ok.t1;have t2:=ok.t2;simp only at n1 n2 t1 t2;obtain⟨n,rfl⟩:=Int.eq_ofNat_of_zero_le (by omega:0<=n)
 simp only[Int.toNat_natCast]at ho;obtain⟨pl,pr⟩:=p;obtain⟨q1,q2,q3,q4⟩:=pok;simp only at q1 q2 q3 q4;obtain⟨pl,rfl⟩:=Int.eq_ofNat_of_zero_le q2;have hpn:pl<n:=by omega
 have hpl2:pl<o.length:=by omega
 obtain⟨v,hv⟩:∃v,o[pl]=v:=⟨_,rfl⟩;have hbl:(bools o).length=n:=by rw[aH];exact ho
 have hgD:o.getD pl false=v:=by rw[bV hpl2,hv]
 have g0:=hd.g0;have g2:=hd.g2;have g3:=hd.g3;simp only[Gm.cells]at g0;simp only[Int.toNat_natCast]at g3;cases v with
 | false=>
  have hr:jH ⟨t,n,k,ps⟩ o ⟨pl,pr⟩=o:=by unfold jH;simp only[Int.toNat_natCast,hgD];rfl
  rw[hr,hself];simp[Pr.cells,g3,g2,hpn,hbl,aF,hpl2,hv]
 | true=>
  have hr:jH ⟨t,n,k,ps⟩ o ⟨pl,pr⟩=pr.foldl (dM ⟨t,n,k,ps⟩) o:=by unfold jH;simp only[Int.toNat_natCast,hgD];rfl
  rw[hr];obtain⟨cR,hcR⟩:∃c,decide (pr.foldl (dM ⟨t,n,k,ps⟩) o≠o)=c:=⟨_,rfl⟩;rw[hcR];simp[Pr.cells,g3,g2,hpn,hbl,aF,hpl2,hv];refine ax (σ:=Nat×List Bool×Bool) (fun s=>[(1,.hp (b+2) 1 0),(2,.hp b 4 0),(4,Bo s.2.2),(14,.sl pr.length (ints pr)),(15,I pr.length),(16,I s.1)]) (fun s=>H.set (b+1) (.cells (bools s.2.1)))
   (fun s=>s.1<=pr.length/\s.2.1=(pr.take s.1).foldl (dM ⟨t,n,k,ps⟩) o/\s.2.2=decide (s.2.1≠o)) (fun s=>pr.length-s.1) ?_ (0,o,false) ⟨Nat.zero_le _,rfl,by simp⟩ (by simp) (by rw[hself])
  rintro⟨m,o2,mo⟩ ⟨hm,ho2,hmo⟩;simp only at hm ho2 hmo;unfold JY;have w1:IntKind.i64.wrap ((m:Int)+1)=(m:Int)+1:=au (by omega) (by omega)
  by_cases hml:m<pr.length;case neg=>
   obtain rfl:m=pr.length:=by omega
   rw[List.take_of_length_le (Nat.le_refl _)]at ho2;have hmo2:mo=cR:=by rw[hmo,ho2];exact hcR
   rw[<-ho2,<-hmo2];have htk:=sM H (b+1) (.cells (bools o2));simp[htk]
  obtain⟨x,hx⟩:∃x,pr[m]=x:=⟨_,rfl⟩;obtain⟨x1,x2⟩:=q4 x (hx▸List.getElem_mem hml);have hnext:=sO (dM ⟨t,n,k,ps⟩) pr o m hml;rw[<-ho2,hx]at hnext;have hlen2:o2.length=n:=by
   rw[ho2];have:∀(l:List Int) (q:List Bool),(l.foldl (dM ⟨t,n,k,ps⟩) q).length=q.length:=by
    intro l;induction l with
    | nil=>intro q;rfl
    | cons a l ih=>intro q;simp only[List.foldl_cons];rw[ih];exact qW _ _ _
   rw[this];exact ho
  have hle:=nG (fun s=>lC ⟨t,n,k,ps⟩ s) (pr.take m) o;have hle:bC o2<=bC o:=by rw[ho2];exact hle
  obtain⟨e0,e2,e3⟩:=(hd.set (o2:=o2));simp only[Gm.cells]at e0;simp only[Int.toNat_natCast]at e3;have hbl2:(bools o2).length=n:=by rw[aH];exact hlen2
  by_cases hxt:x<t
  ·have hr:dM ⟨t,n,k,ps⟩ o2 x=o2:=by unfold dM;rw[if_pos hxt]
   rw[hr]at hnext;simp[hml,hx,e0,hxt,w1];rw[ao];exact⟨(m+1,o2,mo),⟨by simp only;omega,hnext.symm,by simpa using hmo⟩,by simp only;omega,by simp,rfl⟩
  ·have hxn:(x-t).toNat<o2.length:=by omega
   have hxn3:(x-t).toNat<n:=by omega
   obtain⟨u,hu⟩:∃u,o2[(x-t).toNat]=u:=⟨_,rfl⟩;have w3:IntKind.i64.wrap (x-t)=x-t:=au (by omega) (by omega)
   have y1:0<=x-t:=by omega
   have y0:t<=x:=by omega
   have y2:x-t<n:=by omega
   have hpl3:(x-t).toNat<(bools o2).length:=by rw[hbl2];exact hxn3
   have hgD2:o2.getD (x-t).toNat false=u:=by rw[bV hxn,hu]
   cases u with
   | true=>
    have hr:dM ⟨t,n,k,ps⟩ o2 x=o2:=by unfold dM;rw[if_neg hxt];simp only[hgD2,if_true]
    rw[hr]at hnext;simp[hml,hx,e0,e2,e3,hxt,w1,w3,y0,y1,y2,hbl2,aF,hxn,hu];rw[ao];exact⟨(m+1,o2,mo),⟨by simp only;omega,hnext.symm,by simpa using hmo⟩,by simp only;omega,by simp,rfl⟩
   | false=>
    have hr:dM ⟨t,n,k,ps⟩ o2 x=o2.set (x-t).toNat true:=by unfold dM;rw[if_neg hxt];simp only[hgD2];rfl
    rw[hr]at hnext;have hcn:=ik o2 _ hxn hu;have hne:o2.set (x-t).toNat true≠o:=fun h=>by rw[h]at hcn;omega
    have y3:(x-t).toNat+1<=n:=hxn3;simp[hml,hx,e0,e2,e3,hxt,w1,w3,y0,y1,y2,y3,hbl2,aF,hxn,hu,aR,hlk,bg _ hpl3,cJ];rw[ao];exact⟨(m+1,o2.set (x-t).toNat true,true),⟨by simp only;omega,hnext.symm,by simp[hne]⟩,by simp only;omega,by simp,by simp⟩

def rS (g:Gm)(H:Heap)(o:List Bool):Heap:=H++[.cells g.cells,.cells (bools o),.cells [.hs (H.length+1) g.n.toNat 0 g.n.toNat 1]]
theorem OM (g:Gm)(H:Heap)(o:List Bool):RH g (rS g H o) H.length o:=by
 unfold rS;exact⟨by rw[get_at0];rfl,by rw[Hm.get_at];rfl,by rw[Hm.get_at];rfl⟩
theorem Mh (g:Gm)(H:Heap)(o o2:List Bool):(rS g H o).set (H.length+1) (.cells (bools o2))=rS g H o2:=by
 unfold rS;rw[set_at];rfl
theorem qX (g:Gm)(o:List Bool)(p:Pr):(jH g o p).length=o.length:=by
 have:∀(l:List Int) (q:List Bool),(l.foldl (dM g) q).length=q.length:=by
  intro l;induction l with
  | nil=>intro q;rfl
  | cons a l ih=>intro q;simp only[List.foldl_cons];rw[ih];exact qW _ _ _
 unfold jH;split
 ·exact this _ _
 ·rfl
def B9 (g:Gm):AV:=if chkE g=0 then .sl g.n.toNat (bools (yY g)) else .e0
theorem qY (g:Gm):(yY g).length=g.n.toNat:=
 iI (bu (fun p=>iU g p) g.ps) (fun o=>o.length=g.n.toNat) (fun o h=>iT (fun o=>o.length=g.n.toNat) g.ps (fun o p _ h=>by rw[qX];exact h) g.ps (fun _ h=>h) o h) _ _ (Nat.le_refl _) (by simp)
theorem FN {lk lim:Nat}{H:Heap}(g:Gm)(hl:g.ps.length<=1000000)(hr:∀p∈g.ps,p.r.length<=1000000)(hlk:lk<=H.length):
  aj X A lk lim 75 [gV g] H=some (B9 g,H):=by
 have kc:=fun (L:Nat) (H':Heap)=>ck (lk:=lk) (lim:=L) (H:=H') g hl hr;have kg:=fun (L:Nat) (ok:GOk g)=>nO (lk:=lk) (lim:=L) (f:=98) (cap:=[.hp (H.length+2) 1 0,.hp H.length 4 0]) g.ps (jH g) (rS g H) (fun o=>o.length=g.n.toNat) (H.length+3) hl rfl
  (fun p=>iU g p) (fun o p _ h=>by rw[qX];exact h) (fun o=>by simp[rS]) (fun o p hp ho=>by
   have:=FM (lk:=lk) (lim:=H.length+3) (OM g H o) (by omega) ok ho p (ok.p p hp)
   rw[Mh]at this;exact this) ((List.replicate g.n.toNat false).set 0 true) (by simp)
 refine ar [] rfl A75 rfl rfl ?_;unfold NP;unfold B9;by_cases hc:chkE g=0;case neg=>
  rw[if_neg hc];obtain⟨t,n,k,ps⟩:=g;simp only[gV,Gm.cells]at kc;generalize aj X A=C at kc |-;simp[Gm.cells,kc,hc]
 have ok:=br hc;rw[if_pos hc];rw[hc]at kc;have kg:=fun L=>kg L ok;have hFl:=qY g;obtain⟨t,n,k,ps⟩:=g;have n1:=ok.n1;have n2:=ok.n2;simp only at n1 n2;obtain⟨n,rfl⟩:=Int.eq_ofNat_of_zero_le (by omega:0<=n)
 simp only[gV,Gm.cells]at kc;have hro:(n:Int)<=(aM:Int):=by unfold aM;omega
 obtain⟨F,hF⟩:∃F,yY ⟨t,n,k,ps⟩=F:=⟨_,rfl⟩;rw[hF]at hFl |-;simp only[Int.toNat_natCast]at hFl;have kg:∀L,aj X A lk L 76 [.sl ps.length (psC ps),.fn 98 [.hp (H.length+2) 1 0,.hp H.length 4 0]] (rS ⟨t,n,k,ps⟩ H ((List.replicate n false).set 0 true))=some (.tup [],rS ⟨t,n,k,ps⟩ H F):=fun L=>by
  rw[<-hF];exact kg L
 have hb:=fun (H':Heap)=>j5 H.length H' 7 F;have hb2:=j6 0 F;have htk:(bools F).take n=bools F:=List.take_of_length_le (by rw[aH];omega)
 have hbl:(bools F).length=n:=by rw[aH];exact hFl
 simp only[rS,Gm.cells,Int.toNat_natCast]at kg;simp only[Int.toNat_natCast];have s1:lk<=H.length+1:=by omega
 have s2:lk<=H.length+2:=by omega
 have s3:¬(H.length+1<H.length):=by omega
 have z1:0<n:=by omega
 have z2:1<=n:=by omega
 have z3:(bools (List.replicate n false)).length=n:=by rw[aH];simp
 have z4:an (bools (List.replicate n false)) 0 [Bo true]=bools ((List.replicate n false).set 0 true):=by
  rw[bg _ (by rw[z3];omega),cJ]
 generalize aj X A=C at kc kg |-;simp[Gm.cells,kc,hro,fB,aR,s1,s2,set_at,Hm.get_at,get_at0,kg,hbl,htk,hb,hb2,s3,z1,z2,z3,z4]

theorem Ca (g:Gm)(o:List Bool)(s:Int)(i:Nat)(h:o.getD i false=true):(dM g o s).getD i false=true:=by
 unfold dM;split
 ·exact h
 ·split
  ·exact h
  ·rw[R3]at h |-;rw[List.getElem?_set];split
   ·split
    ·rfl
    ·rename_i h1 h2;subst h1;rw[List.getElem?_eq_none (by omega)]at h
     simp at h
   ·exact h
theorem sP (g:Gm):∀(l:List Int) (o:List Bool) (i:Nat),o.getD i false=true->(l.foldl (dM g) o).getD i false=true
 | [],_,_,h=>h
 | a::l,o,i,h=>sP g l (dM g o a) i (Ca g o a i h)
theorem wQ (g:Gm):∀(l:List Int) (o:List Bool),(l.foldl (dM g) o).length=o.length
 | [],_=>rfl
 | a::l,o=>by simp only[List.foldl_cons];rw[wQ g l,qW]
theorem Cb {lk lim:Nat}{H:Heap}(g:Gm)(hl:g.ps.length<=1000000)(hr:∀p∈g.ps,p.r.length<=1000000)(hlk:lk<=H.length):
  aj X A lk lim 58 [gV g] H=some (B9 g,H):=by
 have kc:=fun (L:Nat)=>bN (lk:=lk) (lim:=L) (H:=H) g hl hr;refine ar [1,6] rfl A58 rfl rfl ?_;unfold Om;unfold B9;by_cases hc:chkE g=0;case neg=>
  rw[if_neg hc];obtain⟨t,n,k,ps⟩:=g;simp only[gV,Gm.cells]at kc;generalize aj X A=C at kc |-;simp[Gm.cells,kc,hc]
 have ok:=br hc;rw[if_pos hc];rw[hc]at kc;obtain⟨t,n,k,ps⟩:=g;have ok2:=ok;obtain⟨t1,t2,n1,n2,k1,k2,l1,l2,okp⟩:=ok2;simp only at t1 t2 n1 n2 k1 k2 l1 l2 okp;obtain⟨n,rfl⟩:=Int.eq_ofNat_of_zero_le (by omega:0<=n)
 simp only[gV,Gm.cells]at kc;have hro:(n:Int)<=(aM:Int):=by unfold aM;omega
 have z1:0<n:=by omega
 have z2:1<=n:=by omega
 have z3:(bools (List.replicate n false)).length=n:=by rw[aH];simp
 have z4:an (bools (List.replicate n false)) 0 [Bo true]=bools ((List.replicate n false).set 0 true):=by
  rw[bg _ (by rw[z3];omega),cJ]
 simp[Gm.cells,kc,hro,fB,aR,hlk,z1,z2,z3,z4]
 let bx:AV:=.box [I t,I n,I k,.sl ps.length (psC ps)]
 let hsV:AV:=.hs H.length n 0 n 1
 let f:=rnd (jH ⟨t,n,k,ps⟩) ps
 have hf:Grows f:=bu (fun p=>iU _ p) ps;refine ax (σ:=List Bool×Bool) (fun s=>[(1,bx),(3,hsV),(4,Bo s.2)]) (fun s=>H++[.cells (bools s.1)])
  (fun s=>s.1.length=n/\fin f s.1=yY ⟨t,n,k,ps⟩/\(s.2=false->f s.1=s.1)) (fun s=>bC s.1+if s.2=true then 1 else 0) ?_ ((List.replicate n false).set 0 true,true) ⟨by simp,rfl,by simp⟩ (by simp[bx,hsV]) (by simp)
 rintro⟨o,more⟩ ⟨ho,hfin,hmore⟩;simp only at ho hfin hmore;unfold Km;cases more with
 | false=>
  have h1:fin f o=o:=by rw[d6 hf,if_pos (hmore rfl)]
  rw[h1]at hfin;rw[<-hfin];have hb:=j5 H.length (H++[.cells (bools o)]) 7 o;have hb2:=j6 0 o;have htk:(bools o).take n=bools o:=List.take_of_length_le (by rw[aH];omega)
  simp[bx,hsV,aH,ho,htk,hb,hb2]
 | true=>
  simp
  let st:=jH ⟨t,n,k,ps⟩
  refine ax (σ:=Nat×List Bool×Bool) (fun s=>[(1,bx),(3,hsV),(4,Bo s.2.2),(5,I s.1)]) (fun s=>H++[.cells (bools s.2.1)])
   (fun s=>s.1<=ps.length/\s.2.1=rnd st (ps.take s.1) o/\s.2.2=decide (s.2.1≠o)) (fun s=>ps.length-s.1) ?_ (0,o,false) ⟨Nat.zero_le _,rfl,by simp⟩ (by simp[bx,hsV]) rfl
  rintro⟨i,o2,more⟩ ⟨hi,ho2,hm⟩;simp only at hi ho2 hm;unfold Kl;have w1:IntKind.i64.wrap ((i:Int)+1)=(i:Int)+1:=au (by omega) (by omega)
  have hlen2:o2.length=n:=by
   rw[ho2,<-ho];have:∀(l:List Pr) (q:List Bool),(rnd st l q).length=q.length:=by
    intro l;induction l with
    | nil=>intro q;rfl
    | cons p l ih=>intro q;simp only[rnd,List.foldl_cons]at ih |-;rw[ih];exact qX _ _ _
   exact this _ _
  by_cases hil:i<ps.length;case neg=>
   obtain rfl:i=ps.length:=by omega
   rw[List.take_of_length_le (Nat.le_refl _)]at ho2;have hfo:f o=o2:=ho2.symm;have hstep:=d6 hf o;rw[hfo]at hstep;simp[bx,hsV,ao];by_cases he:o2=o
   ·subst he;refine⟨o2,.inl ⟨⟨hlen2,by rw[<-hfin],hfo⟩,by omega,by simpa using hm,rfl⟩⟩
   ·rw[if_neg he]at hstep;refine⟨o2,.inr ⟨⟨hlen2,by rw[<-hfin,hstep]⟩,?_,by simpa[he] using hm,rfl⟩⟩
    have:=hf o;rw[hfo]at this;rcases this with h | h
    ·exact absurd h he
    ·exact h
  obtain⟨p,hp⟩:∃p,ps[i]=p:=⟨_,rfl⟩;have pok:=okp p (hp▸List.getElem_mem hil);have hs:=cd hil;have hll:=aY ps;have h2:i*2+2<=2*ps.length:=by omega
  rw[hp]at hs;simp only[Pr.cells]at hs;have hnext:rnd st (ps.take (i+1)) o=jH ⟨t,n,k,ps⟩ o2 p:=by rw[mM _ _ _ _ hil,<-ho2,hp]
  obtain⟨pl,pr⟩:=p;obtain⟨q1,q2,q3,q4⟩:=pok;simp only at q1 q2 q3 q4 hs;obtain⟨pl,rfl⟩:=Int.eq_ofNat_of_zero_le q2;have hpl:pl<n:=by omega
  have hpl2:pl<o2.length:=by omega
  have hbl:(bools o2).length=n:=by rw[aH];exact hlen2
  simp[-bd,bx,hil,hll,hs,h2];rw[bd];simp[an,hsV];have hle2:=nG (fun p=>iU ⟨t,n,k,ps⟩ p) (ps.take i) o;have hle2:bC o2<=bC o:=by rw[ho2];exact hle2
  refine ax (σ:=Nat×List Bool×Bool) (fun s=>[(1,bx),(3,hsV),(4,Bo s.2.2),(5,I i),(6,.box [I pl,.sl pr.length (ints pr)]),(7,I s.1)]) (fun s=>H++[.cells (bools s.2.1)])
   (fun s=>s.1<=pr.length/\(s.1=0\/o2.getD pl false=true)/\s.2.1=(pr.take s.1).foldl (dM ⟨t,n,k,ps⟩) o2/\s.2.2=decide (s.2.1≠o)) (fun s=>pr.length-s.1) ?_ (0,o2,more) ⟨Nat.zero_le _,.inl rfl,rfl,hm⟩ (by simp[bx,hsV]) rfl
  rintro⟨m,o3,mo⟩ ⟨hmm,hgo,ho3,hmo⟩;simp only at hmm hgo ho3 hmo;unfold Kk;have w2:IntKind.i64.wrap ((m:Int)+1)=(m:Int)+1:=au (by omega) (by omega)
  have hlen3:o3.length=n:=by rw[ho3,wQ];exact hlen2
  have hbl3:(bools o3).length=n:=by rw[aH];exact hlen3
  have hpl3:pl<o3.length:=by omega
  obtain⟨v,hv⟩:∃v,o3[pl]=v:=⟨_,rfl⟩;have hgD:o3.getD pl false=v:=by rw[bV hpl3,hv]
  by_cases hml:m<pr.length;case neg=>
   obtain rfl:m=pr.length:=by omega
   rw[List.take_of_length_le (Nat.le_refl _)]at ho3;simp[bx,hsV,w1];rw[ao];refine⟨(i+1,o3,mo),⟨by simp only;omega,?_,by simpa using hmo⟩,by simp only;omega,by simp,rfl⟩
   rw[hnext];unfold jH;simp only[Int.toNat_natCast];rcases hgo with h | h
   ·have hpr:pr=[]:=List.length_eq_zero_iff.1 h;subst hpr;rw[ho3];split<;>rfl
   ·rw[if_pos h];exact ho3
  cases v with
  | false=>
   have hm0:m=0:=by
    rcases hgo with h | h
    ·exact h
    ·have:=sP ⟨t,n,k,ps⟩ (pr.take m) o2 pl h;rw[<-ho3,hgD]at this;cases this
   subst hm0;have ho3:o3=o2:=ho3;subst ho3;simp[bx,hsV,hml,w1,hpl,hbl3,aF,hpl3,hv];rw[ao];refine⟨(i+1,o3,mo),⟨by simp only;omega,?_,by simpa using hmo⟩,by simp only;omega,by simp,rfl⟩
   rw[hnext];unfold jH;simp only[Int.toNat_natCast,hgD];rfl
  | true=>
   have hg2:o2.getD pl false=true:=by
    rcases hgo with h | h
    ·subst h;have ho3:o3=o2:=ho3;rw[<-ho3,hgD]
    ·exact h
   obtain⟨x,hx⟩:∃x,pr[m]=x:=⟨_,rfl⟩;obtain⟨x1,x2⟩:=q4 x (hx▸List.getElem_mem hml);have hnx:=sO (dM ⟨t,n,k,ps⟩) pr o2 m hml;rw[<-ho3,hx]at hnx;have w3:IntKind.i64.wrap (x-t)=x-t:=au (by omega) (by omega)
   have hle3:=nG (fun s=>lC ⟨t,n,k,ps⟩ s) (pr.take m) o2;have hle3:bC o3<=bC o2:=by rw[ho3];exact hle3
   by_cases hxt:x<t
   ·have hr:dM ⟨t,n,k,ps⟩ o3 x=o3:=by unfold dM;rw[if_pos hxt]
    rw[hr]at hnx;have y0:¬t<=x:=by omega
    have y1:¬0<=x-t:=by omega
    simp[bx,hsV,hml,hpl,hbl3,aF,hpl3,hv,hx,w2,w3,y0,y1];rw[ao];exact⟨(m+1,o3,mo),⟨by simp only;omega,.inr hg2,hnx.symm,by simpa using hmo⟩,by simp only;omega,by simp,rfl⟩
   ·have y0:t<=x:=by omega
    have y1:0<=x-t:=by omega
    have y2:x-t<n:=by omega
    have y3:(x-t).toNat+1<=n:=by omega
    have hxn:(x-t).toNat<o3.length:=by omega
    obtain⟨u,hu⟩:∃u,o3[(x-t).toNat]=u:=⟨_,rfl⟩;have hgD2:o3.getD (x-t).toNat false=u:=by rw[bV hxn,hu]
    have hpl4:(x-t).toNat<(bools o3).length:=by rw[hbl3];omega
    cases u with
    | true=>
     have hr:dM ⟨t,n,k,ps⟩ o3 x=o3:=by unfold dM;rw[if_neg hxt];simp only[hgD2,if_true]
     rw[hr]at hnx;simp[bx,hsV,hml,hpl,hbl3,aF,hpl3,hv,hx,w2,w3,y0,y1,y2,hxn,hu];rw[ao];exact⟨(m+1,o3,mo),⟨by simp only;omega,.inr hg2,hnx.symm,by simpa using hmo⟩,by simp only;omega,by simp,rfl⟩
    | false=>
     have hr:dM ⟨t,n,k,ps⟩ o3 x=o3.set (x-t).toNat true:=by unfold dM;rw[if_neg hxt];simp only[hgD2];rfl
     rw[hr]at hnx;have hcn:=ik o3 _ hxn hu;have hne:o3.set (x-t).toNat true≠o:=fun h=>by rw[h]at hcn;omega
     simp[bx,hsV,hml,hpl,hbl3,aF,hpl3,hv,hx,w2,w3,y0,y1,y2,y3,hxn,hu,aR,hlk,bg _ hpl4,cJ];rw[ao];exact⟨(m+1,o3.set (x-t).toNat true,true),⟨by simp only;omega,.inr hg2,hnx.symm,by simp[hne]⟩,by simp only;omega,by simp,by simp⟩

theorem j7 {α:Type}{st:List Bool->α->List Bool}(h:∀o p,(st o p).length=o.length):∀(l:List α) (o:List Bool),(rnd st l o).length=o.length
 | [],_=>rfl
 | p::l,o=>by
  have:=j7 h l (st o p);simp only[rnd,List.foldl_cons]at this |-;rw[this,h]

def oQ (a b:List Bool):Nat->Nat->Int×Bool
 | 0,_=>(0,true)
 | m+1,i=>if (a.getD i false&&b.getD i false)=true then oQ a b m (i+1) else (i,false)
def redP (g:Gm):Int×Bool:=if chkE g=0 then oQ (derM g true) (yY g) g.n.toNat 0 else (0,false)
def Cc (g:Gm):AV:=.tup [I (redP g).1,Bo (redP g).2]
theorem Cd (g:Gm)(tok:Bool)(l:List Pr)(o:List Bool):(rnd (ek g tok) l o).length=o.length:=j7 (fun o p=>mN g tok o p) l o
theorem fZ (g:Gm)(tok:Bool):(derM g tok).length=g.n.toNat:=
 iI (bu (fun p=>dg g tok p) g.ps) (fun o=>o.length=g.n.toNat) (fun o h=>by rw[Cd];exact h) _ _ (Nat.le_refl _) (by simp)
theorem FO {lk lim:Nat}{H:Heap}(g:Gm)(hl:g.ps.length<=1000000)(hr:∀p∈g.ps,p.r.length<=1000000)(hlk:lk<=H.length):aj X A lk lim 49 [gV g] H=some (Cc g,H):=by
 have kc:=fun (L:Nat)=>ck (lk:=lk) (lim:=L) (H:=H) g hl hr;have kp:=fun (L:Nat)=>B8 (lk:=lk) (lim:=L) (H:=H) g hl hr hlk;have kr:=fun (L:Nat)=>FN (lk:=lk) (lim:=L) (H:=H) g hl hr hlk;refine ar [1] rfl A49 rfl rfl ?_;unfold NJ;unfold Cc redP;by_cases hc:chkE g=0;case neg=>
  rw[if_neg hc];obtain⟨t,n,k,ps⟩:=g;simp only[gV,Gm.cells]at kc;generalize aj X A=C at kc |-;simp[Gm.cells,kc,hc]
 have ok:=br hc;rw[if_pos hc];rw[hc]at kc;have ha:=fZ g true;have hb:=qY g;unfold jG at kp;unfold B9 at kr;rw[if_pos hc]at kp kr;generalize derM g true=a at ha kp |-;generalize yY g=b at hb kr |-;obtain⟨t,n,k,ps⟩:=g;obtain⟨t1,t2,n1,n2,k1,k2,l1,l2,okp⟩:=ok;simp only at t1 t2 n1 n2 k1 k2 l1 l2 okp;obtain⟨n,rfl⟩:=Int.eq_ofNat_of_zero_le (by omega:0<=n)
 simp only[gV,Gm.cells,Int.toNat_natCast]at kc kp kr ha hb |-;generalize aj X A=C at kc kp kr |-;obtain⟨res,hres⟩:∃res,oQ a b n 0=res:=⟨_,rfl⟩;rw[hres];simp[kc,kp,kr];refine ax (σ:=Nat) (fun i=>[(4,.sl n (bools a)),(5,.sl n (bools b)),(15,I n),(16,I i)]) (fun _=>H)
  (fun i=>i<=n/\oQ a b (n-i) i=res) (fun i=>n-i) ?_ 0 (by simp[hres]) (by simp) rfl
 rintro i ⟨hi,hinv⟩;unfold JV;have w1:IntKind.i64.wrap ((i:Int)+1)=(i:Int)+1:=au (by omega) (by omega)
 by_cases hil:i<n;case neg=>
  obtain rfl:i=n:=by omega
  rw[Nat.sub_self]at hinv;subst hinv;simp[oQ]
 have hia:i<a.length:=by omega
 have hib:i<b.length:=by omega
 rw[show n-i=(n-(i+1))+1 by omega,oQ,bV hia,bV hib]at hinv
 obtain⟨u,hu⟩:∃u,a[i]=u:=⟨_,rfl⟩;obtain⟨v,hv⟩:∃v,b[i]=v:=⟨_,rfl⟩;rw[hu,hv]at hinv;cases u with
 | false=>
  subst hinv;simp[hil,aF,hia,hib,hu,ha]
 | true=>
  cases v with
  | false=>
   subst hinv;simp[hil,aF,hia,hib,hu,hv,ha,hb]
  | true=>
   simp only[Bool.and_self,if_true]at hinv;simp[hil,aF,hia,hib,hu,hv,ha,hb,w1];rw[ao];exact⟨i+1,⟨by omega,hinv⟩,by omega,by simp,rfl⟩
theorem Ce {lk lim:Nat}{H:Heap}(g:Gm)(hl:g.ps.length<=1000000)(hr:∀p∈g.ps,p.r.length<=1000000)(hlk:lk<=H.length):aj X A lk lim 40 [gV g] H=some (Cc g,H):=by
 have kc:=fun (L:Nat)=>bN (lk:=lk) (lim:=L) (H:=H) g hl hr;have kp:=fun (L:Nat)=>yX (lk:=lk) (lim:=L) (H:=H) g hl hr hlk;have kr:=fun (L:Nat)=>Cb (lk:=lk) (lim:=L) (H:=H) g hl hr hlk;refine ar [1] rfl A40 rfl rfl ?_;unfold Oi;unfold Cc redP;by_cases hc:chkE g=0;case neg=>
  rw[if_neg hc];obtain⟨t,n,k,ps⟩:=g;simp only[gV,Gm.cells]at kc;generalize aj X A=C at kc |-;simp[Gm.cells,kc,hc]
 have ok:=br hc;rw[if_pos hc];rw[hc]at kc;have ha:=fZ g true;have hb:=qY g;unfold jG at kp;unfold B9 at kr;rw[if_pos hc]at kp kr;generalize derM g true=a at ha kp |-;generalize yY g=b at hb kr |-;obtain⟨t,n,k,ps⟩:=g;obtain⟨t1,t2,n1,n2,k1,k2,l1,l2,okp⟩:=ok;simp only at t1 t2 n1 n2 k1 k2 l1 l2 okp;obtain⟨n,rfl⟩:=Int.eq_ofNat_of_zero_le (by omega:0<=n)
 simp only[gV,Gm.cells,Int.toNat_natCast]at kc kp kr ha hb |-;generalize aj X A=C at kc kp kr |-;obtain⟨res,hres⟩:∃res,oQ a b n 0=res:=⟨_,rfl⟩;rw[hres];simp[kc,kp,kr]
 let bx:AV:=.box [I t,I n,I k,.sl ps.length (psC ps)]
 refine ax (σ:=Nat) (fun i=>[(1,bx),(4,.sl n (bools a)),(5,.sl n (bools b)),(6,I i)]) (fun _=>H)
  (fun i=>i<=n/\oQ a b (n-i) i=res) (fun i=>n-i) ?_ 0 (by simp[hres]) (by simp[bx]) rfl
 rintro i ⟨hi,hinv⟩;unfold Kg;have w1:IntKind.i64.wrap ((i:Int)+1)=(i:Int)+1:=au (by omega) (by omega)
 by_cases hil:i<n;case neg=>
  obtain rfl:i=n:=by omega
  rw[Nat.sub_self]at hinv;subst hinv;simp[oQ,bx]
 have hia:i<a.length:=by omega
 have hib:i<b.length:=by omega
 rw[show n-i=(n-(i+1))+1 by omega,oQ,bV hia,bV hib]at hinv
 obtain⟨u,hu⟩:∃u,a[i]=u:=⟨_,rfl⟩;obtain⟨v,hv⟩:∃v,b[i]=v:=⟨_,rfl⟩;rw[hu,hv]at hinv;cases u with
 | false=>
  subst hinv;simp[bx,hil,aF,hia,hib,hu,ha]
 | true=>
  cases v with
  | false=>
   subst hinv;simp[bx,hil,aF,hia,hib,hu,hv,ha,hb]
  | true=>
   simp only[Bool.and_self,if_true]at hinv;simp[bx,hil,aF,hia,hib,hu,hv,ha,hb,w1];rw[ao];exact⟨i+1,⟨by omega,hinv⟩,by omega,by simp[bx],rfl⟩

abbrev tr (o:List Bool)(i:Nat):Prop:=o.getD i false=true
def Le (o o':List Bool):Prop:=∀i,tr o i->tr o' i
theorem FP {o:List Bool}{i j:Nat}(h:tr o j):tr (o.set i true) j:=by
 unfold tr at *;rw[R3]at *;rw[List.getElem?_set];split
 ·split
  ·rfl
  ·rename_i h1 h2;subst h1;rw[List.getElem?_eq_none (by omega)]at h
   simp at h
 ·exact h
theorem qZ {o:List Bool}{i j:Nat}(h:tr (o.set i true) j):j=i\/tr o j:=by
 unfold tr at *;rw[R3]at *;rw[List.getElem?_set]at h;split at h
 ·rename_i h1;exact .inl h1.symm
 ·exact .inr h
theorem jI {o:List Bool}{i:Nat}(h:i<o.length):tr (o.set i true) i:=by
 unfold tr;rw[R3,List.getElem?_set,if_pos rfl,if_pos h];rfl
theorem Mi {g:Gm}{tok tok':Bool}{o o':List Bool}(ht:tok=true->tok'=true)(h:Le o o'){s:Int}(hs:okS g tok o s=true):okS g tok' o' s=true:=by
 unfold okS at *;split at hs
 ·rename_i h1;rw[if_pos h1];exact ht hs
 ·rename_i h1;rw[if_neg h1];exact h _ hs
theorem FQ {g:Gm}{tok tok':Bool}{o o':List Bool}(ht:tok=true->tok'=true)(h:Le o o'){r:List Int}(hr:r.all (okS g tok o)=true):r.all (okS g tok' o')=true:=by
 rw[List.all_eq_true]at *;exact fun s hs=>Mi ht h (hr s hs)
theorem IY (g:Gm)(tok:Bool)(o:List Bool)(p:Pr):Le o (ek g tok o p):=fun i h=>by
 unfold ek;split
 ·exact h
 ·split
  ·exact FP h
  ·exact h
theorem mQ {g:Gm}{tok:Bool}(Q:List Bool->Prop)(hq:∀o,∀p∈g.ps,Q o->Q (ek g tok o p))(h0:Q (List.replicate g.n.toNat false)):Q (derM g tok):=
 iI (bu (fun p=>dg g tok p) g.ps) Q (fun o h=>iT Q g.ps hq g.ps (fun _ h=>h) o h) _ _ (Nat.le_refl _) h0
theorem pt (n i:Nat):¬tr (List.replicate n false) i:=fun h=>by
 unfold tr at h;rw[R3,List.getElem?_replicate]at h;split at h<;>simp at h
theorem yZ (g:Gm)(tok:Bool):∀p∈g.ps,ek g tok (derM g tok) p=derM g tok:=
 il (fun p=>dg g tok p) g.ps _ (uf (bu (fun p=>dg g tok p) g.ps) _ _ (Nat.le_refl _))
theorem wR {g:Gm}(ok:GOk g)(tok:Bool)(p:Pr)(hp:p∈g.ps)(h:p.r.all (okS g tok (derM g tok))=true):tr (derM g tok) p.l.toNat:=by
 have hf:=yZ g tok p hp;unfold ek at hf;split at hf
 ·assumption
 ·rw[<-hf];have pok:=ok.p p hp;exact jI (by rw[fZ];have:=pok.l0;have:=pok.l1;omega)
theorem Cf (g:Gm)(tok:Bool)(i:Nat)(h:tr (derM g tok) i):∃p∈g.ps,p.l.toNat=i/\p.r.all (okS g tok (derM g tok))=true:=by
 refine mQ (g:=g) (tok:=tok) (fun o=>∀i,tr o i->∃p∈g.ps,p.l.toNat=i/\p.r.all (okS g tok o)=true) (fun o p hp ho i hi=>?_) (fun i hi=>absurd hi (pt _ _)) i h;have hle:=IY g tok o p;have old:tr o i->∃q∈g.ps,q.l.toNat=i/\q.r.all (okS g tok (ek g tok o p))=true:=fun h=>by
  obtain⟨q,h1,h2,h3⟩:=ho i h;exact⟨q,h1,h2,FQ (fun h=>h) hle h3⟩
 by_cases hio:tr o i
 ·exact old hio
 have hi2:=hi;unfold ek at hi2;split at hi2
 ·exact old hi2
 ·split at hi2
  ·rename_i ha;rcases qZ hi2 with h | h
   ·exact⟨p,hp,h.symm,FQ (fun h=>h) hle ha⟩
   ·exact old h
  ·exact old hi2

def bgL (t:Int)(null:List Bool):List Int->List Nat
 | []=>[]
 | x::r=>if x<t then [] else (x-t).toNat::(if null.getD (x-t).toNat false=true then bgL t null r else [])
theorem lD {t:Int}{null:List Bool}{n:Nat}:∀{r:List Int},(∀x∈r,0<=x/\x<t+n)->∀s∈bgL t null r,s<n
 | [],_,s,h=>by simp[bgL]at h
 | x::r,hr,s,h=>by
  simp only[bgL]at h;split at h
  ·simp at h
  ·rename_i h1;rcases List.mem_cons.1 h with h | h
   ·have:=hr x (List.mem_cons_self ..);omega
   ·split at h
    ·exact lD (fun y hy=>hr y (List.mem_cons_of_mem _ hy)) s h
    ·simp at h
theorem uG {t:Int}{null:List Bool}:∀(r:List Int),(bgL t null r).length<=r.length
 | []=>Nat.le_refl _
 | x::r=>by
  simp only[bgL];split
  ·simp
  ·split
   ·have:=uG (t:=t) (null:=null) r;simp;omega
   ·simp
def gd (t:Int)(null:List Bool)(ps:List Pr)(i s:Nat):Prop:=∃p∈ps,p.l.toNat=i/\s∈bgL t null p.r
inductive Path (E:Nat->Nat->Prop):Nat->Nat->Prop
 | one {i j:Nat}:E i j->Path E i j
 | cons {i s j:Nat}:E i s->Path E s j->Path E i j
theorem Path.trans {E:Nat->Nat->Prop}{i j k:Nat}(h:Path E i j)(h2:Path E j k):Path E i k:=by
 induction h with
 | one h=>exact .cons h h2
 | cons h _ ih=>exact .cons h (ih h2)

theorem oC {n i j:Nat}(hi:i<n)(hj:j<n):i*n+j<n*n:=by
 have h1:(i+1)*n<=n*n:=Nat.mul_le_mul_right n hi;rw[Nat.succ_mul]at h1;omega
theorem FS {n i j i' j':Nat}(hj:j<n)(hj':j'<n)(h:i*n+j=i'*n+j'):i=i'/\j=j':=by
 have h1:i=i':=by
  have e1:(i*n+j) / n=i:=by
   rw[Nat.mul_comm,Nat.mul_add_div (by omega),Nat.div_eq_of_lt hj];rfl
  have e2:(i'*n+j') / n=i':=by
   rw[Nat.mul_comm,Nat.mul_add_div (by omega),Nat.div_eq_of_lt hj'];rfl
  rw[<-e1,<-e2,h]
 subst h1;exact⟨rfl,by omega⟩
abbrev Mx (n:Nat)(o:List Bool)(i j:Nat):Prop:=tr o (i*n+j)
theorem y5 {n:Nat}{o:List Bool}{i j i' j':Nat}{v:Bool}(ho:o.length=n*n)(hi:i<n)(hj:j<n)(hj':j'<n):Mx n (o.set (i*n+j) v) i' j'↔if i'=i/\j'=j then v=true else Mx n o i' j':=by
 unfold Mx tr;rw[R3,R3,List.getElem?_set];by_cases h:i'=i/\j'=j
 ·obtain⟨rfl,rfl⟩:=h;rw[if_pos rfl,if_pos (by rw[ho];exact oC hi hj),if_pos ⟨rfl,rfl⟩]
  simp
 ·rw[if_neg h,if_neg (fun e=>h (by have:=FS hj hj' e;exact⟨this.1.symm,this.2.symm⟩))]

def lfK (n l s:Nat)(o:List Bool)(k:Nat):List Bool:=if ((o.getD (s*n+k) false||decide (k=s))&&!o.getD (l*n+k) false)=true then o.set (l*n+k) true else o
def lfS (n l:Nat)(o:List Bool)(s:Nat):List Bool:=(List.range n).foldl (lfK n l s) o
def lfP (n:Nat)(t:Int)(null:List Bool)(o:List Bool)(p:Pr):List Bool:=(bgL t null p.r).foldl (lfS n p.l.toNat) o
theorem nP (n l s k:Nat):Grows fun o=>lfK n l s o k:=fun o=>by
 simp only[lfK];split
 ·rename_i h;refine nH o _ (fun h2=>?_);rw[h2]at h;simp at h
 ·exact .inl rfl
theorem nQ (n l s:Nat):Grows fun o=>lfS n l o s:=fun o=>bu (st:=lfK n l s) (fun k=>nP n l s k) (List.range n) o
theorem iq (n:Nat)(t:Int)(null:List Bool)(p:Pr):Grows fun o=>lfP n t null o p:=fun o=>bu (st:=lfS n p.l.toNat) (fun s=>nQ n p.l.toNat s) (bgL t null p.r) o
theorem uH (n l s:Nat)(o:List Bool)(k:Nat):(lfK n l s o k).length=o.length:=by
 unfold lfK;split<;>simp
theorem Am (n l:Nat)(o:List Bool)(s:Nat):(lfS n l o s).length=o.length:=j7 (fun o k=>uH n l s o k) _ o
theorem An (n:Nat)(t:Int)(null:List Bool)(o:List Bool)(p:Pr):(lfP n t null o p).length=o.length:=j7 (fun o s=>Am n p.l.toNat o s) _ o
def gI (n:Nat)(t:Int)(null:List Bool)(ps:List Pr):List Bool:=fin (rnd (lfP n t null) ps) (List.replicate (n*n) false)
def y6 (t:Int)(n:Nat)(ps:List Pr):Prop:=∀p∈ps,p.l.toNat<n/\∀x∈p.r,0<=x/\x<t+n
section
variable {n:Nat}{t:Int}{null:List Bool}{ps:List Pr}
theorem sR:(gI n t null ps).length=n*n:=
 iI (bu (fun p=>iq n t null p) ps) (fun o=>o.length=n*n) (fun o h=>by rw[j7 (fun o p=>An n t null o p)];exact h) _ _ (Nat.le_refl _) (by simp)
theorem wS (ok:y6 t n ps)(i j:Nat)(hj:j<n)(h:Mx n (gI n t null ps) i j):Path (gd t null ps) i j:=by
 have:=iI (bu (fun p=>iq n t null p) ps) (fun o=>o.length=n*n/\∀i j,j<n->Mx n o i j->Path (gd t null ps) i j) (fun o ho=>?_) _ (List.replicate (n*n) false) (Nat.le_refl _) ⟨by simp,fun i j _ h=>absurd h (pt _ _)⟩
 ·exact this.2 i j hj h
 ·refine iT (st:=lfP n t null) (fun o=>o.length=n*n/\∀i j,j<n->Mx n o i j->Path (gd t null ps) i j) ps (fun o p hp ho=>?_) ps (fun _ h=>h) o ho;obtain⟨hl,hr⟩:=ok p hp;refine iT (st:=lfS n p.l.toNat) (fun o=>o.length=n*n/\∀i j,j<n->Mx n o i j->Path (gd t null ps) i j) (bgL t null p.r) (fun o s hs ho=>?_) _ (fun _ h=>h) o ho;have hsn:=lD hr s hs;have he:gd t null ps p.l.toNat s:=⟨p,hp,rfl,hs⟩;refine iT (st:=lfK n p.l.toNat s) (fun o=>o.length=n*n/\∀i j,j<n->Mx n o i j->Path (gd t null ps) i j) (List.range n) (fun o k hk ho=>?_) _ (fun _ h=>h) o ho;have hk:=List.mem_range.1 hk;refine⟨by rw[uH];exact ho.1,fun i j hj h=>?_⟩
  unfold lfK at h;split at h
  ·rename_i hc;simp only[Bool.and_eq_true,Bool.or_eq_true,decide_eq_true_eq]at hc;rw[y5 ho.1 hl hk hj]at h;split at h
   ·rename_i hij;obtain⟨rfl,rfl⟩:=hij;rcases hc.1 with h1 | h1
    ·exact .cons he (ho.2 _ _ hj h1)
    ·rw[h1];exact .one he
   ·exact ho.2 i j hj h
  ·exact ho.2 i j hj h
theorem iX (ok:y6 t n ps){l s k:Nat}(he:gd t null ps l s)(hk:k<n)(h:k=s\/Mx n (gI n t null ps) s k):Mx n (gI n t null ps) l k:=by
 obtain⟨p,hp,rfl,hs⟩:=he;obtain⟨hl,hr⟩:=ok p hp;have f1:=il (fun p=>iq n t null p) ps _ (uf (bu (fun p=>iq n t null p) ps) _ (List.replicate (n*n) false) (Nat.le_refl _)) p hp;change lfP n t null (gI n t null ps) p=gI n t null ps at f1;have f2:=il (st:=lfS n p.l.toNat) (fun s=>nQ n p.l.toNat s) (bgL t null p.r) (gI n t null ps) f1 s hs;have f3:=il (st:=lfK n p.l.toNat s) (fun k=>nP n p.l.toNat s k) (List.range n) (gI n t null ps) f2 k (List.mem_range.2 hk);unfold lfK at f3;split at f3
 ·rw[<-f3];exact jI (by rw[sR];exact oC hl hk)
 ·rename_i hc;simp only[Bool.and_eq_true,Bool.or_eq_true,decide_eq_true_eq,Bool.not_eq_true',not_and]at hc;have:=hc (h.symm.imp (fun h=>h) (fun h=>h));unfold Mx tr;simpa using this
theorem Cg (ok:y6 t n ps)(i j:Nat)(hj:j<n):Mx n (gI n t null ps) i j↔Path (gd t null ps) i j:=by
 refine⟨wS ok i j hj,fun h=>?_⟩;induction h with
 | one h=>exact iX ok h hj (.inl rfl)
 | cons h _ ih=>exact iX ok h hj (.inr (ih hj))
end

theorem oD {n:Nat}{o:List Bool}{i:Nat}{j a b:Nat}(h:Mx n o a b):Mx n (o.set (i*n+j) true) a b:=FP h
theorem ir {α β:Type}{f:β->α->β}(Q:β->Prop):∀(l:List α) (o:β),(∀o,∀x∈l,Q o->Q (f o x))->Q o->Q (l.foldl f o)
 | [],_,_,h=>h
 | x::l,o,hq,h=>ir Q l (f o x) (fun o y hy=>hq o y (List.mem_cons_of_mem _ hy)) (hq o x (List.mem_cons_self ..) h)
theorem rc {α β:Type}{f:β->α->β}(I Q:β->Prop):∀(l:List α) (o:β) (x:α),x∈l->I o->(∀o,∀y∈l,I o->I (f o y))->(∀o,I o->Q (f o x))->(∀o,∀y∈l,I o->Q o->Q (f o y))->Q (l.foldl f o)
 | [],_,_,h,_,_,_,_=>by simp at h
 | y::l,o,x,h,hi,ki,h1,h2=>by
  rw[List.foldl_cons];have ki2:∀o,∀z∈l,I o->I (f o z):=fun o z hz=>ki o z (List.mem_cons_of_mem _ hz);have hi2:=ki o y (List.mem_cons_self ..) hi;by_cases hx:x∈l
  ·exact rc I Q l (f o y) x hx hi2 ki2 h1 fun o z hz=>h2 o z (List.mem_cons_of_mem _ hz)
  ·rcases List.mem_cons.1 h with rfl | h
   ·have:=ir (f:=f) (fun o=>I o/\Q o) l (f o x) (fun o z hz hq=>⟨ki2 o z hz hq.1,h2 o z (List.mem_cons_of_mem _ hz) hq.1 hq.2⟩) ⟨hi2,h1 o hi⟩;exact this.2
   ·exact absurd h hx

def edS (n l:Nat)(o:List Bool)(s:Nat):List Bool:=o.set (l*n+s) true
def edP (n:Nat)(t:Int)(null:List Bool)(o:List Bool)(p:Pr):List Bool:=(bgL t null p.r).foldl (edS n p.l.toNat) o
def edM (n:Nat)(t:Int)(null:List Bool)(ps:List Pr):List Bool:=ps.foldl (edP n t null) (List.replicate (n*n) false)
def waC (n m i:Nat)(o:List Bool)(k:Nat):List Bool:=o.set (i*n+k) (o.getD (i*n+k) false||(o.getD (i*n+m) false&&o.getD (m*n+k) false))
def waR (n m:Nat)(o:List Bool)(i:Nat):List Bool:=(List.range n).foldl (waC n m i) o
def waM (n:Nat)(o:List Bool)(m:Nat):List Bool:=(List.range n).foldl (waR n m) o
def y7 (n:Nat)(t:Int)(null:List Bool)(ps:List Pr):List Bool:=(List.range n).foldl (waM n) (edM n t null ps)
theorem fC {α:Type}{f:List Bool->α->List Bool}(h:∀o x,(f o x).length=o.length)(l:List α)(o:List Bool):(l.foldl f o).length=o.length:=j7 h l o
theorem uI (n m i:Nat)(o:List Bool)(k:Nat):(waC n m i o k).length=o.length:=by simp[waC]
theorem uJ (n m:Nat)(o:List Bool)(i:Nat):(waR n m o i).length=o.length:=fC (fun o k=>uI n m i o k) _ _
theorem uK (n:Nat)(o:List Bool)(m:Nat):(waM n o m).length=o.length:=fC (fun o i=>uJ n m o i) _ _
theorem uL (n:Nat)(t:Int)(null:List Bool)(o:List Bool)(p:Pr):(edP n t null o p).length=o.length:=fC (fun o s=>by simp[edS]) _ _
theorem uM (n:Nat)(t:Int)(null:List Bool)(ps:List Pr):(edM n t null ps).length=n*n:=by
 unfold edM;rw[fC (fun o p=>uL n t null o p)];simp
section
variable {n:Nat}{t:Int}{null:List Bool}{ps:List Pr}
theorem Ao (ok:y6 t n ps)(i j:Nat)(hj:j<n):Mx n (edM n t null ps) i j↔gd t null ps i j:=by
 constructor
 ·intro h;have:=ir (f:=edP n t null) (fun o=>o.length=n*n/\∀i j,j<n->Mx n o i j->gd t null ps i j) ps (List.replicate (n*n) false) (fun o p hp ho=>?_) ⟨by simp,fun i j _ h=>absurd h (pt _ _)⟩
  ·exact this.2 i j hj h
  ·obtain⟨hl,hr⟩:=ok p hp;refine ir (f:=edS n p.l.toNat) (fun o=>o.length=n*n/\∀i j,j<n->Mx n o i j->gd t null ps i j) _ o (fun o s hs ho=>?_) ho;have hsn:=lD hr s hs;refine⟨by simp[edS,ho.1],fun i j hj h=>?_⟩
   unfold edS at h;rw[y5 ho.1 hl hsn hj]at h;split at h
   ·rename_i hij;obtain⟨rfl,rfl⟩:=hij;exact⟨p,hp,rfl,hs⟩
   ·exact ho.2 i j hj h
 ·rintro⟨p,hp,rfl,hs⟩;obtain⟨hl,hr⟩:=ok p hp;refine rc (f:=edP n t null) (fun o=>o.length=n*n) (fun o=>Mx n o p.l.toNat j) ps _ p hp (by simp) (fun o q _ h=>by rw[uL];exact h) (fun o ho=>?_) (fun o q hq ho h=>?_)
  ·refine rc (f:=edS n p.l.toNat) (fun o=>o.length=n*n) (fun o=>Mx n o p.l.toNat j) _ o j hs ho (fun o s _ h=>by simp[edS,h]) (fun o ho=>?_) (fun o s _ _ h=>oD h)
   exact jI (by rw[ho];exact oC hl hj)
  ·exact ir (f:=edS n q.l.toNat) (fun o=>Mx n o p.l.toNat j) _ o (fun o s _ h=>oD h) h
theorem IZ {b:List Bool}{m:Nat}(hb:b.length=n*n)(hm:m<n)(i j:Nat)(hi:i<n)(hj:j<n):Mx n (waM n b m) i j↔Mx n b i j\/(Mx n b i m/\Mx n b m j):=by
 have cell:∀(i k:Nat) (o:List Bool),i<n->k<n->o.length=n*n->(∀i' j',i'<n->j'<n->(Mx n o i' j'↔if i'<i\/(i'=i/\j'<k) then Mx n b i' j'\/(Mx n b i' m/\Mx n b m j') else Mx n b i' j'))->
   ∀i' j',i'<n->j'<n->(Mx n (waC n m i o k) i' j'↔if i'<i\/(i'=i/\j'<k+1) then Mx n b i' j'\/(Mx n b i' m/\Mx n b m j') else Mx n b i' j'):=by
  intro i k o hi hk ho h i' j' hi' hj';unfold waC;rw[y5 ho hi hk hj'];by_cases hij:i'=i/\j'=k
  ·obtain⟨rfl,rfl⟩:=hij;rw[if_pos ⟨rfl,rfl⟩,if_pos (.inr ⟨rfl,by omega⟩)]
   have e1:=h i' j' hi' hj';rw[if_neg (by omega)]at e1
   have e2:Mx n o i' m↔Mx n b i' m:=by
    rw[h i' m hi' hm];split
    ·constructor
     ·rintro (h | h)
      ·exact h
      ·exact h.1
     ·exact .inl
    ·exact Iff.rfl
   have e3:Mx n o m j'↔Mx n b m j':=by
    rw[h m j' hm hj'];split
    ·constructor
     ·rintro (h | h)
      ·exact h
      ·exact h.2
     ·exact .inl
    ·exact Iff.rfl
   rw[Bool.or_eq_true,Bool.and_eq_true];exact or_congr e1 (and_congr e2 e3)
  ·rw[if_neg hij,h i' j' hi' hj'];by_cases h1:i'<i\/(i'=i/\j'<k)
   ·rw[if_pos h1,if_pos (by omega)]
   ·rw[if_neg h1,if_neg (by omega)]
 have row:∀(i:Nat) (o:List Bool),i<n->o.length=n*n->(∀i' j',i'<n->j'<n->(Mx n o i' j'↔if i'<i then Mx n b i' j'\/(Mx n b i' m/\Mx n b m j') else Mx n b i' j'))->
   ∀i' j',i'<n->j'<n->(Mx n (waR n m o i) i' j'↔if i'<i+1 then Mx n b i' j'\/(Mx n b i' m/\Mx n b m j') else Mx n b i' j'):=by
  intro i o hi ho h;have main:∀k,k<=n->((List.range k).foldl (waC n m i) o).length=n*n/\∀i' j',i'<n->j'<n->(Mx n ((List.range k).foldl (waC n m i) o) i' j'↔if i'<i\/(i'=i/\j'<k) then Mx n b i' j'\/(Mx n b i' m/\Mx n b m j') else Mx n b i' j'):=by
   intro k;induction k with
   | zero=>
    intro _;refine⟨ho,fun i' j' h1 h2=>?_⟩;rw[List.range_zero,List.foldl_nil,h i' j' h1 h2];by_cases h3:i'<i
    ·rw[if_pos h3,if_pos (.inl h3)]
    ·rw[if_neg h3,if_neg (by omega)]
   | succ k ih=>
    intro hk;obtain⟨h1,h2⟩:=ih (by omega)
    rw[List.range_succ,List.foldl_append];exact⟨by simp only[List.foldl_cons,List.foldl_nil];rw[uI];exact h1,cell i k _ hi (by omega) h1 h2⟩
  intro i' j' h1 h2;unfold waR;rw[(main n (Nat.le_refl _)).2 i' j' h1 h2];by_cases h3:i'<i+1
  ·rw[if_pos (by omega),if_pos h3]
  ·rw[if_neg (by omega),if_neg h3]
 have all:∀k,k<=n->((List.range k).foldl (waR n m) b).length=n*n/\∀i' j',i'<n->j'<n->(Mx n ((List.range k).foldl (waR n m) b) i' j'↔if i'<k then Mx n b i' j'\/(Mx n b i' m/\Mx n b m j') else Mx n b i' j'):=by
  intro k;induction k with
  | zero=>
   intro _;exact⟨hb,fun i' j' h1 h2=>by rw[List.range_zero,List.foldl_nil,if_neg (by omega)]⟩
  | succ k ih=>
   intro hk;obtain⟨h1,h2⟩:=ih (by omega)
   rw[List.range_succ,List.foldl_append];exact⟨by simp only[List.foldl_cons,List.foldl_nil];rw[uJ];exact h1,row k _ (by omega) h1 h2⟩
 unfold waM;rw[(all n (Nat.le_refl _)).2 i j hi hj,if_pos hi]
theorem FT (ok:y6 t n ps)(i j:Nat)(hi:i<n)(hj:j<n):Mx n (y7 n t null ps) i j↔Path (gd t null ps) i j:=by
 have Elt:∀a b,gd t null ps a b->a<n/\b<n:=fun a b ⟨p,hp,h1,h2⟩=>by
  obtain⟨hl,hr⟩:=ok p hp;exact⟨h1▸hl,lD hr b h2⟩
 have main:∀m,m<=n->((List.range m).foldl (waM n) (edM n t null ps)).length=n*n/\
   (∀i j,i<n->j<n->gd t null ps i j->Mx n ((List.range m).foldl (waM n) (edM n t null ps)) i j)/\
   (∀i j,i<n->j<n->Mx n ((List.range m).foldl (waM n) (edM n t null ps)) i j->Path (gd t null ps) i j)/\
   ∀m',m'<m->∀i j,i<n->j<n->Mx n ((List.range m).foldl (waM n) (edM n t null ps)) i m'->Mx n ((List.range m).foldl (waM n) (edM n t null ps)) m' j->Mx n ((List.range m).foldl (waM n) (edM n t null ps)) i j:=by
  intro m;induction m with
  | zero=>
   intro _;exact⟨uM ..,fun i j _ hj h=>(Ao ok i j hj).2 h,fun i j _ hj h=>.one ((Ao ok i j hj).1 h),fun m' h=>absurd h (by omega)⟩
  | succ m ih=>
   intro hm;obtain⟨h1,h2,h3,h4⟩:=ih (by omega)
   rw[List.range_succ,List.foldl_append,List.foldl_cons,List.foldl_nil];generalize (List.range m).foldl (waM n) (edM n t null ps)=b at h1 h2 h3 h4;have hmn:m<n:=hm;have e:=fun i j hi hj=>IZ h1 hmn i j hi hj;refine⟨by rw[uK];exact h1,fun i j hi hj h=>(e i j hi hj).2 (.inl (h2 i j hi hj h)),fun i j hi hj h=>?_,fun m' hm' i j hi hj ha hb=>?_⟩
   ·rcases (e i j hi hj).1 h with h | ⟨ha,hb⟩
    ·exact h3 i j hi hj h
    ·exact(h3 i m hi hmn ha).trans (h3 m j hmn hj hb)
   ·have hm'n:m'<n:=by omega
    have ha:=(e i m' hi hm'n).1 ha;have hb:=(e m' j hm'n hj).1 hb;refine(e i j hi hj).2 ?_;by_cases hmm:m'=m
    ·subst hmm;have ha:Mx n b i m':=by rcases ha with h | h;exact h;exact h.1
     have hb:Mx n b m' j:=by rcases hb with h | h;exact h;exact h.2
     exact .inr ⟨ha,hb⟩
    ·have hlt:m'<m:=by omega
     rcases ha with ha | ⟨ha1,ha2⟩
     ·rcases hb with hb | ⟨hb1,hb2⟩
      ·exact .inl (h4 m' hlt i j hi hj ha hb)
      ·exact .inr ⟨h4 m' hlt i m hi hmn ha hb1,hb2⟩
     ·rcases hb with hb | ⟨hb1,hb2⟩
      ·exact .inr ⟨ha1,h4 m' hlt m j hmn hj ha2 hb⟩
      ·exact .inr ⟨ha1,hb2⟩
 obtain⟨h1,h2,h3,h4⟩:=main n (Nat.le_refl _);refine⟨h3 i j hi hj,fun h=>?_⟩;induction h with
 | one h=>exact h2 _ _ hi hj h
 | cons h _ ih=>
  obtain⟨ha,hb⟩:=Elt _ _ h;exact h4 _ hb _ _ hi hj (h2 _ _ ha hb h) (ih hb hj)
end

section
variable {n:Nat}{t:Int}{null:List Bool}{ps:List Pr}
def PathN (E:Nat->Nat->Prop):Nat->Nat->Nat->Prop
 | 0,_,_=>False
 | r+1,i,j=>∃s,E i s/\(s=j\/PathN E r s j)
theorem PathN.more {E:Nat->Nat->Prop}:∀{r i j:Nat},PathN E r i j->PathN E (r+1) i j
 | r+1,i,j,⟨s,h1,h2⟩=>⟨s,h1,h2.imp (fun h=>h) fun h=>h.more⟩
open Classical in
end
def dgL (n:Nat)(o:List Bool):Nat->Nat->Int×Bool
 | 0,_=>(0,false)
 | m+1,i=>if o.getD (i*n+i) false=true then ((i:Int),true) else dgL n o m (i+1)
theorem FU {n:Nat}{o o':List Bool}:∀(m i:Nat),i+m<=n->(∀i,i<n->(Mx n o i i↔Mx n o' i i))->dgL n o m i=dgL n o' m i
 | 0,_,_,_=>rfl
 | m+1,i,hi,h=>by
  simp only[dgL];have:=h i (by omega)
  unfold Mx tr at this;by_cases h1:o.getD (i*n+i) false=true
  ·rw[if_pos h1,if_pos (this.1 h1)]
  ·rw[if_neg h1,if_neg (fun h2=>h1 (this.2 h2)),FU m (i+1) (by omega) h]

def rowL (n:Nat)(o:List Bool)(i:Nat):List Bool:=(o.drop (i*n)).take n
def rF (n:Nat)(o:List Bool):Heap:=(List.range n).map fun i=>.cells (bools (rowL n o i))
theorem eR {n:Nat}{o:List Bool}{i:Nat}(ho:o.length=n*n)(hi:i<n):(rowL n o i).length=n:=by
 unfold rowL;rw[List.length_take,List.length_drop,ho];have h1:(i+1)*n<=n*n:=Nat.mul_le_mul_right n hi;rw[Nat.succ_mul]at h1;omega
theorem gg {n:Nat}{o:List Bool}{i k:Nat}(hk:k<n):(rowL n o i)[k]?=o[i*n+k]?:=by
 unfold rowL;rw[List.getElem?_take,if_pos hk,List.getElem?_drop]
theorem mR (n:Nat)(o:List Bool):(rF n o).length=n:=by simp[rF]
theorem mT {n:Nat}{o:List Bool}{i:Nat}(hi:i<n):(rF n o)[i]?=some (.cells (bools (rowL n o i))):=by
 unfold rF;rw[List.getElem?_map,List.getElem?_range hi];rfl
theorem FV {n:Nat}{o:List Bool}{i k i':Nat}{v:Bool}(ho:o.length=n*n)(hi:i<n)(hk:k<n)(hi':i'<n):rowL n (o.set (i*n+k) v) i'=if i'=i then (rowL n o i).set k v else rowL n o i':=by
 apply List.ext_getElem?;intro j;rcases Nat.lt_or_ge j n with hj | hj
 ·rw[gg hj,List.getElem?_set];by_cases h:i'=i
  ·subst h;rw[if_pos rfl,List.getElem?_set,eR ho hi,gg hj];by_cases hkj:k=j
   ·subst hkj;rw[if_pos rfl,if_pos rfl,if_pos hk,if_pos (by rw[ho];exact oC hi hk)]
   ·rw[if_neg hkj,if_neg (by omega)]
  ·rw[if_neg h,gg hj,if_neg (fun e=>h (FS hk hj e).1.symm)]
 ·have hl:(rowL n (o.set (i*n+k) v) i').length=n:=eR (by rw[List.length_set];exact ho) hi'
  rw[List.getElem?_eq_none (by omega)]
  split
  ·rw[List.getElem?_eq_none (by rw[List.length_set,eR ho hi];omega)]
  ·rw[List.getElem?_eq_none (by rw[eR ho hi'];omega)]
theorem wT {n:Nat}{o:List Bool}{i k:Nat}{v:Bool}(ho:o.length=n*n)(hi:i<n)(hk:k<n):(rF n o).set i (.cells (bools ((rowL n o i).set k v)))=rF n (o.set (i*n+k) v):=by
 apply List.ext_getElem?;intro j;rw[List.getElem?_set,mR];rcases Nat.lt_or_ge j n with hj | hj
 ·rw[mT hj,mT hj,FV ho hi hk hj];by_cases h:i=j
  ·subst h;rw[if_pos rfl,if_pos hj,if_pos rfl]
  ·rw[if_neg h,if_neg (fun e=>h e.symm)]
 ·rw[if_neg (by omega),List.getElem?_eq_none (by rw[mR];omega),List.getElem?_eq_none (by rw[mR];omega)]
theorem Ch (n i:Nat)(hi:i<n):rowL n (List.replicate (n*n) false) i=List.replicate n false:=by
 unfold rowL;rw[List.drop_replicate,List.take_replicate];congr 1;have h1:(i+1)*n<=n*n:=Nat.mul_le_mul_right n hi;rw[Nat.succ_mul]at h1;omega
def lF (b n m:Nat):List AV:=(List.range m).map fun i=>.hs (b+i) n 0 n 1
theorem wU {b n m i:Nat}(h:i<m):(lF b n m)[i]?=some (.hs (b+i) n 0 n 1):=by
 unfold lF;rw[List.getElem?_map,List.getElem?_range h];rfl
theorem dI {b n m i:Nat}(h:i<(lF b n m).length):(lF b n m)[i]= .hs (b+i) n 0 n 1:=by simp[lF]
theorem ed (b n m:Nat):(lF b n m).length=m:=by simp[lF]
def gp (b n m:Nat):List AV:=lF b n m++List.replicate (n-m) .e0
theorem wV {b n m:Nat}(h:m<n):(gp b n m).set m (.hs (b+m) n 0 n 1)=gp b n (m+1):=by
 unfold gp;rw[List.set_append_right _ _ (by rw[ed];omega),ed,Nat.sub_self,show n-m=(n-(m+1))+1 by omega,List.replicate_succ,List.set_cons_zero]
 unfold lF;rw[List.range_succ,List.map_append,List.append_assoc];rfl
theorem wW {b n m:Nat}(h:m<=n):(gp b n m).length=n:=by
 unfold gp;rw[List.length_append,ed,List.length_replicate];omega
theorem wX (b n:Nat):gp b n n=lF b n n:=by
 unfold gp;rw[Nat.sub_self];simp
theorem sS (n m:Nat)(h:m<=n):(List.range m).map (fun i=>HB.cells (bools (rowL n (List.replicate (n*n) false) i)))=List.replicate m (.cells (bools (List.replicate n false))):=by
 apply List.ext_getElem?;intro i;rw[List.getElem?_map,List.getElem?_replicate];rcases Nat.lt_or_ge i m with hi | hi
 ·rw[List.getElem?_range hi,if_pos hi,Option.map_some,Ch n i (by omega)]
 ·rw[List.getElem?_eq_none (by simpa using hi),if_neg (by omega)];rfl

theorem FW {lk lim:Nat}{H:Heap}(g:Gm)(ok:GOk g)(null:List Bool)(hn:null.length=g.n.toNat)(r:List Int)(hr:r.length<=8)(hs:∀x∈r,0<=x/\x<g.t+g.n)(hlk:lk<=H.length):
  aj X A lk lim 78 [gV g,.sl g.n.toNat (bools null),.sl r.length (ints r)] H=some (slvN (bgL g.t null r),H):=by
 refine ar [3] rfl A78 rfl rfl ?_;generalize aj X A=C;unfold NU;obtain⟨t,n,k,ps⟩:=g;obtain⟨t1,t2,n1,n2,k1,k2,l1,l2,okp⟩:=ok;simp only at t1 t2 n1 n2 hn hs;obtain⟨n,rfl⟩:=Int.eq_ofNat_of_zero_le (by omega:0<=n)
 simp only[Int.toNat_natCast]at hn |-;simp[Gm.cells]
 let bx:AV:=.box [I t,I n,I k,.sl ps.length (psC ps)]
 have hbl:=uG (t:=t) (null:=null) r;obtain⟨B,hB⟩:∃B,bgL t null r=B:=⟨_,rfl⟩;rw[hB]at hbl;rw[hB];refine ax (σ:=Nat×List Nat) (fun s=>[(1,.sl n (bools null)),(3,bx),(6,oV H s.2),(9,.sl r.length (ints r)),(10,I r.length),(11,I s.1)]) (fun s=>oH H s.2)
  (fun s=>s.1<=r.length/\s.2.length=s.1/\s.2++bgL t null (r.drop s.1)=B) (fun s=>r.length-s.1) ?_ (0,[]) ⟨Nat.zero_le _,rfl,by rw[<-hB];rfl⟩ (by simp[bx,oV]) (by simp[oH])
 rintro⟨i,o⟩ ⟨hi,ho,hinv⟩;simp only at hi ho hinv;unfold J2;have w1:IntKind.i64.wrap ((i:Int)+1)=(i:Int)+1:=au (by omega) (by omega)
 have fin:o=B->∀e:Env,ev e (.tmp 6)=oV H o->True:=fun _ _ _=>trivial;clear fin;by_cases hil:i<r.length;case neg=>
  obtain rfl:i=r.length:=by omega
  rw[List.drop_length]at hinv;have hinv:o=B:=by simpa[bgL] using hinv
  subst hinv;by_cases h0:o=[]
  ·simp[bx,oV,oH,slvN,h0]
  ·simp[bx,oV,oH,slvN,h0]
 have hro1:8<=aM:=by unfold aM;omega
 have hro:(o.length+1)*8<=aM:=by unfold aM;omega
 obtain⟨x,hx⟩:∃x,r[i]=x:=⟨_,rfl⟩;obtain⟨x1,x2⟩:=hs x (hx▸List.getElem_mem hil);rw[List.drop_eq_getElem_cons hil,hx,bgL]at hinv;by_cases hxt:x<t
 ·rw[if_pos hxt,List.append_nil]at hinv;subst hinv;by_cases h0:o=[]
  ·simp[bx,oV,oH,slvN,h0,hil,hx,hxt]
  ·simp[bx,oV,oH,slvN,h0,hil,hx,hxt]
 rw[if_neg hxt]at hinv;obtain⟨y,rfl⟩:∃y:Nat,x=t+(y:Int):=⟨(x-t).toNat,by omega⟩
 have hy2:(t+(y:Int)-t).toNat=y:=by omega
 have w3:IntKind.i64.wrap (y:Int)=y:=au (by omega) (by omega)
 have hty:¬((y:Int)<0):=by omega
 have hsub:t+(y:Int)-t=y:=by omega
 rw[hy2]at hinv;have hyn:y<null.length:=by omega
 have hyn2:y<n:=by omega
 rw[bV hyn]at hinv;have hnn:(bools null)[y]?=some (Bo null[y]):=by rw[aF,R4 hyn];rfl
 have hbn:(bools null).length=n:=by rw[aH,hn]
 have hna:nts o++[.val (.int .i64 y)]=nts (o++[y]):=by rw[Iq];rfl
 have hne:¬o++[y]=[]:=by simp
 have hol:(o++[y]).length=o.length+1:=by simp
 have hro':(o.length+1)*8<=aM:=hro;obtain⟨v,hv⟩:∃v,null[y]=v:=⟨_,rfl⟩;rw[hv]at hnn hinv;have hinv2:v=true->(o++[y])++bgL t null (r.drop (i+1))=B:=fun h=>by rw[<-hinv,h];simp
 have hinv3:v=false->o++[y]=B:=fun h=>by rw[<-hinv,h];simp
 clear hinv;by_cases h0:o=[]
 ·subst h0;simp only[List.nil_append]at hinv2 hinv3;have hn1:nts [y]=[AV.val (.int .i64 y)]:=rfl;cases v with
  | false=>
   have hinv3:=hinv3 rfl;subst hinv3;simp[-qk,bx,oV,hil,hx,hxt,hsub,w3];rw[qk];simp[oH,slvN,aN,hro1,hx,hxt,hty,hsub,w3,hyn2,hbn,hnn,hyn,hv,hn1]
  | true=>
   have hinv2:=hinv2 rfl;simp[-qk,bx,oV,hil,hx,hxt,hsub,w3];rw[qk];simp[oH,aN,hro1,hx,hxt,hty,hsub,w3,hyn2,hbn,hnn,hyn,hv,hn1,w1];rw[ao];refine⟨(i+1,[y]),⟨by simp only;omega,by simp only[List.length_nil]at ho;simp;omega,hinv2⟩,by simp only;omega,?_,?_⟩
   ·simp[bx,oV]
   ·simp[oH,hn1]
 ·cases v with
  | false=>
   have hinv3:=hinv3 rfl;subst hinv3;generalize hoy:o++[y]=oy at hna hol hne;simp[bx,oV,oH,slvN,h0,hil,hx,hxt,hty,hsub,w3,hyn2,hbn,hnn,hyn,hv,hro',aN,aR,dW,hlk,hna,hne,hol,cS,eh]
  | true=>
   have hinv2:=hinv2 rfl;simp[bx,oV,oH,h0,hil,hx,hxt,hty,hsub,w3,hyn2,hbn,hnn,hyn,hv,hro',aN,aR,dW,hlk,w1,hna,cS,eh];rw[ao];refine⟨(i+1,o++[y]),⟨by simp only;omega,by simp;omega,hinv2⟩,by simp only;omega,?_,?_⟩
   ·simp[bx,oV]
   ·simp[oH]

def LS (g:Gm)(H:Heap)(null:List Bool)(n:Nat)(o:List Bool):Heap:=H++(.cells g.cells:: .cells [.sl n (bools null)]:: .cells (lF (H.length+4) n n):: .cells [.hs (H.length+2) n 0 n 1]::rF n o)
section
variable {g:Gm}{H:Heap}{null:List Bool}{n:Nat}{o:List Bool}
theorem re:(LS g H null n o).length=H.length+4+n:=by
 unfold LS;rw[List.length_append];simp only[List.length_cons,mR];omega
theorem ON:(LS g H null n o)[H.length]?=some (.cells g.cells):=by unfold LS;rw[get_at0];rfl
theorem PT:(LS g H null n o)[H.length+1]?=some (.cells [.sl n (bools null)]):=by unfold LS;rw[Hm.get_at];rfl
theorem Mj:(LS g H null n o)[H.length+2]?=some (.cells (lF (H.length+4) n n)):=by unfold LS;rw[Hm.get_at];rfl
theorem Mk:(LS g H null n o)[H.length+3]?=some (.cells [.hs (H.length+2) n 0 n 1]):=by unfold LS;rw[Hm.get_at];rfl
theorem y8 {i:Nat}(hi:i<n):(LS g H null n o)[H.length+4+i]?=some (.cells (bools (rowL n o i))):=by
 unfold LS;rw[Nat.add_assoc,Hm.get_at,show 4+i=i+1+1+1+1 by omega]
 simp only[List.getElem?_cons_succ];exact mT hi
theorem Ml {i k:Nat}(ho:o.length=n*n)(hi:i<n)(hk:k<n)(v:Bool):(LS g H null n o).set (H.length+4+i) (.cells (bools ((rowL n o i).set k v)))=LS g H null n (o.set (i*n+k) v):=by
 unfold LS;rw[Nat.add_assoc,set_at,show 4+i=i+1+1+1+1 by omega]
 simp only[List.set_cons_succ];rw[wT ho hi hk]
end
def chg (o o0:List Bool):Bool:=decide (o≠o0)
theorem FX {x cur o0:List Bool}(h:x=cur\/bC x<bC cur)(hc:bC cur<=bC o0):bC x<=bC o0/\(x=cur->chg x o0=chg cur o0)/\(x≠cur->chg x o0=true):=by
 rcases h with h | h
 ·subst h;exact⟨hc,fun _=>rfl,fun h=>absurd rfl h⟩
 ·refine⟨by omega,fun e=>by rw[e],fun _=>?_⟩
  unfold chg;rw[decide_eq_true_eq];rintro rfl;omega
theorem Mm {n l s k:Nat}{o:List Bool}{u v:Bool}(h1:o.getD (s*n+k) false=u)(h2:o.getD (l*n+k) false=v):lfK n l s o k=if ((u||decide (k=s))&&!v)=true then o.set (l*n+k) true else o:=by
 unfold lfK;rw[h1,h2]
abbrev I0 (H:Heap)(n l s i k:Nat)(B:List Nat)(more:Bool):Env:=[(1,.hp (H.length+3) 1 0),(5,Bo more),(6,.hs (H.length+4+l) n 0 n 1),(8,I s),(20,.sl B.length (nts B)),(21,I B.length),(22,I i),(29,.hs (H.length+4+s) n 0 n 1),(30,I n),(31,I k)]
theorem OO {C:Orc}{Q:Ex->Kt}{env:Env}{lk L:Nat}{H:Heap}{g:Gm}{null:List Bool}{n l s i:Nat}{B:List Nat}{o o0:List Bool}(hn:n<=16)(hl:l<n)(hs:s<n)(ho:o.length=n*n)(hc:bC o<=bC o0)(hlk:lk<=H.length)
  (hE:ab [1,5,6,8,20,21,22,29,30,31] env=I0 H n l s i 0 B (chg o o0))
  (hQ:∀env',ab [1,5,6,20,21,22] env'=[(1,.hp (H.length+3) 1 0),(5,Bo (chg (lfS n l o s) o0)),(6,.hs (H.length+4+l) n 0 n 1),(20,.sl B.length (nts B)),(21,I B.length),(22,I i)]->bC (lfS n l o s)<=bC o0->Q (.exit 2) env' (LS g H null n (lfS n l o s))):
  WB ⟨C,lk,L,[4]⟩ (.loop [1,5,6,8,20,21,22,29,30,31] Ev) Q env (LS g H null n o):=by
 refine ax (σ:=Nat×List Bool) (fun s'=>I0 H n l s i s'.1 B (chg s'.2 o0)) (fun s'=>LS g H null n s'.2)
  (fun s'=>s'.1<=n/\s'.2=(List.range s'.1).foldl (lfK n l s) o/\s'.2.length=n*n/\bC s'.2<=bC o0) (fun s'=>n-s'.1) ?_ (0,o) ⟨Nat.zero_le _,rfl,ho,hc⟩ hE rfl
 rintro⟨k,q⟩ ⟨hk,hq,hql,hqc⟩;simp only at hk hq hql hqc;unfold Ev;have w1:IntKind.i64.wrap ((k:Int)+1)=(k:Int)+1:=au (by omega) (by omega)
 by_cases hkn:k<n;case neg=>
  obtain rfl:k=n:=by omega
  have e:lfS k l o s=q:=hq.symm;rw[e]at hQ;simp;refine hQ _ ?_ hqc;simp
 have hnx:(List.range (k+1)).foldl (lfK n l s) o=lfK n l s q k:=by rw[List.range_succ,List.foldl_append,<-hq];rfl
 have hgr:=nP n l s k q;obtain⟨c1,c2,c3⟩:=FX hgr hqc;simp only at c1 c2 c3;have fin:∀(E:Env) (H':Heap) (m:Bool),m=chg (lfK n l s q k) o0->E=I0 H n l s i (k+1) B m->H'=LS g H null n (lfK n l s q k)->
  ∃s':Nat×List Bool,(s'.1<=n/\s'.2=(List.range s'.1).foldl (lfK n l s) o/\s'.2.length=n*n/\bC s'.2<=bC o0)/\n-s'.1<n-k/\E=I0 H n l s i s'.1 B (chg s'.2 o0)/\H'=LS g H null n s'.2:=
  fun E H' m h1 h2 h3=>⟨(k+1,lfK n l s q k),⟨by simp only;omega,hnx.symm,by simp only;rw[uH];exact hql,c1⟩,by simp only;omega,by rw[h2,h1],h3⟩
 have g1:=y8 (g:=g) (H:=H) (null:=null) (o:=q) hs;have g2:=y8 (g:=g) (H:=H) (null:=null) (o:=q) hl;have r1:=eR hql hs;have r2:=eR hql hl;have s1:=gg (o:=q) (i:=s) hkn;have s2:=gg (o:=q) (i:=l) hkn;have i1:s*n+k<q.length:=by rw[hql];exact oC hs hkn
 have i2:l*n+k<q.length:=by rw[hql];exact oC hl hkn
 obtain⟨u,hu⟩:∃u,q[s*n+k]=u:=⟨_,rfl⟩;obtain⟨v,hv⟩:∃v,q[l*n+k]=v:=⟨_,rfl⟩;have hdo:=Mm (n:=n) (l:=l) (s:=s) (k:=k) (o:=q) (u:=u) (v:=v) (by rw[bV i1,hu]) (by rw[bV i2,hv])
 have hset:=Ml (g:=g) (H:=H) (null:=null) hql hl hkn true;rw[R4 i1,hu]at s1;rw[R4 i2,hv]at s2;have hne:v=false->q.set (l*n+k) true≠q:=fun h e=>by
  have:=congrArg (fun l':List Bool=>l'[l*n+k]?) e;simp only[List.getElem?_set_self i2,R4 i2,hv,h]at this;simp at this
 generalize hR1:rowL n q s=R1 at g1 r1 s1;generalize hR2:rowL n q l=R2 at g2 r2 s2 hset;have k1:k<R1.length:=by omega
 have k2:k<R2.length:=by omega
 rw[R4 k1,RZ]at s1;rw[R4 k2,RZ]at s2;have b1:(bools R1).length=n:=by rw[aH,r1]
 have b2:(bools R2).length=n:=by rw[aH,r2]
 have hrp:=bg (Bo true) (show k<(bools R2).length by omega)
 rw[cJ]at hrp;have hlk4:lk<=H.length+4+l:=by omega
 have hkn2:k+1<=n:=hkn;have hks:((k:Int)==s)=decide (k=s):=by
  by_cases h:k=s
  ·subst h;simp
  ·simp[h];omega
 cases hw:((u||decide (k=s))&&!v) with
 | false=>
  rw[hw]at hdo;have hdo:lfK n l s q k=q:=hdo;rw[hdo]at fin;have fin:=fun E H'=>fin E H' _ rfl;by_cases hk2:k=s
  ·have hv1:v=true:=by simpa[hk2] using hw
   subst hv1;subst hk2;cases u<;>(simp[hkn,g1,g2,k1,k2,s1,s2,b1,b2,aF,w1];rw[ao];refine fin _ _ ?_ rfl;simp)
  ·cases u with
   | false=>
    have hks3:((k:Int)==s)=false:=by rw[hks];simp[hk2]
    simp[hkn,g1,g2,k1,k2,s1,s2,b1,b2,aF,w1,hks3];rw[ao];refine fin _ _ ?_ rfl;simp
   | true=>
    have hv1:v=true:=by simpa using hw
    subst hv1;simp[hkn,g1,g2,k1,k2,s1,s2,b1,b2,aF,w1];rw[ao];refine fin _ _ ?_ rfl;simp
 | true=>
  rw[hw]at hdo;have hdo:lfK n l s q k=q.set (l*n+k) true:=hdo;have hv0:v=false:=by
   simp only[Bool.and_eq_true,Bool.not_eq_true']at hw;exact hw.2
  have hx:=c3 (by rw[hdo];exact hne hv0)
  rw[hx,hdo]at fin;have fin:=fun E H'=>fin E H' _ rfl;subst hv0;have hor:(u||decide (k=s))=true:=by simpa using hw
  cases u with
  | true=>
   simp[hkn,g1,g2,k1,k2,s1,s2,b1,b2,aF,w1,aR,hlk4,hrp,hset,hkn2];rw[ao];refine fin _ _ ?_ rfl;simp
  | false=>
   have hk2:k=s:=by simpa using hor
   subst hk2;simp[hkn,g1,g2,k1,k2,s1,s2,b1,b2,aF,w1,aR,hlk4,hrp,hset,hkn2];rw[ao];refine fin _ _ ?_ rfl;simp
abbrev OP (H:Heap)(n l i:Nat)(B:List Nat)(more:Bool):Env:=[(1,.hp (H.length+3) 1 0),(5,Bo more),(6,.hs (H.length+4+l) n 0 n 1),(20,.sl B.length (nts B)),(21,I B.length),(22,I i)]
theorem I3 (n l s:Nat)(o:List Bool):bC (lfS n l o s)<=bC o:=by
 rcases nQ n l s o with h | h
 ·simp only at h;rw[h];exact Nat.le_refl _
 ·simp only at h;omega
theorem OQ {C:Orc}{Q:Ex->Kt}{env:Env}{lk L:Nat}{H:Heap}{g:Gm}{null:List Bool}{n l:Nat}{B:List Nat}{o:List Bool}(hn:n<=16)(hl:l<n)(hB:∀s∈B,s<n)(hBl:B.length<=8)(ho:o.length=n*n)(hlk:lk<=H.length)
  (hE:ab [1,5,6,20,21,22] env=OP H n l 0 B false)
  (hQ:∀env',ab [5] env'=[(5,Bo (chg (B.foldl (lfS n l) o) o))]->Q (.exit 0) env' (LS g H null n (B.foldl (lfS n l) o))):
  WB ⟨C,lk,L,[4]⟩ (.loop [1,5,6,20,21,22] Ab) Q env (LS g H null n o):=by
 refine ax (σ:=Nat×List Bool) (fun s'=>OP H n l s'.1 B (chg s'.2 o)) (fun s'=>LS g H null n s'.2)
  (fun s'=>s'.1<=B.length/\s'.2=(B.take s'.1).foldl (lfS n l) o/\s'.2.length=n*n/\bC s'.2<=bC o) (fun s'=>B.length-s'.1) ?_ (0,o) ⟨Nat.zero_le _,rfl,ho,Nat.le_refl _⟩ (by rw[hE];simp[chg]) rfl
 rintro⟨i,q⟩ ⟨hi,hq,hql,hqc⟩;simp only at hi hq hql hqc;unfold Ab;have w1:IntKind.i64.wrap ((i:Int)+1)=(i:Int)+1:=au (by omega) (by omega)
 by_cases hil:i<B.length;case neg=>
  obtain rfl:i=B.length:=by omega
  rw[List.take_of_length_le (Nat.le_refl _)]at hq;rw[<-hq]at hQ;simp;refine hQ _ ?_;simp
 have hs:=hB B[i] (List.getElem_mem hil);have hnx:(B.take (i+1)).foldl (lfS n l) o=lfS n l q B[i]:=by
  rw[List.take_succ_eq_append_getElem hil,List.foldl_append,<-hq];rfl
 generalize hsv:B[i]=s at hs hnx;have g3:=Mk (g:=g) (H:=H) (null:=null) (n:=n) (o:=q);have g2:=Mj (g:=g) (H:=H) (null:=null) (n:=n) (o:=q);have hrl:=ed (H.length+4) n n;have hrg:=wU (b:=H.length+4) (n:=n) hs;have hqc2:=I3 n l s q;simp[hil,Ip,hsv,g3,g2,hs,hrl,dI];refine OO (i:=i) (B:=B) (o0:=o) hn hl hs hql hqc hlk (by simp) (fun env' hE' hc'=>?_)
 rw[aG,if_pos rfl,a6,ah,ae,hE'];simp[w1];rw[ao];refine⟨(i+1,lfS n l q s),⟨by simp only;omega,hnx.symm,by simp only;rw[Am];exact hql,hc'⟩,by simp only;omega,?_,rfl⟩
 simp
theorem FY {lk lim:Nat}{H:Heap}{g:Gm}{null:List Bool}{o:List Bool}(ok:GOk g)(hnull:null.length=g.n.toNat)(ho:o.length=g.n.toNat*g.n.toNat)(hlk:lk<=H.length)(p:Pr)(pok:POk g p):
  aj X A lk lim 77 [.agg p.cells,.hp (H.length+3) 1 0,.hp H.length 4 0,.hp (H.length+1) 1 0] (LS g H null g.n.toNat o)=some (Bo (decide (lfP g.n.toNat g.t null o p≠o)),LS g H null g.n.toNat (lfP g.n.toNat g.t null o p)):=by
 have kb:=fun (L:Nat)=>FW (lk:=lk) (lim:=L) (H:=LS g H null g.n.toNat o) g ok null hnull p.r pok.len pok.s (by rw[re];omega)
 refine ar [4] rfl A77 rfl rfl ?_;unfold NT;have g0:=ON (g:=g) (H:=H) (null:=null) (n:=g.n.toNat) (o:=o);have g1:=PT (g:=g) (H:=H) (null:=null) (n:=g.n.toNat) (o:=o);have g2:=Mj (g:=g) (H:=H) (null:=null) (n:=g.n.toNat) (o:=o);have g3:=Mk (g:=g) (H:=H) (null:=null) (n:=g.n.toNat) (o:=o);have hB:=lD (t:=g.t) (null:=null) (n:=g.n.toNat) (r:=p.r) (fun x hx=>by have:=pok.s x hx;have:=ok.n1;omega)
 have hBl:=uG (t:=g.t) (null:=null) p.r;have hpl:=pok.len;have n1:=ok.n1;have n2:=ok.n2;have p0:=pok.l0;have p1:=pok.l1;have hfold:lfP g.n.toNat g.t null o p=(bgL g.t null p.r).foldl (lfS g.n.toNat p.l.toNat) o:=rfl;rw[hfold];have hlen:=re (g:=g) (H:=H) (null:=null) (n:=g.n.toNat) (o:=o);generalize bgL g.t null p.r=B at kb hB hBl;generalize hn:g.n.toNat=n at *;have hgn:g.n=n:=by omega
 obtain⟨pl,pr⟩:=p;simp only at kb hBl p0 p1 hpl;obtain⟨pl,rfl⟩:=Int.eq_ofNat_of_zero_le p0;have hln:pl<n:=by omega
 have hrl:=ed (H.length+4) n n;have hrg:=wU (b:=H.length+4) (n:=n) hln;have hgc:g.cells.length=4:=rfl;simp only[Int.toNat_natCast];generalize aj X A=C at kb |-;have hch:∀q:List Bool,decide (q≠o)=chg q o:=fun q=>rfl;rw[hch];generalize hcl:g.cells=gc at g0 hgc;have kb2:∀L,C lk L 78 [.agg gc,.sl n (bools null),.sl pr.length (ints pr)] (LS g H null n o)=some (slvN B,LS g H null n o):=by rw[<-hcl];exact kb
 clear kb;have hgt:gc.take 4=gc:=List.take_of_length_le (by omega)
 by_cases hB0:B=[]
 ·have hsv:slvN B= .e0:=by unfold slvN;rw[if_pos hB0]
  rw[hsv]at kb2;subst hB0;have hc0:chg o o=false:=by simp[chg]
  simp only[List.foldl_nil,hc0];simp[Pr.cells,g3,g2,hln,hrl,dI,g0,g1,hgc,hgt,kb2];refine DU ?_;unfold Ab;simp
 ·have hsv:slvN B= .sl B.length (nts B):=by unfold slvN;rw[if_neg hB0]
  rw[hsv]at kb2;simp[Pr.cells,g3,g2,hln,hrl,dI,g0,g1,hgc,hgt,kb2];refine OQ (by omega) hln hB (by omega) ho hlk (by simp) (fun env' hE'=>?_)
  generalize chg (B.foldl (lfS n pl) o) o=c at hE' |-;rw[aG,if_pos rfl,ah,ai,ae,hE'];have hlen2:=re (g:=g) (H:=H) (null:=null) (n:=n) (o:=B.foldl (lfS n pl) o);simp[hlen];rw[<-hlen,hlen,<-hlen2];simp

def leftR (g:Gm):Int×Bool:=if chkE g=0 then dgL g.n.toNat (gI g.n.toNat g.t (derM g false) g.ps) g.n.toNat 0 else (0,false)
def sT (g:Gm):AV:=.tup [I (leftR g).1,Bo (leftR g).2]
def LR (g:Gm)(H:Heap)(null:List Bool)(n i:Nat):Heap:=H++(.cells g.cells:: .cells [.sl n (bools null)]:: .cells (gp (H.length+4) n i):: .cells [.hs (H.length+2) n 0 n 1]::List.replicate i (.cells (bools (List.replicate n false))))
section
variable {g:Gm}{H:Heap}{null:List Bool}{n i:Nat}
theorem Mn:(LR g H null n i).length=H.length+4+i:=by
 unfold LR;rw[List.length_append];simp only[List.length_cons,List.length_replicate];omega
theorem OT:(LR g H null n i)[H.length]?=some (.cells g.cells):=by unfold LR;rw[get_at0];rfl
theorem PU:(LR g H null n i)[H.length+2]?=some (.cells (gp (H.length+4) n i)):=by unfold LR;rw[Hm.get_at];rfl
theorem PW:(LR g H null n i)[H.length+3]?=some (.cells [.hs (H.length+2) n 0 n 1]):=by unfold LR;rw[Hm.get_at];rfl
theorem I4 (hi:i<n):(LR g H null n i++[HB.cells (bools (List.replicate n false))]).set (H.length+2) (.cells ((gp (H.length+4) n i).set i (.hs (H.length+4+i) n 0 n 1)))=LR g H null n (i+1):=by
 unfold LR;rw[List.append_assoc,set_at,wV hi,List.replicate_succ'];rfl
theorem OU:LR g H null n n=LS g H null n (List.replicate (n*n) false):=by
 unfold LR LS rF;rw[wX,sS n n (Nat.le_refl _)]
end
theorem Ap (n:Nat):repl n [.e0]=List.replicate n .e0:=by simp[repl]
theorem sU (b n:Nat):gp b n 0=List.replicate n .e0:=by simp[gp,lF]
theorem wY {lk lim:Nat}{H:Heap}(g:Gm)(hl:g.ps.length<=1000000)(hr:∀p∈g.ps,p.r.length<=1000000)(hlk:lk<=H.length):aj X A lk lim 50 [gV g] H=some (sT g,H):=by
 have kc:=fun (L:Nat) (H':Heap)=>ck (lk:=lk) (lim:=L) (H:=H') g hl hr;have kn:=fun (L:Nat) (H':Heap) (h:lk<=H'.length)=>sN (lk:=lk) (lim:=L) (H:=H') g hl hr h;refine ar [] rfl A50 rfl rfl ?_;unfold NR;unfold sT leftR;by_cases hc:chkE g=0;case neg=>
  rw[if_neg hc];obtain⟨t,n,k,ps⟩:=g;simp only[gV,Gm.cells]at kc;generalize aj X A=C at kc |-;simp[Gm.cells,kc,hc]
 have ok:=br hc;rw[if_pos hc];rw[hc]at kc;have lN:=fZ g false;unfold jG at kn;rw[if_pos hc]at kn;generalize derM g false=N at kn lN |-;have hok:y6 g.t g.n.toNat g.ps:=fun p hp=>by
  have pok:=ok.p p hp;have:=pok.l0;have:=pok.l1;have:=ok.n1;exact⟨by omega,fun x hx=>by have:=pok.s x hx;omega⟩
 have kg:=fun (L:Nat)=>nO (lk:=lk) (lim:=L) (f:=77) (cap:=[.hp (H.length+3) 1 0,.hp H.length 4 0,.hp (H.length+1) 1 0]) g.ps (lfP g.n.toNat g.t N) (LS g H N g.n.toNat) (fun o=>o.length=g.n.toNat*g.n.toNat) (H.length+4+g.n.toNat) hl rfl
  (fun p=>iq g.n.toNat g.t N p) (fun o p _ h=>by rw[An];exact h) (fun o=>re) (fun o p hp ho=>FY ok lN ho hlk p (ok.p p hp)) (List.replicate (g.n.toNat*g.n.toNat) false) (by simp)
 have hF:=sR (n:=g.n.toNat) (t:=g.t) (null:=N) (ps:=g.ps);have kg:∀L,aj X A lk L 76 [.sl g.ps.length (psC g.ps),.fn 77 [.hp (H.length+3) 1 0,.hp H.length 4 0,.hp (H.length+1) 1 0]] (LS g H N g.n.toNat (List.replicate (g.n.toNat*g.n.toNat) false))=some (.tup [],LS g H N g.n.toNat (gI g.n.toNat g.t N g.ps)):=kg;generalize gI g.n.toNat g.t N g.ps=F at hF kg |-;obtain⟨res,hres⟩:∃res,dgL g.n.toNat F g.n.toNat 0=res:=⟨_,rfl⟩;rw[hres];have n1:=ok.n1;have n2:=ok.n2;have r0:=fun i=>OT (g:=g) (H:=H) (null:=N) (n:=g.n.toNat) (i:=i);have r2:=fun i=>PU (g:=g) (H:=H) (null:=N) (n:=g.n.toNat) (i:=i);have r3:=fun i=>PW (g:=g) (H:=H) (null:=N) (n:=g.n.toNat) (i:=i);have q0:=ON (g:=g) (H:=H) (null:=N) (n:=g.n.toNat) (o:=F);have q2:=Mj (g:=g) (H:=H) (null:=N) (n:=g.n.toNat) (o:=F);have q3:=Mk (g:=g) (H:=H) (null:=N) (n:=g.n.toNat) (o:=F);have qr:=fun i hi=>y8 (g:=g) (H:=H) (null:=N) (n:=g.n.toNat) (o:=F) (i:=i) hi;have ql:=re (g:=g) (H:=H) (null:=N) (n:=g.n.toNat) (o:=F);have hLR:=fun i hi=>I4 (g:=g) (H:=H) (null:=N) (n:=g.n.toNat) (i:=i) hi;have hLl:=fun i=>Mn (g:=g) (H:=H) (null:=N) (n:=g.n.toNat) (i:=i);have hLS:=OU (g:=g) (H:=H) (null:=N) (n:=g.n.toNat);generalize hnn:g.n.toNat=n at *;have hgn:g.n=n:=by omega
 have hstart:H++[.cells g.cells,.cells [.sl n (bools N)],.cells (repl n [.e0]),.cells [.hs (H.length+2) n 0 n 1]]=LR g H N n 0:=by
  unfold LR;rw[Ap,sU];rfl
 have htk:∀o,(LS g H N n o).take H.length=H:=fun o=>by unfold LS;simp
 obtain⟨t,n',k,ps⟩:=g;simp only at hgn;subst hgn;simp only at n1 n2 hl hr kg;simp only[gV,Gm.cells]at kc kn hstart r0 q0;have hro:(n:Int)<=(aM:Int):=by unfold aM;omega
 have hro2:(n:Int)*24<=(aM:Int):=by unfold aM;omega
 generalize aj X A=C at kc kn kg |-;have kn1:∀L,C lk L 34 [.agg [I t,I n,I k,.sl ps.length (psC ps)]] (H++[.cells [I t,I n,I k,.sl ps.length (psC ps)]])=some (.sl n (bools N),H++[.cells [I t,I n,I k,.sl ps.length (psC ps)]]):=fun L=>kn L _ (by simp;omega)
 have k1:lk<=H.length+1:=by omega
 have k2:lk<=H.length+2:=by omega
 have k3:lk<=H.length+3:=by omega
 simp[Gm.cells,kc,kn1,aR,k1,k2,k3,set_at,Hm.get_at,get_at0,hro2];generalize hg:(⟨t,n,k,ps⟩:Gm)=g at *;refine ax (σ:=Nat) (fun i=>[(1,.hp H.length 4 0),(4,.hp (H.length+1) 1 0),(5,.hp (H.length+3) 1 0),(17,I n),(18,I i)]) (fun i=>LR g H N n i)
  (fun i=>i<=n) (fun i=>n-i) ?_ 0 (by simp) (by simp) hstart
 intro i hi;unfold JZ;have w1:IntKind.i64.wrap ((i:Int)+1)=(i:Int)+1:=au (by omega) (by omega)
 have hcl:=wW (b:=H.length+4) hi;have r0:=r0 i;have r2:=r2 i;have r3:=r3 i;have hLl:=hLl i;have hbt:H.length<(LR g H N n i).length:=by omega
 have hbt2:H.length+2<(LR g H N n i).length:=by omega
 by_cases hil:i<n
 ·have hLR:=hLR i hil;have hli:i<(gp (H.length+4) n i).length:=by omega
  have hrp:=fun v=>bg (cs:=gp (H.length+4) n i) (k:=i) v hli;have hi1:i+1<=n:=hil;have a2:(LR g H N n i++[HB.hole])[H.length+2]?=some (.cells (gp (H.length+4) n i)):=by rw[List.getElem?_append_left hbt2];exact r2
  have s1:(LR g H N n i++[HB.hole]).set (LR g H N n i).length (.cells (bools (List.replicate n false)))=LR g H N n i++[.cells (bools (List.replicate n false))]:=by simp
  have a3:(LR g H N n i++[HB.cells (bools (List.replicate n false))])[H.length+2]?=some (.cells (gp (H.length+4) n i)):=by rw[List.getElem?_append_left hbt2];exact r2
  have a4:(LR g H N n i++[HB.hole])[(LR g H N n i).length]?=some .hole:=by simp
  have htl:(LR g H N n i++[HB.hole]).take (LR g H N n i).length=LR g H N n i:=by simp
  have htl2:(LR g H N n i++[HB.cells (bools (List.replicate n false))]).take (LR g H N n i).length=LR g H N n i:=by simp
  simp[hil];refine Iv rfl (by decide) (bm rfl (bm rfl (bm rfl (bm rfl (bm rfl (bm rfl (ma _))))))) ?_
  rw[hLl]at s1 a4 htl htl2;simp[cls,k5,eo,hLl,r3,r0,hil,hi1,hcl,fB,hro,s1,a3,a4,htl,htl2,aR,k2,hrp,hLR];rw[ao];refine⟨i+1,by omega,by omega,?_,rfl⟩
  simp[w1]
 obtain rfl:i=n:=by omega
 have g0:=OT (g:=g) (H:=H) (null:=N) (n:=i) (i:=i);rw[hLS]at g0 r3 r0;rw[hLS];simp[r0,kg,q0];refine ax (σ:=Nat) (fun j=>[(5,.hp (H.length+3) 1 0),(33,I i),(34,I j)]) (fun _=>LS g H N i F)
  (fun j=>j<=i/\dgL i F (i-j) j=res) (fun j=>i-j) ?_ 0 ⟨Nat.zero_le _,hres⟩ (by simp) (by simp)
 rintro j ⟨hj,hinv⟩;unfold J0;have w2:IntKind.i64.wrap ((j:Int)+1)=(j:Int)+1:=au (by omega) (by omega)
 by_cases hjl:j<i;case neg=>
  obtain rfl:j=i:=by omega
  rw[Nat.sub_self]at hinv;subst hinv;simp[dgL,htk]
 have hrl:=ed (H.length+4) i i;have qr:=qr j hjl;have r1:=eR hF hjl;have s1:=gg (o:=F) (i:=j) hjl;have i1:j*i+j<F.length:=by rw[hF];exact oC hjl hjl
 obtain⟨u,hu⟩:∃u,F[j*i+j]=u:=⟨_,rfl⟩;rw[R4 i1,hu]at s1;rw[show i-j=(i-(j+1))+1 by omega,dgL,bV i1,hu]at hinv
 generalize hR1:rowL i F j=R1 at qr r1 s1;have k1:j<R1.length:=by omega
 rw[R4 k1,RZ]at s1;have b1:(bools R1).length=i:=by rw[aH,r1]
 cases u with
 | true=>
  rw[if_pos rfl]at hinv;subst hinv;simp[hjl,q3,q2,hrl,dI,qr,k1,s1,b1,aF,htk]
 | false=>
  rw[if_neg (by simp)]at hinv
  simp[hjl,q3,q2,hrl,dI,qr,k1,s1,b1,aF,w2];rw[ao];refine⟨j+1,⟨by omega,hinv⟩,by omega,?_,rfl⟩
  simp

def LQ (H:Heap)(n:Nat)(o:List Bool):Heap:=H++(.cells (lF (H.length+1) n n)::rF n o)
def LP (H:Heap)(n i:Nat):Heap:=H++(.cells (gp (H.length+1) n i)::List.replicate i (.cells (bools (List.replicate n false))))
section
variable {H:Heap}{n i:Nat}{o:List Bool}
theorem Mo:(LQ H n o)[H.length]?=some (.cells (lF (H.length+1) n n)):=by unfold LQ;rw[get_at0];rfl
theorem uN (hi:i<n):(LQ H n o)[H.length+1+i]?=some (.cells (bools (rowL n o i))):=by
 unfold LQ;rw[Nat.add_assoc,Hm.get_at,show 1+i=i+1 by omega,List.getElem?_cons_succ]
 exact mT hi
theorem FZ {k:Nat}(ho:o.length=n*n)(hi:i<n)(hk:k<n)(v:Bool):(LQ H n o).set (H.length+1+i) (.cells (bools ((rowL n o i).set k v)))=LQ H n (o.set (i*n+k) v):=by
 unfold LQ;rw[Nat.add_assoc,set_at,show 1+i=i+1 by omega,List.set_cons_succ,wT ho hi hk]
theorem I5:(LQ H n o).take H.length=H:=by unfold LQ;simp
theorem Mp:(LP H n i).length=H.length+1+i:=by
 unfold LP;rw[List.length_append];simp only[List.length_cons,List.length_replicate];omega
theorem PX:(LP H n i)[H.length]?=some (.cells (gp (H.length+1) n i)):=by unfold LP;rw[get_at0];rfl
theorem I6 (hi:i<n):(LP H n i++[HB.cells (bools (List.replicate n false))]).set H.length (.cells ((gp (H.length+1) n i).set i (.hs (H.length+1+i) n 0 n 1)))=LP H n (i+1):=by
 unfold LP;rw[List.append_assoc,It,wV hi,List.replicate_succ'];rfl
theorem OV:LP H n n=LQ H n (List.replicate (n*n) false):=by
 unfold LP LQ rF;rw[wX,sS n n (Nat.le_refl _)]
end
structure Cel (n:Nat)(o:List Bool)(i k:Nat)(R:List Bool)(u:Bool):Prop where
 row:rowL n o i=R
 len:R.length=n
 lt:k<R.length
 get:R[k]=u
theorem cel {n:Nat}{o:List Bool}{i k:Nat}(ho:o.length=n*n)(hi:i<n)(hk:k<n):∃R,Cel n o i k R (o.getD (i*n+k) false):=by
 have i1:i*n+k<o.length:=by rw[ho];exact oC hi hk
 have r1:=eR ho hi;have k1:k<(rowL n o i).length:=by omega
 refine⟨rowL n o i,rfl,r1,k1,?_⟩;have s1:=gg (o:=o) (i:=i) hk;rw[R4 i1,R4 k1,RZ]at s1;rw[s1,bV i1]
theorem OW {C:Orc}{Q:Ex->Kt}{env:Env}{lk L:Nat}{H:Heap}{t k':Int}{ps:List Pr}{null:List Bool}{n l j:Nat}{pr:List Int}{o:List Bool}(t1:1<=t)(t2:t<=8)(hn:n<=16)(hl:l<n)(hnull:null.length=n)(hpr:pr.length<=8)(hs:∀x∈pr,0<=x/\x<t+n)(ho:o.length=n*n)(hlk:lk<=H.length)
  (hE:ab [1,4,5,7,8,9] env=[(1,.box [I t,I n,I k',.sl ps.length (psC ps)]),(4,.sl n (bools null)),(5,.hs H.length n 0 n 1),(7,I j),(8,.box [I l,.sl pr.length (ints pr)]),(9,I 0)])
  (hQ:∀env',ab [1,4,5,7] env'=[(1,.box [I t,I n,I k',.sl ps.length (psC ps)]),(4,.sl n (bools null)),(5,.hs H.length n 0 n 1),(7,I j)]->Q (.exit 4) env' (LQ H n ((bgL t null pr).foldl (edS n l) o))):
  WB ⟨C,lk,L,[1,8]⟩ (.loop [1,4,5,7,8,9] EN) Q env (LQ H n o):=by
 let bx:AV:=.box [I t,I n,I k',.sl ps.length (psC ps)]
 let bp:AV:=.box [I l,.sl pr.length (ints pr)]
 obtain⟨res,hres⟩:∃res,(bgL t null pr).foldl (edS n l) o=res:=⟨_,rfl⟩;rw[hres]at hQ;refine ax (σ:=Nat×List Bool) (fun s=>[(1,bx),(4,.sl n (bools null)),(5,.hs H.length n 0 n 1),(7,I j),(8,bp),(9,I s.1)]) (fun s=>LQ H n s.2)
  (fun s=>s.1<=pr.length/\s.2.length=n*n/\(bgL t null (pr.drop s.1)).foldl (edS n l) s.2=res) (fun s=>pr.length-s.1) ?_ (0,o) ⟨Nat.zero_le _,ho,hres⟩ hE rfl
 rintro⟨k,q⟩ ⟨hk,hql,hinv⟩;simp only at hk hql hinv;unfold EN;have w1:IntKind.i64.wrap ((k:Int)+1)=(k:Int)+1:=au (by omega) (by omega)
 by_cases hkl:k<pr.length;case neg=>
  obtain rfl:k=pr.length:=by omega
  rw[List.drop_length]at hinv;have hinv:q=res:=hinv;subst hinv;simp[bx,bp];refine hQ _ ?_;simp
 obtain⟨x1,x2⟩:=hs pr[k] (List.getElem_mem hkl);rw[List.drop_eq_getElem_cons hkl,bgL]at hinv;generalize hx:pr[k]=x at x1 x2 hinv;by_cases hxt:x<t
 ·rw[if_pos hxt]at hinv;have hinv:q=res:=hinv;subst hinv;have y0:¬t<=x:=by omega
  simp[bx,bp,hkl,hx,y0];refine hQ _ ?_;simp
 rw[if_neg hxt]at hinv;obtain⟨y,rfl⟩:∃y:Nat,x=t+(y:Int):=⟨(x-t).toNat,by omega⟩
 have hy2:(t+(y:Int)-t).toNat=y:=by omega
 have w3:IntKind.i64.wrap (y:Int)=y:=au (by omega) (by omega)
 have hsub:t+(y:Int)-t=y:=by omega
 have hty:t<=t+(y:Int):=by omega
 rw[hy2]at hinv;have hyn:y<null.length:=by omega
 have hyn2:y<n:=by omega
 rw[bV hyn,List.foldl_cons]at hinv;have g0:=Mo (H:=H) (n:=n) (o:=q);have gl:=uN (H:=H) (o:=q) hl;obtain⟨R,hR⟩:=cel hql hl hyn2;have hset:=FZ (H:=H) hql hl hyn2 true;rw[hR.row]at gl hset;have b1:(bools R).length=n:=by rw[aH,hR.len]
 have hrp:=bg (Bo true) (show y<(bools R).length by rw[aH];exact hR.lt)
 rw[cJ]at hrp;have hrl:=ed (H.length+1) n n;have hlk1:lk<=H.length+1+l:=by omega
 have hyn3:y+1<=n:=hyn2;have hed:edS n l q y=q.set (l*n+y) true:=rfl;rw[hed]at hinv;obtain⟨v,hv⟩:∃v,null[y]=v:=⟨_,rfl⟩;rw[hv]at hinv;have hbn:(bools null).length=n:=by rw[aH,hnull]
 have hql2:(q.set (l*n+y) true).length=n*n:=by rw[List.length_set];exact hql
 generalize q.set (l*n+y) true=q2 at hset hinv hql2;cases v with
 | false=>
  rw[if_neg (by simp)]at hinv
  have hinv:q2=res:=hinv;subst hinv;simp[bx,bp,hkl,hx,hty,hsub,w3,g0,hl,hrl,dI,gl,b1,hyn2,hyn3,aR,hlk1,hrp,hset,hbn,aF,hyn,hv];refine hQ _ ?_;simp
 | true=>
  rw[if_pos rfl]at hinv;simp[bx,bp,hkl,hx,hty,hsub,w3,g0,hl,hrl,dI,gl,b1,hyn2,hyn3,aR,hlk1,hrp,hset,hbn,aF,hyn,hv,w1];rw[ao];refine⟨(k+1,q2),⟨by simp only;omega,hql2,hinv⟩,by simp only;omega,?_,rfl⟩
  simp[bx,bp]

theorem OX {C:Orc}{Q:Ex->Kt}{env:Env}{lk L:Nat}{H:Heap}{t k':Int}{ps:List Pr}{null:List Bool}{n:Nat}(t1:1<=t)(t2:t<=8)(hn:n<=16)(hps:ps.length<=64)(hnull:null.length=n)(hok:∀p∈ps,0<=p.l/\p.l<n/\p.r.length<=8/\∀x∈p.r,0<=x/\x<t+n)(hlk:lk<=H.length)
  (hE:ab [1,4,5,7] env=[(1,.box [I t,I n,I k',.sl ps.length (psC ps)]),(4,.sl n (bools null)),(5,.hs H.length n 0 n 1),(7,I 0)])
  (hQ:∀env',ab [1,5] env'=[(1,.box [I t,I n,I k',.sl ps.length (psC ps)]),(5,.hs H.length n 0 n 1)]->Q (.exit 2) env' (LQ H n (edM n t null ps))):
  WB ⟨C,lk,L,[1,8]⟩ (.loop [1,4,5,7] EO) Q env (LQ H n (List.replicate (n*n) false)):=by
 let bx:AV:=.box [I t,I n,I k',.sl ps.length (psC ps)]
 refine ax (σ:=Nat) (fun j=>[(1,bx),(4,.sl n (bools null)),(5,.hs H.length n 0 n 1),(7,I j)]) (fun j=>LQ H n ((ps.take j).foldl (edP n t null) (List.replicate (n*n) false)))
  (fun j=>j<=ps.length) (fun j=>ps.length-j) ?_ 0 (by simp) hE rfl
 intro j hj;unfold EO;have w1:IntKind.i64.wrap ((j:Int)+1)=(j:Int)+1:=au (by omega) (by omega)
 by_cases hjl:j<ps.length;case neg=>
  obtain rfl:j=ps.length:=by omega
  rw[List.take_of_length_le (Nat.le_refl _)];have e:edM n t null ps=ps.foldl (edP n t null) (List.replicate (n*n) false):=rfl;rw[<-e];simp[bx];refine hQ _ ?_;simp
 have hnx:(ps.take (j+1)).foldl (edP n t null) (List.replicate (n*n) false)=edP n t null ((ps.take j).foldl (edP n t null) (List.replicate (n*n) false)) ps[j]:=by
  rw[List.take_succ_eq_append_getElem hjl,List.foldl_append];rfl
 have hql:((ps.take j).foldl (edP n t null) (List.replicate (n*n) false)).length=n*n:=by rw[fC (fun o p=>uL n t null o p)];simp
 obtain⟨p0,p1,p2,p3⟩:=hok ps[j] (List.getElem_mem hjl);have hs:=cd hjl;have hll:=aY ps;have h2:j*2+2<=2*ps.length:=by omega
 have done:∀(E:Env) (H':Heap),E=[(1,bx),(4,.sl n (bools null)),(5,.hs H.length n 0 n 1),(7,I ((j:Int)+1))]->H'=LQ H n ((ps.take (j+1)).foldl (edP n t null) (List.replicate (n*n) false))->
  ∃j':Nat,j'<=ps.length/\ps.length-j'<ps.length-j/\E=[(1,bx),(4,.sl n (bools null)),(5,.hs H.length n 0 n 1),(7,I j')]/\H'=LQ H n ((ps.take j').foldl (edP n t null) (List.replicate (n*n) false)):=fun E H' h1 h2=>⟨j+1,by omega,by omega,by rw[h1];simp,h2⟩
 rw[hnx]at done;generalize (ps.take j).foldl (edP n t null) (List.replicate (n*n) false)=q at hql done |-;generalize ps[j]=p at p0 p1 p2 p3 hs done;obtain⟨pl,pr⟩:=p;simp only at p0 p1 p2 p3;simp only[Pr.cells]at hs;obtain⟨pl,rfl⟩:=Int.eq_ofNat_of_zero_le p0;have hpl:pl<n:=by omega
 have he:edP n t null q ⟨pl,pr⟩=(bgL t null pr).foldl (edS n pl) q:=rfl;rw[he]at done;simp[-bd,bx,hjl,hs,hll,h2];rw[bd];simp[an];refine OW (k':=k') (ps:=ps) (null:=null) (j:=j) t1 t2 hn hpl hnull p2 p3 hql hlk (by simp) (fun env' hE'=>?_)
 rw[aG,if_pos rfl,a6,ah,ae,hE'];simp[w1];rw[ao];refine done _ _ ?_ rfl;simp[bx]

abbrev wE (t k':Int)(ps:List Pr)(H:Heap)(n:Nat):Env:=[(1,.box [I t,I n,I k',.sl ps.length (psC ps)]),(5,.hs H.length n 0 n 1)]
theorem OY {C:Orc}{Q:Ex->Kt}{env:Env}{lk L:Nat}{H:Heap}{t k':Int}{ps:List Pr}{n m i:Nat}{o:List Bool}(hn:n<=16)(hm:m<n)(hi:i<n)(ho:o.length=n*n)(hlk:lk<=H.length)
  (hE:ab [1,5,11,12,13] env=wE t k' ps H n++[(11,I m),(12,I i),(13,I 0)])
  (hQ:∀env',ab [1,5,11,12] env'=wE t k' ps H n++[(11,I m),(12,I i)]->Q (.exit 10) env' (LQ H n (waR n m o i))):
  WB ⟨C,lk,L,[1,8]⟩ (.loop [1,5,11,12,13] sA) Q env (LQ H n o):=by
 refine ax (σ:=Nat×List Bool) (fun s=>wE t k' ps H n++[(11,I m),(12,I i),(13,I s.1)]) (fun s=>LQ H n s.2)
  (fun s=>s.1<=n/\s.2=(List.range s.1).foldl (waC n m i) o/\s.2.length=n*n) (fun s=>n-s.1) ?_ (0,o) ⟨Nat.zero_le _,rfl,ho⟩ hE rfl
 rintro⟨k,q⟩ ⟨hk,hq,hql⟩;simp only at hk hq hql;unfold sA;have w1:IntKind.i64.wrap ((k:Int)+1)=(k:Int)+1:=au (by omega) (by omega)
 by_cases hkn:k<n;case neg=>
  obtain rfl:k=n:=by omega
  have e:waR k m o i=q:=hq.symm;rw[e]at hQ;simp;refine hQ _ ?_;simp
 have hnx:(List.range (k+1)).foldl (waC n m i) o=waC n m i q k:=by rw[List.range_succ,List.foldl_append,<-hq];rfl
 have g0:=Mo (H:=H) (n:=n) (o:=q);have gi:=uN (H:=H) (o:=q) hi;have gm:=uN (H:=H) (o:=q) hm;obtain⟨R,h1⟩:=cel hql hi hkn;obtain⟨R',h2⟩:=cel hql hi hm;obtain⟨S,h3⟩:=cel hql hm hkn;have hRR:R'=R:=h2.row.symm.trans h1.row;subst hRR;obtain⟨rw1,len1,k1,v1⟩:=h1;obtain⟨rw2,len2,k2,v2⟩:=h2;obtain⟨rw3,len3,k3,v3⟩:=h3;have hset:=fun v=>FZ (H:=H) hql hi hkn v;rw[rw1]at gi hset;rw[rw3]at gm;have b1:(bools R').length=n:=by rw[aH,len1]
 have b2:(bools S).length=n:=by rw[aH,len3]
 have hrp:=fun v=>bg (Bo v) (show k<(bools R').length by rw[aH];exact k1)
 simp only[cJ]at hrp;have hrl:=ed (H.length+1) n n;have hlk1:lk<=H.length+1+i:=by omega
 have hkn3:k+1<=n:=hkn;have hw:waC n m i q k=q.set (i*n+k) (q.getD (i*n+k) false||(q.getD (i*n+m) false&&q.getD (m*n+k) false)):=rfl;have fin:∀(E:Env) (H':Heap),E=wE t k' ps H n++[(11,I m),(12,I i),(13,I ((k:Int)+1))]->H'=LQ H n (waC n m i q k)->∃s:Nat×List Bool,(s.1<=n/\s.2=(List.range s.1).foldl (waC n m i) o/\s.2.length=n*n)/\n-s.1<n-k/\E=wE t k' ps H n++[(11,I m),(12,I i),(13,I s.1)]/\H'=LQ H n s.2:=
  fun E H' e1 e2=>⟨(k+1,waC n m i q k),⟨by simp only;omega,hnx.symm,by simp only;rw[uI];exact hql⟩,by simp only;omega,by rw[e1];simp,e2⟩
 rw[hw]at fin;generalize q.getD (i*n+k) false=u at v1 fin;generalize q.getD (i*n+m) false=v at v2 fin;generalize q.getD (m*n+k) false=w at v3 fin;have go:∀z,(u||(v&&w))=z->WB ⟨C,lk,L,[1,8]⟩ sA (Rnd [1,5,11,12,13] (fun s:Nat×List Bool=>wE t k' ps H n++[(11,I m),(12,I i),(13,I s.1)]) (fun s=>LQ H n s.2) (fun s=>s.1<=n/\s.2=(List.range s.1).foldl (waC n m i) o/\s.2.length=n*n) (fun s=>n-s.1) (k,q) Q) (wE t k' ps H n++[(11,I m),(12,I i),(13,I k)]) (LQ H n q):=by
  intro z hz;rw[hz]at fin;have hset:=hset z;have hrp:=hrp z;unfold sA;cases u with
  | true=>
   have hz:true=z:=hz;subst hz;simp[hkn,hi,hm,g0,hrl,dI,gi,gm,b1,b2,aF,k1,k2,k3,v1,v2,v3,aR,hlk1,hrp,hset,hkn3,w1];rw[ao];refine fin _ _ ?_ rfl;simp
  | false=>
   cases v with
   | false=>
    have hz:false=z:=hz;subst hz;simp[hkn,hi,hm,g0,hrl,dI,gi,gm,b1,b2,aF,k1,k2,k3,v1,v2,v3,aR,hlk1,hrp,hset,hkn3,w1];rw[ao];refine fin _ _ ?_ rfl;simp
   | true=>
    have hz:w=z:=by simpa using hz
    subst hz;simp[hkn,hi,hm,g0,hrl,dI,gi,gm,b1,b2,aF,k1,k2,k3,v1,v2,v3,aR,hlk1,hrp,hset,hkn3,w1];rw[ao];refine fin _ _ ?_ rfl;simp
 have:=go _ rfl;unfold sA at this;exact this

theorem OZ {C:Orc}{Q:Ex->Kt}{env:Env}{lk L:Nat}{H:Heap}{t k':Int}{ps:List Pr}{n m:Nat}{o:List Bool}(hn:n<=16)(hm:m<n)(ho:o.length=n*n)(hlk:lk<=H.length)
  (hE:ab [1,5,11,12] env=wE t k' ps H n++[(11,I m),(12,I 0)])
  (hQ:∀env',ab [1,5,11] env'=wE t k' ps H n++[(11,I m)]->Q (.exit 8) env' (LQ H n (waM n o m))):
  WB ⟨C,lk,L,[1,8]⟩ (.loop [1,5,11,12] EP) Q env (LQ H n o):=by
 refine ax (σ:=Nat×List Bool) (fun s=>wE t k' ps H n++[(11,I m),(12,I s.1)]) (fun s=>LQ H n s.2)
  (fun s=>s.1<=n/\s.2=(List.range s.1).foldl (waR n m) o/\s.2.length=n*n) (fun s=>n-s.1) ?_ (0,o) ⟨Nat.zero_le _,rfl,ho⟩ hE rfl
 rintro⟨i,q⟩ ⟨hi,hq,hql⟩;simp only at hi hq hql;unfold EP;have w1:IntKind.i64.wrap ((i:Int)+1)=(i:Int)+1:=au (by omega) (by omega)
 by_cases hin:i<n;case neg=>
  obtain rfl:i=n:=by omega
  have e:waM i o m=q:=hq.symm;rw[e]at hQ;simp;refine hQ _ ?_;simp
 have hnx:(List.range (i+1)).foldl (waR n m) o=waR n m q i:=by rw[List.range_succ,List.foldl_append,<-hq];rfl
 simp[hin];refine OY (t:=t) (k':=k') (ps:=ps) hn hm hin hql hlk (by simp) (fun env' hE'=>?_)
 rw[aG,if_pos rfl,a6,ah,ae,hE'];simp[w1];rw[ao];refine⟨(i+1,waR n m q i),⟨by simp only;omega,hnx.symm,by simp only;rw[uJ];exact hql⟩,by simp only;omega,?_,rfl⟩
 simp
theorem O0 {C:Orc}{Q:Ex->Kt}{env:Env}{lk L:Nat}{H:Heap}{t k':Int}{ps:List Pr}{n:Nat}{o:List Bool}(hn:n<=16)(ho:o.length=n*n)(hlk:lk<=H.length)
  (hE:ab [1,5,11] env=wE t k' ps H n++[(11,I 0)])
  (hQ:∀env',ab [1,5] env'=wE t k' ps H n->Q (.exit 6) env' (LQ H n ((List.range n).foldl (waM n) o))):
  WB ⟨C,lk,L,[1,8]⟩ (.loop [1,5,11] ER) Q env (LQ H n o):=by
 refine ax (σ:=Nat×List Bool) (fun s=>wE t k' ps H n++[(11,I s.1)]) (fun s=>LQ H n s.2)
  (fun s=>s.1<=n/\s.2=(List.range s.1).foldl (waM n) o/\s.2.length=n*n) (fun s=>n-s.1) ?_ (0,o) ⟨Nat.zero_le _,rfl,ho⟩ hE rfl
 rintro⟨m,q⟩ ⟨hm,hq,hql⟩;simp only at hm hq hql;unfold ER;have w1:IntKind.i64.wrap ((m:Int)+1)=(m:Int)+1:=au (by omega) (by omega)
 by_cases hmn:m<n;case neg=>
  obtain rfl:m=n:=by omega
  rw[<-hq]at hQ;simp;refine hQ _ ?_;simp
 have hnx:(List.range (m+1)).foldl (waM n) o=waM n q m:=by rw[List.range_succ,List.foldl_append,<-hq];rfl
 simp[hmn];refine OZ (t:=t) (k':=k') (ps:=ps) hn hmn hql hlk (by simp) (fun env' hE'=>?_)
 rw[aG,if_pos rfl,a6,ah,ae,hE'];simp[w1];rw[ao];refine⟨(m+1,waM n q m),⟨by simp only;omega,hnx.symm,by simp only;rw[uK];exact hql⟩,by simp only;omega,?_,rfl⟩
 simp
def y9 (g:Gm):Int×Bool:=if chkE g=0 then dgL g.n.toNat (y7 g.n.toNat g.t (derM g false) g.ps) g.n.toNat 0 else (0,false)
theorem uO {g:Gm}(ok:GOk g):y6 g.t g.n.toNat g.ps:=fun p hp=>by
 have pok:=ok.p p hp;have:=pok.l0;have:=pok.l1;have:=ok.n1;exact⟨by omega,fun x hx=>by have:=pok.s x hx;omega⟩
theorem F3 (g:Gm):y9 g=leftR g:=by
 unfold y9 leftR;by_cases hc:chkE g=0
 ·have ok:=uO (br hc);rw[if_pos hc,if_pos hc];refine FU _ _ (by omega) fun i hi=>?_
  rw[FT ok i i hi hi,Cg ok i i hi]
 ·rw[if_neg hc,if_neg hc]
theorem O1 {C:Orc}{Q:Ex->Kt}{env:Env}{lk L:Nat}{H:Heap}{t k':Int}{ps:List Pr}{null:List Bool}{n:Nat}(hn:n<=16)(hlk:lk<=H.length)(hL:L<=H.length)
  (hE:ab [1,4,5,6] env=[(1,.box [I t,I n,I k',.sl ps.length (psC ps)]),(4,.sl n (bools null)),(5,.hs H.length n 0 n 1),(6,I 0)])
  (hQ:∀env',ab [1,4,5] env'=[(1,.box [I t,I n,I k',.sl ps.length (psC ps)]),(4,.sl n (bools null)),(5,.hs H.length n 0 n 1)]->Q (.exit 0) env' (LQ H n (List.replicate (n*n) false))):
  WB ⟨C,lk,L,[1,8]⟩ (.loop [1,4,5,6] EM) Q env (LP H n 0):=by
 let bx:AV:=.box [I t,I n,I k',.sl ps.length (psC ps)]
 refine ax (σ:=Nat) (fun i=>[(1,bx),(4,.sl n (bools null)),(5,.hs H.length n 0 n 1),(6,I i)]) (fun i=>LP H n i)
  (fun i=>i<=n) (fun i=>n-i) ?_ 0 (by simp) hE rfl
 intro i hi;unfold EM;have w1:IntKind.i64.wrap ((i:Int)+1)=(i:Int)+1:=au (by omega) (by omega)
 by_cases hin:i<n;case neg=>
  obtain rfl:i=n:=by omega
  rw[OV];simp[bx];refine hQ _ ?_;simp
 have hro:(n:Int)<=(aM:Int):=by unfold aM;omega
 have hcl:=wW (b:=H.length+1) hi;have hli:i<(gp (H.length+1) n i).length:=by omega
 have hrp:=fun v=>bg (cs:=gp (H.length+1) n i) (k:=i) v hli;have hLl:=Mp (H:=H) (n:=n) (i:=i);have a3:(LP H n i++[HB.cells (bools (List.replicate n false))])[H.length]?=some (.cells (gp (H.length+1) n i)):=by rw[List.getElem?_append_left (by omega)];exact PX
 have hnx:=I6 (H:=H) hin;have hi1:i+1<=n:=hin;simp[bx,hin,hro,fB,hLl,a3,hcl,aR,hlk,hL,hrp,hnx,hi1,w1];rw[ao];refine⟨i+1,by omega,by omega,?_,rfl⟩
 simp[bx]
theorem wZ {lk lim:Nat}{H:Heap}(g:Gm)(hl:g.ps.length<=1000000)(hr:∀p∈g.ps,p.r.length<=1000000)(hlk:lk<=H.length):aj X A lk lim 41 [gV g] H=some (sT g,H):=by
 have kc:=fun (L:Nat) (H':Heap)=>bN (lk:=lk) (lim:=L) (H:=H') g hl hr;have kn:=fun (L:Nat)=>qV (lk:=lk) (lim:=L) (H:=H) g hl hr hlk;refine ar [1,8] rfl A41 rfl rfl ?_;unfold On;unfold sT;rw[<-F3];unfold y9;by_cases hc:chkE g=0;case neg=>
  rw[if_neg hc];obtain⟨t,n,k,ps⟩:=g;simp only[gV,Gm.cells]at kc;generalize aj X A=C at kc |-;simp[Gm.cells,kc,hc]
 have ok:=br hc;rw[if_pos hc];rw[hc]at kc;have lN:=fZ g false;unfold jG at kn;rw[if_pos hc]at kn;generalize derM g false=N at kn lN |-;obtain⟨t,n,k,ps⟩:=g;obtain⟨t1,t2,n1,n2,k1,k2,l1,l2,okp⟩:=ok;simp only at t1 t2 n1 n2 k1 k2 l1 l2 okp;obtain⟨n,rfl⟩:=Int.eq_ofNat_of_zero_le (by omega:0<=n)
 simp only[gV,Gm.cells,Int.toNat_natCast]at kc kn lN;simp only[Int.toNat_natCast];have hok:∀p∈ps,0<=p.l/\p.l<n/\p.r.length<=8/\∀x∈p.r,0<=x/\x<t+n:=fun p hp=>⟨(okp p hp).l0,(okp p hp).l1,(okp p hp).len,(okp p hp).s⟩;have hF:(y7 n t N ps).length=n*n:=by
  unfold y7;rw[fC (fun o m=>uK n o m),uM]
 have hro2:(n:Int)*24<=(aM:Int):=by unfold aM;omega
 have hstart:H++[.cells (repl n [.e0])]=LP H n 0:=by
  unfold LP;rw[Ap,sU];rfl
 obtain⟨res,hres⟩:∃res,dgL n (y7 n t N ps) n 0=res:=⟨_,rfl⟩;rw[hres];generalize aj X A=C at kc kn |-;simp[Gm.cells,kc,kn,hro2,hstart];refine O1 (t:=t) (k':=k) (ps:=ps) (null:=N) (by omega) hlk (Nat.le_refl _) (by simp) (fun env' hE'=>?_)
 rw[aG,if_pos rfl,ah,ai,ai,ae,hE'];simp;refine OX (k':=k) t1 t2 (by omega) l2 lN hok hlk (by simp) (fun env' hE'=>?_)
 rw[aG,if_pos rfl,ah,ai,ai,ae,hE'];simp;refine O0 (t:=t) (k':=k) (ps:=ps) (by omega) (uM ..) hlk (by simp) (fun env' hE'=>?_)
 rw[aG,if_pos rfl,ah,ai,ai,ae,hE'];have hF2:(List.range n).foldl (waM n) (edM n t N ps)=y7 n t N ps:=rfl;rw[hF2];generalize y7 n t N ps=F at hF hres |-;simp
 let bx:AV:=.box [I t,I n,I k,.sl ps.length (psC ps)]
 refine ax (σ:=Nat) (fun j=>[(1,bx),(5,.hs H.length n 0 n 1),(14,I j)]) (fun _=>LQ H n F)
  (fun j=>j<=n/\dgL n F (n-j) j=res) (fun j=>n-j) ?_ 0 ⟨Nat.zero_le _,hres⟩ (by simp[bx]) rfl
 rintro j ⟨hj,hinv⟩;unfold Kn;have w2:IntKind.i64.wrap ((j:Int)+1)=(j:Int)+1:=au (by omega) (by omega)
 have htk:=I5 (H:=H) (n:=n) (o:=F);by_cases hjl:j<n;case neg=>
  obtain rfl:j=n:=by omega
  rw[Nat.sub_self]at hinv;subst hinv;simp[dgL,htk,bx]
 have hrl:=ed (H.length+1) n n;have q2:=Mo (H:=H) (n:=n) (o:=F);have qr:=uN (H:=H) (o:=F) hjl;obtain⟨R,rw1,len1,k1,v1⟩:=cel hF hjl hjl;rw[rw1]at qr;have b1:(bools R).length=n:=by rw[aH,len1]
 rw[show n-j=(n-(j+1))+1 by omega,dgL]at hinv
 generalize F.getD (j*n+j) false=u at hinv v1;cases u with
 | true=>
  rw[if_pos rfl]at hinv;subst hinv;simp[bx,hjl,q2,hrl,dI,qr,k1,v1,b1,aF,htk]
 | false=>
  rw[if_neg (by simp)]at hinv
  simp[bx,hjl,q2,hrl,dI,qr,k1,v1,b1,aF,w2];rw[ao];refine⟨j+1,⟨by omega,hinv⟩,by omega,?_,rfl⟩
  simp[bx]
end Go.Proofs.YtkllbcjanneppaaGreat
