import Derived.Test.YtkllbcjanneppaaGreatGE
set_option maxRecDepth 20000
set_option linter.unusedSimpArgs false
set_option linter.unusedVariables false
namespace Go.Proofs.YtkllbcjanneppaaGreat
open Go Go.Hm

theorem mM {α:Type}(st:List Bool->α->List Bool)(ps:List α)(o:List Bool)(i:Nat)(h:i < ps.length):rnd st (ps.take (i+1)) o=st (rnd st (ps.take i) o) ps[i]:=by
 rw [List.take_succ_eq_append_getElem h];simp only [rnd,List.foldl_append,List.foldl_cons,List.foldl_nil]
theorem mN (g:Gm)(tok:Bool)(o:List Bool)(p:Pr):(ek g tok o p).length=o.length:=by
 unfold ek;repeat' split
 all_goals simp
theorem fB (n:Nat):repl n [Bo false]=bools (List.replicate n false):=by
 simp [repl,bools]
theorem j5 (lim:Nat)(H:Heap)(d:Nat)(l:List Bool):ep (frz lim H d) (bools l)=some (bools l):=by
 induction l with
 | nil=>rfl
 | cons a l ih=>
  simp only [bools,List.map_cons,ep,gC] at ih |-;rw [ih]
theorem j6 (lim:Nat)(l:List Bool):belowL lim (bools l)=true:=by
 induction l with
 | nil=>rfl
 | cons a l ih=>simp only [bools,List.map_cons,belowL,Hm.below,Bool.true_and];exact ih
theorem bV {o:List Bool}{i:Nat}(h:i < o.length):o.getD i false=o[i]:=by
 rw [List.getD_eq_getElem?_getD,List.getElem?_eq_getElem h];rfl
theorem all_nil {α:Type}(P:α->Bool):([]:List α).all P=true:=rfl
theorem sL {lk lim:Nat}{H:Heap}(g:Gm)(tok:Bool)(hl:g.ps.length<=1000000)(hr:∀p∈g.ps,p.r.length<=1000000)(hlk:lk<=H.length):
  aj X A lk lim 42 [gV g,Bo tok] H=some (if chkE g=0 then .sl g.n.toNat (bools (derM g tok)) else .e0,H):=by
 have kc:=fun (L:Nat)=>bN (lk:=lk) (lim:=L) (H:=H) g hl hr;refine ar [2,8] rfl A42 rfl rfl ?_;unfold Ol;by_cases hc:chkE g=0;case neg=>
  have h3:((chkE g) != 0)=true:=by simp [hc]
  rw [if_neg hc];obtain ⟨t,n,k,ps⟩:=g;simp only [gV,Gm.cells] at kc;generalize aj X A=C at kc |-;simp [Gm.cells,kc,hc]
 have ok:=br hc;rw [if_pos hc];rw [hc] at kc;obtain ⟨t,n,k,ps⟩:=g;have ok2:=ok;obtain ⟨t1,t2,n1,n2,k1,k2,l1,l2,okp⟩:=ok2;simp only at t1 t2 n1 n2 k1 k2 l1 l2 okp;obtain ⟨n,rfl⟩:=Int.eq_ofNat_of_zero_le (by omega:0<=n)
 simp only [gV,Gm.cells] at kc;have hro:(n:Int)<=(aM:Int):=by unfold aM;omega
 simp [Gm.cells,kc,hro,fB]
 let bx:AV:=.box [I t,I n,I k,.sl ps.length (psC ps)]
 let f:=rnd (ek ⟨t,n,k,ps⟩ tok) ps
 have hf:Grows f:=bu (fun p=>dg _ _ p) ps;refine ax (σ:=List Bool×Bool) (fun s=>[(1,Bo tok),(2,bx),(5,.hs H.length n 0 n 1),(6,Bo s.2)]) (fun s=>H++[.cells (bools s.1)])
  (fun s=>s.1.length=n/\fin f s.1=derM ⟨t,n,k,ps⟩ tok/\(s.2=false->f s.1=s.1)) (fun s=>bC s.1+if s.2=true then 1 else 0) ?_ (List.replicate n false,true) ⟨by simp,rfl,by simp⟩ (by simp [bx]) (by simp)
 rintro ⟨o,more⟩ ⟨ho,hfin,hmore⟩;simp only at ho hfin hmore;unfold Kj;cases more with
 | false=>
  have h1:fin f o=o:=by rw [d6 hf,if_pos (hmore rfl)]
  rw [h1] at hfin;rw [<-hfin];have hb:=j5 H.length (H++[.cells (bools o)]) 7 o;have hb2:=j6 0 o;have htk:(bools o).take n=bools o:=List.take_of_length_le (by rw [aH];omega)
  simp [bx,aH,ho,htk,hb,hb2]
  done
 | true=>
  simp
  let hsV:AV:=.hs H.length n 0 n 1
  let st:=ek ⟨t,n,k,ps⟩ tok
  refine ax (σ:=Nat×List Bool×Bool) (fun s=>[(1,Bo tok),(2,bx),(5,hsV),(6,Bo s.2.2),(7,I s.1)]) (fun s=>H++[.cells (bools s.2.1)])
   (fun s=>s.1<=ps.length/\s.2.1=rnd st (ps.take s.1) o/\s.2.2=decide (s.2.1≠o)) (fun s=>ps.length - s.1) ?_ (0,o,false) ⟨Nat.zero_le _,rfl,by simp⟩ (by simp [bx,hsV]) rfl
  rintro ⟨i,o2,more⟩ ⟨hi,ho2,hm⟩;simp only at hi ho2 hm;unfold Ki;have w1:IntKind.i64.wrap ((i:Int)+1)=(i:Int)+1:=au (by omega) (by omega)
  have hlen2:o2.length=n:=by
   rw [ho2,<-ho];have:∀(l:List Pr) (q:List Bool),(rnd st l q).length=q.length:=by
    intro l;induction l with
    | nil=>intro q;rfl
    | cons p l ih=>intro q;simp only [rnd,List.foldl_cons] at ih |-;rw [ih];exact mN _ _ _ _
   exact this _ _
  by_cases hil:i < ps.length;case neg=>
   obtain rfl:i=ps.length:=by omega
   rw [List.take_of_length_le (Nat.le_refl _)] at ho2;have hfo:f o=o2:=ho2.symm;have hstep:=d6 hf o;rw [hfo] at hstep;simp [bx,hsV,ao];by_cases he:o2=o
   ·subst he;refine ⟨o2,.inl ⟨⟨hlen2,by rw [<-hfin],hfo⟩,by omega,by simpa using hm,rfl⟩⟩
   ·rw [if_neg he] at hstep;refine ⟨o2,.inr ⟨⟨hlen2,by rw [<-hfin,hstep]⟩,?_,by simpa [he] using hm,rfl⟩⟩
    have:=hf o;rw [hfo] at this;rcases this with h | h
    ·exact absurd h he
    ·exact h
  obtain ⟨p,hp⟩:∃p,ps[i]=p:=⟨_,rfl⟩;have pok:=okp p (hp▸List.getElem_mem hil);have hs:=cd hil;have hll:=aY ps;have h2:i * 2+2<=2 * ps.length:=by omega
  rw [hp] at hs;simp only [Pr.cells] at hs;have hnext:rnd st (ps.take (i+1)) o=ek ⟨t,n,k,ps⟩ tok o2 p:=by rw [mM _ _ _ _ hil,<-ho2,hp]
  obtain ⟨pl,pr⟩:=p;obtain ⟨q1,q2,q3,q4⟩:=pok;simp only at q1 q2 q3 q4 hs;obtain ⟨pl,rfl⟩:=Int.eq_ofNat_of_zero_le q2;have hpl:pl < n:=by omega
  have hpl2:pl < o2.length:=by omega
  have hpl3:pl < (bools o2).length:=by rw [aH];omega
  obtain ⟨v,hv⟩:∃v,o2[pl]=v:=⟨_,rfl⟩;have hbl:(bools o2).length=n:=by rw [aH];exact hlen2
  have hpn1:pl+1<=n:=hpl;simp [-bd,bx,hil,hll,hs,h2];rw [bd];simp [an,hsV,hpl,hpl2,hbl,aF,hv];have hgD:o2.getD pl false=v:=by rw [bV hpl2,hv]
  obtain ⟨want,hwant⟩:∃want,(!v&&pr.all (okS ⟨t,n,k,ps⟩ tok o2))=want:=⟨_,rfl⟩;have hder:ek ⟨t,n,k,ps⟩ tok o2 ⟨pl,pr⟩=if want=true then o2.set pl true else o2:=by
   unfold ek;simp only [Int.toNat_natCast,hgD];cases v<;>cases hq:pr.all (okS ⟨t,n,k,ps⟩ tok o2)<;>rw [hq] at hwant<;>subst hwant<;>simp
  rw [hder] at hnext;refine ax (σ:=Nat×Bool) (fun s=>[(1,Bo tok),(2,bx),(5,hsV),(6,Bo more),(7,I i),(8,.box [I pl,.sl pr.length (ints pr)]),(9,Bo s.2),(10,I s.1)]) (fun _=>H++[.cells (bools o2)])
   (fun s=>s.1<=pr.length/\(s.2&&(pr.drop s.1).all (okS ⟨t,n,k,ps⟩ tok o2))=want) (fun s=>pr.length - s.1) ?_ (0,!v) ⟨Nat.zero_le _,by rw [<-hwant];rfl⟩ (by simp [bx,hsV]) rfl
  rintro ⟨m,okb⟩ ⟨hmm,hinv2⟩;simp only at hmm hinv2;unfold Kh;have w2:IntKind.i64.wrap ((m:Int)+1)=(m:Int)+1:=au (by omega) (by omega)
  by_cases hgo:m < pr.length/\okb=true;case neg=>
   have hw:okb=want:=by
    by_cases h1:m < pr.length
    ·have h2:okb=false:=by
      cases okb with
      | false=>rfl
      | true=>exact absurd ⟨h1,rfl⟩ hgo
     rw [h2] at hinv2 |-;simpa using hinv2
    ·obtain rfl:m=pr.length:=by omega
     rw [List.drop_length,all_nil,Bool.and_true] at hinv2;exact hinv2
   subst hw;cases okb with
   | false=>
    have hc:∀q:Prop,(if m < pr.length then AV.val (Value.bool false) else AV.val (Value.bool false))=AV.val (Value.bool false):=fun _=>by split<;>rfl
    by_cases h1:m < pr.length
    ·simp [bx,hsV,h1,w1];rw [ao];exact ⟨(i+1,o2,more),⟨by simp only;omega,by rw [hnext];rfl,by simpa using hm⟩,by simp only;omega,by simp,rfl⟩
    ·simp [bx,hsV,h1,w1];rw [ao];exact ⟨(i+1,o2,more),⟨by simp only;omega,by rw [hnext];rfl,by simpa using hm⟩,by simp only;omega,by simp,rfl⟩
   | true=>
    have h1:¬m < pr.length:=fun h=>hgo ⟨h,rfl⟩;have hwv:v=false:=by
     cases v with
     | false=>rfl
     | true=>simp at hwant
    rw [if_pos rfl] at hnext;have hcn:=ik o2 pl hpl2 (by rw [hv,hwv])
    have hle:=nG (fun p=>dg ⟨t,n,k,ps⟩ tok p) (ps.take i) o;have hle:bC o2<=bC o:=by rw [ho2];exact hle
    have hne:o2.set pl true≠o:=fun h=>by rw [h] at hcn;omega
    simp [bx,hsV,h1,w1,hpl,hbl,hpn1,aR,hlk,bg _ hpl3,cJ];rw [ao];exact ⟨(i+1,o2.set pl true,true),⟨by simp only;omega,hnext.symm,by simp [hne]⟩,by simp only;omega,by simp,rfl⟩
  obtain ⟨hml,rfl⟩:=hgo;obtain ⟨x,hx⟩:∃x,pr[m]=x:=⟨_,rfl⟩;obtain ⟨x1,x2⟩:=q4 x (hx▸List.getElem_mem hml);rw [List.drop_eq_getElem_cons hml,hx,List.all_cons,Bool.true_and] at hinv2;by_cases hxt:x < t
  ·have hok:okS ⟨t,n,k,ps⟩ tok o2 x=tok:=by unfold okS;rw [if_pos hxt]
   rw [hok] at hinv2;have hxt2:¬t<=x:=by omega
   cases tok with
   | true=>
    simp [bx,hsV,hml,hx,hxt,hxt2,w2];rw [ao];exact ⟨(m+1,true),⟨by simp only;omega,hinv2⟩,by simp only;omega,by simp,rfl⟩
   | false=>
    simp [bx,hsV,hml,hx,hxt,hxt2,w2];rw [ao];exact ⟨(m+1,false),⟨by simp only;omega,hinv2⟩,by simp only;omega,by simp,rfl⟩
  ·have hxt2:t<=x:=by omega
   have hxn:(x - t).toNat < o2.length:=by omega
   obtain ⟨u,hu⟩:∃u,o2[(x - t).toNat]=u:=⟨_,rfl⟩;have hok:okS ⟨t,n,k,ps⟩ tok o2 x=u:=by unfold okS;rw [if_neg hxt];simp only;rw [bV hxn,hu]
   rw [hok] at hinv2;have w3:IntKind.i64.wrap (x - t)=x - t:=au (by omega) (by omega)
   have y1:0<=x - t:=by omega
   have y2:x - t < n:=by omega
   have y3:(x - t).toNat < n:=by omega
   simp [bx,hsV,hml,hx,hxt,hxt2,w2,w3,y1,y2,hbl,aF,hxn,hu];rw [ao];exact ⟨(m+1,u),⟨by simp only;omega,hinv2⟩,by simp only;omega,by simp,rfl⟩

theorem iT {α:Type}{st:List Bool->α->List Bool}(Q:List Bool->Prop)(ps:List α)(hq:∀o,∀p∈ps,Q o->Q (st o p)):∀(l:List α),(∀p∈l,p∈ps)->∀o,Q o->Q (rnd st l o)
 | [],_,_,h=>h
 | p::l,hl,o,h=>iT Q ps hq l (fun q hq=>hl q (List.mem_cons_of_mem _ hq)) (st o p) (hq o p (hl p (List.mem_cons_self ..)) h)
theorem nO {lk lim:Nat}{f:FuncId}{cap:List AV}(ps:List Pr)(st:List Bool->Pr->List Bool)(S:List Bool->Heap)(Q:List Bool->Prop)(L:Nat)(hl:ps.length<=1000000)(hc:cap.all a7=true)
  (hs:∀p,Grows fun o=>st o p) (hQ:∀o,∀p∈ps,Q o->Q (st o p)) (hL:∀o,(S o).length=L)
  (hst:∀o,∀p∈ps,Q o->aj X A lk L f (.agg p.cells::cap) (S o)=some (Bo (decide (st o p≠o)),S (st o p))) (o0:List Bool) (h0:Q o0):
  aj X A lk lim 76 [.sl ps.length (psC ps),.fn f cap] (S o0)=some (.tup [],S (fin (rnd st ps) o0)):=by
 have hf:Grows (rnd st ps):=bu hs ps;have htk:∀o,(S o).take L=S o:=fun o=>List.take_of_length_le (by rw [hL];exact Nat.le_refl _)
 refine ar [6] rfl A76 rfl rfl ?_;unfold NO;rw [hL];simp;refine ax (σ:=List Bool×Bool) (fun s=>[(0,.sl ps.length (psC ps)),(1,.fn f cap),(4,Bo s.2)]) (fun s=>S s.1)
  (fun s=>Q s.1/\fin (rnd st ps) s.1=fin (rnd st ps) o0/\(s.2=false->rnd st ps s.1=s.1)) (fun s=>bC s.1+if s.2=true then 1 else 0) ?_ (o0,true) ⟨h0,rfl,by simp⟩ (by simp) rfl
 rintro ⟨o,again⟩ ⟨hq,hfin,hag⟩;simp only at hq hfin hag;unfold JX;cases again with
 | false=>
  have h1:fin (rnd st ps) o=o:=by rw [d6 hf,if_pos (hag rfl)]
  rw [h1] at hfin;rw [<-hfin];simp [hL,htk]
 | true=>
  simp;refine ax (σ:=Nat×List Bool×Bool) (fun s=>[(0,.sl ps.length (psC ps)),(1,.fn f cap),(4,Bo s.2.2),(8,.sl ps.length (psC ps)),(9,I ps.length),(10,I s.1)]) (fun s=>S s.2.1)
   (fun s=>s.1<=ps.length/\Q s.2.1/\s.2.1=rnd st (ps.take s.1) o/\s.2.2=decide (s.2.1≠o)) (fun s=>ps.length - s.1) ?_ (0,o,false) ⟨Nat.zero_le _,hq,rfl,by simp⟩ (by simp) rfl
  rintro ⟨i,o2,ag⟩ ⟨hi,hq2,ho2,hm⟩;simp only at hi hq2 ho2 hm;unfold JW;have w1:IntKind.i64.wrap ((i:Int)+1)=(i:Int)+1:=au (by omega) (by omega)
  by_cases hil:i < ps.length;case neg=>
   obtain rfl:i=ps.length:=by omega
   rw [List.take_of_length_le (Nat.le_refl _)] at ho2;have hfo:rnd st ps o=o2:=ho2.symm;have hstep:=d6 hf o;rw [hfo] at hstep;simp;rw [ao];refine ⟨(o2,ag),⟨hq2,?_,fun h=>?_⟩,?_,by simp,rfl⟩
   ·rw [<-hfin,hstep];by_cases he:o2=o
    ·rw [if_pos he,he,d6 hf o,if_pos (hfo.trans he)]
    ·rw [if_neg he]
   ·have h:ag=false:=h;rw [h] at hm;have he:o2=o:=by simpa using hm.symm
    show rnd st ps o2=o2;rw [he] at hfo |-;exact hfo
   ·show bC o2+(if ag=true then 1 else 0) < bC o+(if true=true then 1 else 0);by_cases he:o2=o
    ·rw [hm];simp [he]
    ·have:=hf o;rw [hfo] at this;rcases this with h | h
     ·exact absurd h he
     ·rw [hm];simp [he];omega
  obtain ⟨p,hp⟩:∃p,ps[i]=p:=⟨_,rfl⟩;have hpm:p∈ps:=hp▸List.getElem_mem hil;have hsub:=cd hil;have hll:=aY ps;have h2:i * 2+2<=2 * ps.length:=by omega
  rw [hp] at hsub;have hnext:rnd st (ps.take (i+1)) o=st o2 p:=by rw [mM _ _ _ _ hil,<-ho2,hp]
  have hcall:=hst o2 p hpm hq2;have hle:=nG hs (ps.take i) o;rw [<-ho2] at hle;have hch:decide (st o2 p≠o)=(decide (st o2 p≠o2)||ag):=by
   rw [hm];by_cases h1:st o2 p=o2
   ·rw [h1];simp
   ·have h3:bC (st o2 p) < bC o2:=by
     rcases hs p o2 with h | h
     ·exact absurd h h1
     ·exact h
    have h4:st o2 p≠o:=fun h=>by rw [h] at h3;omega
    simp [h1,h4]
  obtain ⟨c,hcc⟩:∃c,decide (st o2 p≠o2)=c:=⟨_,rfl⟩;rw [hcc] at hcall hch;obtain ⟨pl,pr⟩:=p;simp only [Pr.cells] at hsub hcall;generalize aj X A=C at hcall |-;simp [-bd,hil,hll,hsub,h2];rw [bd];simp [-a7,mj,uw,an,hcall,hc];cases c with
  | true=>
   simp [w1];rw [ao];exact ⟨(i+1,st o2 ⟨pl,pr⟩,true),⟨by simp only;omega,hQ _ _ hpm hq2,hnext.symm,by simpa using hch.symm⟩,by simp only;omega,by simp,rfl⟩
  | false=>
   simp [w1];rw [ao];exact ⟨(i+1,st o2 ⟨pl,pr⟩,ag),⟨by simp only;omega,hQ _ _ hpm hq2,hnext.symm,by simpa using hch.symm⟩,by simp only;omega,by simp,rfl⟩

theorem sM (H:Heap)(b:Nat)(x:HB):(H.set b x).take H.length=H.set b x:=List.take_of_length_le (by simp)
theorem mO {H:Heap}{b:Nat}{x:HB}(h:H[b]?=some x):b < H.length:=by
 rcases Nat.lt_or_ge b H.length with h1 | h1
 ·exact h1
 ·rw [List.getElem?_eq_none h1] at h;cases h
structure DH (g:Gm)(tok:Bool)(H:Heap)(b:Nat)(o:List Bool):Prop where
 g0:H[b]?=some (.cells g.cells)
 g1:H[b+1]?=some (.cells [Bo tok])
 g2:H[b+2]?=some (.cells (bools o))
 g3:H[b+3]?=some (.cells [.hs (b+2) g.n.toNat 0 g.n.toNat 1])
 g4:H[b+4]?=some (.cells [.fn 81 [.hp b 4 0,.hp (b+1) 1 0,.hp (b+3) 1 0]])
abbrev Al (b:Nat):List AV:=[.hp b 4 0,.hp (b+1) 1 0,.hp (b+3) 1 0]
theorem FJ {lk lim:Nat}{H:Heap}{g:Gm}{tok:Bool}{b:Nat}{o:List Bool}(hd:DH g tok H b o)(ok:GOk g)(ho:o.length=g.n.toNat)(s:Int)(s1:0<=s)(s2:s < g.t+g.n):
  aj X A lk lim 81 (I s::Al b) H=some (Bo (!okS g tok o s),H):=by
 refine ar [] rfl A81 rfl rfl ?_;unfold NM;obtain ⟨g0,g1,g2,g3,g4⟩:=hd;obtain ⟨t,n,k,ps⟩:=g;obtain ⟨t1,t2,n1,n2,k1,k2,l1,l2,okp⟩:=ok;simp only at t1 t2 n1 n2 ho s2;obtain ⟨n,rfl⟩:=Int.eq_ofNat_of_zero_le (by omega:0<=n)
 simp only [Gm.cells] at g0;simp only [Int.toNat_natCast] at g3 ho;by_cases hst:s < t
 ·have hok:okS ⟨t,n,k,ps⟩ tok o s=tok:=by unfold okS;rw [if_pos hst]
  rw [hok];have hst2:¬t<=s:=by omega
  cases tok<;>simp [g0,g1,hst,hst2]
 ·have hst2:t<=s:=by omega
  have hxn:(s - t).toNat < o.length:=by omega
  obtain ⟨u,hu⟩:∃u,o[(s - t).toNat]=u:=⟨_,rfl⟩;have hok:okS ⟨t,n,k,ps⟩ tok o s=u:=by unfold okS;rw [if_neg hst];simp only;rw [bV hxn,hu]
  rw [hok];have w3:IntKind.i64.wrap (s - t)=s - t:=au (by omega) (by omega)
  have y1:0<=s - t:=by omega
  have y2:s - t < n:=by omega
  have hbl:(bools o).length=n:=by rw [aH];exact ho
  simp [g0,g3,g2,hst,hst2,w3,y1,y2,hbl,aF,hxn,hu]
theorem DH.set {g:Gm}{tok:Bool}{H:Heap}{b:Nat}{o o2:List Bool}(hd:DH g tok H b o):DH g tok (H.set (b+2) (.cells (bools o2))) b o2:=by
 obtain ⟨g0,g1,g2,g3,g4⟩:=hd;have hl:=mO g2;exact ⟨by rw [List.getElem?_set_ne (by omega)];exact g0,by rw [List.getElem?_set_ne (by omega)];exact g1,by rw [List.getElem?_set_self hl],by rw [List.getElem?_set_ne (by omega)];exact g3,by rw [List.getElem?_set_ne (by omega)];exact g4⟩
theorem IX {α:Type}(P:α->Bool)(l:List α):(l.any fun x=>!P x)=!l.all P:=by
 induction l with
 | nil=>rfl
 | cons a l ih=>simp only [List.any_cons,List.all_cons,ih,Bool.not_and]
theorem FK {lk lim:Nat}{H:Heap}{g:Gm}{tok:Bool}{b:Nat}{o:List Bool}(hd:DH g tok H b o)(hlk:lk<=b+2)(ok:GOk g)(ho:o.length=g.n.toNat)(p:Pr)(pok:POk g p):
  aj X A lk lim 82 [.agg p.cells,.hp (b+3) 1 0,.hp (b+4) 1 0] H=some (Bo (decide (ek g tok o p≠o)),H.set (b+2) (.cells (bools (ek g tok o p)))):=by
 have k35:=lx (lk:=lk) (lim:=H.length) (H:=H) (f:=81) (cap:=Al b) p.r (fun s=>!okS g tok o s) (by have:=pok.len;omega) rfl (fun s hs=>FJ hd ok ho s (pok.s s hs).1 (pok.s s hs).2)
 rw [IX] at k35;have htk:=fun x:HB=>sM H (b+2) x;refine ar [3] rfl A82 rfl rfl ?_;unfold NN;obtain ⟨g0,g1,g2,g3,g4⟩:=hd;obtain ⟨t,n,k,ps⟩:=g;have n1:=ok.n1;simp only at n1;obtain ⟨n,rfl⟩:=Int.eq_ofNat_of_zero_le (by omega:0<=n)
 simp only [Int.toNat_natCast] at g3 ho;obtain ⟨pl,pr⟩:=p;obtain ⟨q1,q2,q3,q4⟩:=pok;simp only at q1 q2 q3 q4 k35;obtain ⟨pl,rfl⟩:=Int.eq_ofNat_of_zero_le q2;have hpl2:pl < o.length:=by omega
 have hpn:pl < n:=by omega
 have hpn1:pl+1<=n:=hpn;have hpn2:(pl:Int) < n:=by omega
 obtain ⟨v,hv⟩:∃v,o[pl]=v:=⟨_,rfl⟩;have hbl:(bools o).length=n:=by rw [aH];exact ho
 have hpl3:pl < (bools o).length:=by rw [hbl];exact hpn
 have hgD:o.getD pl false=v:=by rw [bV hpl2,hv]
 have hself:H.set (b+2) (.cells (bools o))=H:=by
  have hl:=mO g2;rw [List.getElem?_eq_getElem hl] at g2;have g2:=Option.some.inj g2;rw [<-g2];exact List.set_getElem_self hl
 generalize aj X A=C at k35 |-;cases v with
 | true=>
  have hder:ek ⟨t,n,k,ps⟩ tok o ⟨pl,pr⟩=o:=by unfold ek;simp only [Int.toNat_natCast,hgD];rfl
  rw [hder,hself];simp [Pr.cells,g3,g2,hpn,hpn2,hbl,aF,hpl2,hv]
 | false=>
  cases hall:pr.all (okS ⟨t,n,k,ps⟩ tok o) with
  | false=>
   have hder:ek ⟨t,n,k,ps⟩ tok o ⟨pl,pr⟩=o:=by unfold ek;simp only [Int.toNat_natCast,hgD,hall];rfl
   rw [hall] at k35;rw [hder,hself];simp [Pr.cells,g3,g2,g4,hpn,hpn2,hbl,aF,hpl2,hv,k35]
  | true=>
   have hder:ek ⟨t,n,k,ps⟩ tok o ⟨pl,pr⟩=o.set pl true:=by unfold ek;simp only [Int.toNat_natCast,hgD,hall];rfl
   rw [hall] at k35;rw [hder];have hcn:=ik o pl hpl2 hv;have hne:o.set pl true≠o:=fun h=>by rw [h] at hcn;omega
   simp [Pr.cells,g3,g2,g4,hpn,hpn1,hpn2,hbl,aF,hpl2,hv,k35,aR,hlk,bg _ hpl3,cJ,hne];exact htk _

def dS (g:Gm)(tok:Bool)(H:Heap)(o:List Bool):Heap:=H++[.cells g.cells,.cells [Bo tok],.cells (bools o),.cells [.hs (H.length+2) g.n.toNat 0 g.n.toNat 1],.cells [.fn 81 (Al H.length)]]
theorem OL (g:Gm)(tok:Bool)(H:Heap)(o:List Bool):DH g tok (dS g tok H o) H.length o:=by
 unfold dS;exact ⟨by rw [get_at0];rfl,by rw [Hm.get_at];rfl,by rw [Hm.get_at];rfl,by rw [Hm.get_at];rfl,by rw [Hm.get_at];rfl⟩
theorem Mg (g:Gm)(tok:Bool)(H:Heap)(o o2:List Bool):(dS g tok H o).set (H.length+2) (.cells (bools o2))=dS g tok H o2:=by
 unfold dS;rw [set_at];rfl
theorem wP {lk lim:Nat}{H:Heap}(g:Gm)(tok:Bool)(hl:g.ps.length<=1000000)(hr:∀p∈g.ps,p.r.length<=1000000)(hlk:lk<=H.length):
  aj X A lk lim 52 [gV g,Bo tok] H=some (if chkE g=0 then .sl g.n.toNat (bools (derM g tok)) else .e0,H):=by
 have kc:=fun (L:Nat) (H':Heap)=>ck (lk:=lk) (lim:=L) (H:=H') g hl hr;have kg:=fun (L:Nat) (ok:GOk g)=>nO (lk:=lk) (lim:=L) (f:=82) (cap:=[.hp (H.length+3) 1 0,.hp (H.length+4) 1 0]) g.ps (ek g tok) (dS g tok H) (fun o=>o.length=g.n.toNat) (H.length+5) hl rfl
  (fun p=>dg g tok p) (fun o p _ h=>by rw [mN];exact h) (fun o=>by simp [dS]) (fun o p hp ho=>by
   have:=FK (lk:=lk) (lim:=H.length+5) (OL g tok H o) (by omega) ok ho p (ok.p p hp)
   rw [Mg] at this;exact this) (List.replicate g.n.toNat false) (by simp)
 refine ar [] rfl A52 rfl rfl ?_;unfold NL;by_cases hc:chkE g=0;case neg=>
  rw [if_neg hc];obtain ⟨t,n,k,ps⟩:=g;simp only [gV,Gm.cells] at kc;generalize aj X A=C at kc |-;simp [Gm.cells,kc,hc]
 have ok:=br hc;rw [if_pos hc];rw [hc] at kc;have kg:=fun L=>kg L ok;obtain ⟨t,n,k,ps⟩:=g;have n1:=ok.n1;have n2:=ok.n2;simp only at n1 n2;obtain ⟨n,rfl⟩:=Int.eq_ofNat_of_zero_le (by omega:0<=n)
 simp only [gV,Gm.cells] at kc;have hro:(n:Int)<=(aM:Int):=by unfold aM;omega
 obtain ⟨F,hF⟩:∃F,derM ⟨t,n,k,ps⟩ tok=F:=⟨_,rfl⟩;have hFl:F.length=n:=by
  rw [<-hF];have:=iI (bu (fun p=>dg ⟨t,n,k,ps⟩ tok p) ps) (fun o=>o.length=n) (fun o h=>iT (fun o=>o.length=n) ps (fun o p _ h=>by rw [mN];exact h) ps (fun _ h=>h) o h) _ (List.replicate n false) (Nat.le_refl _) (by simp)
  exact this
 have kg:∀L,aj X A lk L 76 [.sl ps.length (psC ps),.fn 82 [.hp (H.length+3) 1 0,.hp (H.length+4) 1 0]] (dS ⟨t,n,k,ps⟩ tok H (List.replicate n false))=some (.tup [],dS ⟨t,n,k,ps⟩ tok H F):=fun L=>by
  rw [<-hF];exact kg L
 have hb:=fun (H':Heap)=>j5 H.length H' 7 F;have hb2:=j6 0 F;have htk:(bools F).take n=bools F:=List.take_of_length_le (by rw [aH];omega)
 have hbl:(bools F).length=n:=by rw [aH];exact hFl
 simp only [dS,Gm.cells,Al,Int.toNat_natCast] at kg;rw [hF];simp only [Int.toNat_natCast];generalize aj X A=C at kc kg |-;have s1:lk<=H.length+3:=by omega
 have s2:lk<=H.length+4:=by omega
 have s3:¬(H.length+2 < H.length):=by omega
 simp [Gm.cells,kc,hro,fB,aR,s1,s2,set_at,Hm.get_at,get_at0,kg,hbl,htk,hb,hb2,s3]

def jG (g:Gm)(tok:Bool):AV:=if chkE g=0 then .sl g.n.toNat (bools (derM g tok)) else .e0
theorem mP (g:Gm)(tok:Bool):(jG g tok= .e0)\/∃n c,jG g tok= .sl n c:=by
 unfold jG;split
 ·exact .inr ⟨_,_,rfl⟩
 ·exact .inl rfl
section
variable {lk lim:Nat}{H:Heap}(g:Gm)(hl:g.ps.length<=1000000)(hr:∀p∈g.ps,p.r.length<=1000000)(hlk:lk<=H.length)
include hl hr hlk
theorem sN:aj X A lk lim 34 [gV g] H=some (jG g false,H):=by
 have k:=wP (lk:=lk) (lim:=H.length) (H:=H) g false hl hr hlk;have e:(if chkE g=0 then AV.sl g.n.toNat (bools (derM g false)) else AV.e0)=jG g false:=rfl;rw [e] at k;refine ar [1] rfl A34 rfl rfl ?_;unfold NS;simp only [gV,Gm.cells] at k;generalize aj X A=C at k |-;rcases mP g false with h | ⟨n,c,h⟩<;>rw [h] at k |-<;>simp [Gm.cells,k]
theorem B8:aj X A lk lim 74 [gV g] H=some (jG g true,H):=by
 have k:=wP (lk:=lk) (lim:=H.length) (H:=H) g true hl hr hlk;have e:(if chkE g=0 then AV.sl g.n.toNat (bools (derM g true)) else AV.e0)=jG g true:=rfl;rw [e] at k;refine ar [1] rfl A74 rfl rfl ?_;unfold NK;simp only [gV,Gm.cells] at k;generalize aj X A=C at k |-;rcases mP g true with h | ⟨n,c,h⟩<;>rw [h] at k |-<;>simp [Gm.cells,k]
theorem qV:aj X A lk lim 28 [gV g] H=some (jG g false,H):=by
 have k:=sL (lk:=lk) (lim:=H.length) (H:=H) g false hl hr hlk;have e:(if chkE g=0 then AV.sl g.n.toNat (bools (derM g false)) else AV.e0)=jG g false:=rfl;rw [e] at k;refine ar [1] rfl A28 rfl rfl ?_;unfold Oo;simp only [gV,Gm.cells] at k;generalize aj X A=C at k |-;rcases mP g false with h | ⟨n,c,h⟩<;>rw [h] at k |-<;>simp [Gm.cells,k]
theorem yX:aj X A lk lim 57 [gV g] H=some (jG g true,H):=by
 have k:=sL (lk:=lk) (lim:=H.length) (H:=H) g true hl hr hlk;have e:(if chkE g=0 then AV.sl g.n.toNat (bools (derM g true)) else AV.e0)=jG g true:=rfl;rw [e] at k;refine ar [1] rfl A57 rfl rfl ?_;unfold Oj;simp only [gV,Gm.cells] at k;generalize aj X A=C at k |-;rcases mP g true with h | ⟨n,c,h⟩<;>rw [h] at k |-<;>simp [Gm.cells,k]
end

def dM (g:Gm)(o:List Bool)(s:Int):List Bool:=if s < g.t then o else if o.getD (s - g.t).toNat false=true then o else o.set (s - g.t).toNat true
def jH (g:Gm)(o:List Bool)(p:Pr):List Bool:=if o.getD p.l.toNat false=true then p.r.foldl (dM g) o else o
theorem lC (g:Gm)(s:Int):Grows fun o=>dM g o s:=fun o=>by
 simp only [dM];split
 ·exact .inl rfl
 ·split
  ·exact .inl rfl
  ·rename_i h;exact nH o _ h
theorem iU (g:Gm)(p:Pr):Grows fun o=>jH g o p:=fun o=>by
 simp only [jH];split
 ·exact bu (st:=dM g) (fun s=>lC g s) p.r o
 ·exact .inl rfl
def yY (g:Gm):List Bool:=fin (rnd (jH g) g.ps) ((List.replicate g.n.toNat false).set 0 true)

structure RH (g:Gm)(H:Heap)(b:Nat)(o:List Bool):Prop where
 g0:H[b]?=some (.cells g.cells)
 g2:H[b+1]?=some (.cells (bools o))
 g3:H[b+2]?=some (.cells [.hs (b+1) g.n.toNat 0 g.n.toNat 1])
theorem RH.set {g:Gm}{H:Heap}{b:Nat}{o o2:List Bool}(hd:RH g H b o):RH g (H.set (b+1) (.cells (bools o2))) b o2:=by
 obtain ⟨g0,g2,g3⟩:=hd;have hl:=mO g2;exact ⟨by rw [List.getElem?_set_ne (by omega)];exact g0,by rw [List.getElem?_set_self hl],by rw [List.getElem?_set_ne (by omega)];exact g3⟩
theorem FL {H:Heap}{b:Nat}{x:HB}(h:H[b]?=some x):H.set b x=H:=by
 have hl:=mO h;rw [List.getElem?_eq_getElem hl] at h;have h:=Option.some.inj h;rw [<-h];exact List.set_getElem_self hl
theorem qW (g:Gm)(o:List Bool)(s:Int):(dM g o s).length=o.length:=by
 unfold dM;repeat' split
 all_goals simp
theorem sO {α:Type}(st:List Bool->α->List Bool)(l:List α)(o:List Bool)(i:Nat)(h:i < l.length):(l.take (i+1)).foldl st o=st ((l.take i).foldl st o) l[i]:=mM st l o i h
theorem FM {lk lim:Nat}{H:Heap}{g:Gm}{b:Nat}{o:List Bool}(hd:RH g H b o)(hlk:lk<=b+1)(ok:GOk g)(ho:o.length=g.n.toNat)(p:Pr)(pok:POk g p):
  aj X A lk lim 98 [.agg p.cells,.hp (b+2) 1 0,.hp b 4 0] H=some (Bo (decide (jH g o p≠o)),H.set (b+1) (.cells (bools (jH g o p)))):=by
 refine ar [3] rfl A98 rfl rfl ?_;unfold NQ;have hself:=FL hd.g2;have hlt:=mO hd.g2;obtain ⟨t,n,k,ps⟩:=g;have n1:=ok.n1;have n2:=ok.n2;have t1:=ok.t1;have t2:=ok.t2;simp only at n1 n2 t1 t2;obtain ⟨n,rfl⟩:=Int.eq_ofNat_of_zero_le (by omega:0<=n)
 simp only [Int.toNat_natCast] at ho;obtain ⟨pl,pr⟩:=p;obtain ⟨q1,q2,q3,q4⟩:=pok;simp only at q1 q2 q3 q4;obtain ⟨pl,rfl⟩:=Int.eq_ofNat_of_zero_le q2;have hpn:pl < n:=by omega
 have hpl2:pl < o.length:=by omega
 obtain ⟨v,hv⟩:∃v,o[pl]=v:=⟨_,rfl⟩;have hbl:(bools o).length=n:=by rw [aH];exact ho
 have hgD:o.getD pl false=v:=by rw [bV hpl2,hv]
 have g0:=hd.g0;have g2:=hd.g2;have g3:=hd.g3;simp only [Gm.cells] at g0;simp only [Int.toNat_natCast] at g3;cases v with
 | false=>
  have hr:jH ⟨t,n,k,ps⟩ o ⟨pl,pr⟩=o:=by unfold jH;simp only [Int.toNat_natCast,hgD];rfl
  rw [hr,hself];simp [Pr.cells,g3,g2,hpn,hbl,aF,hpl2,hv]
 | true=>
  have hr:jH ⟨t,n,k,ps⟩ o ⟨pl,pr⟩=pr.foldl (dM ⟨t,n,k,ps⟩) o:=by unfold jH;simp only [Int.toNat_natCast,hgD];rfl
  rw [hr];obtain ⟨cR,hcR⟩:∃c,decide (pr.foldl (dM ⟨t,n,k,ps⟩) o≠o)=c:=⟨_,rfl⟩;rw [hcR];simp [Pr.cells,g3,g2,hpn,hbl,aF,hpl2,hv];refine ax (σ:=Nat×List Bool×Bool) (fun s=>[(1,.hp (b+2) 1 0),(2,.hp b 4 0),(4,Bo s.2.2),(14,.sl pr.length (ints pr)),(15,I pr.length),(16,I s.1)]) (fun s=>H.set (b+1) (.cells (bools s.2.1)))
   (fun s=>s.1<=pr.length/\s.2.1=(pr.take s.1).foldl (dM ⟨t,n,k,ps⟩) o/\s.2.2=decide (s.2.1≠o)) (fun s=>pr.length - s.1) ?_ (0,o,false) ⟨Nat.zero_le _,rfl,by simp⟩ (by simp) (by rw [hself])
  rintro ⟨m,o2,mo⟩ ⟨hm,ho2,hmo⟩;simp only at hm ho2 hmo;unfold JY;have w1:IntKind.i64.wrap ((m:Int)+1)=(m:Int)+1:=au (by omega) (by omega)
  by_cases hml:m < pr.length;case neg=>
   obtain rfl:m=pr.length:=by omega
   rw [List.take_of_length_le (Nat.le_refl _)] at ho2;have hmo2:mo=cR:=by rw [hmo,ho2];exact hcR
   rw [<-ho2,<-hmo2];have htk:=sM H (b+1) (.cells (bools o2));simp [htk]
  obtain ⟨x,hx⟩:∃x,pr[m]=x:=⟨_,rfl⟩;obtain ⟨x1,x2⟩:=q4 x (hx▸List.getElem_mem hml);have hnext:=sO (dM ⟨t,n,k,ps⟩) pr o m hml;rw [<-ho2,hx] at hnext;have hlen2:o2.length=n:=by
   rw [ho2];have:∀(l:List Int) (q:List Bool),(l.foldl (dM ⟨t,n,k,ps⟩) q).length=q.length:=by
    intro l;induction l with
    | nil=>intro q;rfl
    | cons a l ih=>intro q;simp only [List.foldl_cons];rw [ih];exact qW _ _ _
   rw [this];exact ho
  have hle:=nG (fun s=>lC ⟨t,n,k,ps⟩ s) (pr.take m) o;have hle:bC o2<=bC o:=by rw [ho2];exact hle
  obtain ⟨e0,e2,e3⟩:=(hd.set (o2:=o2));simp only [Gm.cells] at e0;simp only [Int.toNat_natCast] at e3;have hbl2:(bools o2).length=n:=by rw [aH];exact hlen2
  by_cases hxt:x < t
  ·have hr:dM ⟨t,n,k,ps⟩ o2 x=o2:=by unfold dM;rw [if_pos hxt]
   rw [hr] at hnext;simp [hml,hx,e0,hxt,w1];rw [ao];exact ⟨(m+1,o2,mo),⟨by simp only;omega,hnext.symm,by simpa using hmo⟩,by simp only;omega,by simp,rfl⟩
  ·have hxn:(x - t).toNat < o2.length:=by omega
   have hxn3:(x - t).toNat < n:=by omega
   obtain ⟨u,hu⟩:∃u,o2[(x - t).toNat]=u:=⟨_,rfl⟩;have w3:IntKind.i64.wrap (x - t)=x - t:=au (by omega) (by omega)
   have y1:0<=x - t:=by omega
   have y0:t<=x:=by omega
   have y2:x - t < n:=by omega
   have hpl3:(x - t).toNat < (bools o2).length:=by rw [hbl2];exact hxn3
   have hgD2:o2.getD (x - t).toNat false=u:=by rw [bV hxn,hu]
   cases u with
   | true=>
    have hr:dM ⟨t,n,k,ps⟩ o2 x=o2:=by unfold dM;rw [if_neg hxt];simp only [hgD2,if_true]
    rw [hr] at hnext;simp [hml,hx,e0,e2,e3,hxt,w1,w3,y0,y1,y2,hbl2,aF,hxn,hu];rw [ao];exact ⟨(m+1,o2,mo),⟨by simp only;omega,hnext.symm,by simpa using hmo⟩,by simp only;omega,by simp,rfl⟩
   | false=>
    have hr:dM ⟨t,n,k,ps⟩ o2 x=o2.set (x - t).toNat true:=by unfold dM;rw [if_neg hxt];simp only [hgD2];rfl
    rw [hr] at hnext;have hcn:=ik o2 _ hxn hu;have hne:o2.set (x - t).toNat true≠o:=fun h=>by rw [h] at hcn;omega
    have y3:(x - t).toNat+1<=n:=hxn3;simp [hml,hx,e0,e2,e3,hxt,w1,w3,y0,y1,y2,y3,hbl2,aF,hxn,hu,aR,hlk,bg _ hpl3,cJ];rw [ao];exact ⟨(m+1,o2.set (x - t).toNat true,true),⟨by simp only;omega,hnext.symm,by simp [hne]⟩,by simp only;omega,by simp,by simp⟩

def rS (g:Gm)(H:Heap)(o:List Bool):Heap:=H++[.cells g.cells,.cells (bools o),.cells [.hs (H.length+1) g.n.toNat 0 g.n.toNat 1]]
theorem OM (g:Gm)(H:Heap)(o:List Bool):RH g (rS g H o) H.length o:=by
 unfold rS;exact ⟨by rw [get_at0];rfl,by rw [Hm.get_at];rfl,by rw [Hm.get_at];rfl⟩
theorem Mh (g:Gm)(H:Heap)(o o2:List Bool):(rS g H o).set (H.length+1) (.cells (bools o2))=rS g H o2:=by
 unfold rS;rw [set_at];rfl
theorem qX (g:Gm)(o:List Bool)(p:Pr):(jH g o p).length=o.length:=by
 have:∀(l:List Int) (q:List Bool),(l.foldl (dM g) q).length=q.length:=by
  intro l;induction l with
  | nil=>intro q;rfl
  | cons a l ih=>intro q;simp only [List.foldl_cons];rw [ih];exact qW _ _ _
 unfold jH;split
 ·exact this _ _
 ·rfl
def B9 (g:Gm):AV:=if chkE g=0 then .sl g.n.toNat (bools (yY g)) else .e0
theorem qY (g:Gm):(yY g).length=g.n.toNat:=
 iI (bu (fun p=>iU g p) g.ps) (fun o=>o.length=g.n.toNat) (fun o h=>iT (fun o=>o.length=g.n.toNat) g.ps (fun o p _ h=>by rw [qX];exact h) g.ps (fun _ h=>h) o h) _ _ (Nat.le_refl _) (by simp)
theorem FN {lk lim:Nat}{H:Heap}(g:Gm)(hl:g.ps.length<=1000000)(hr:∀p∈g.ps,p.r.length<=1000000)(hlk:lk<=H.length):
  aj X A lk lim 75 [gV g] H=some (B9 g,H):=by
 have kc:=fun (L:Nat) (H':Heap)=>ck (lk:=lk) (lim:=L) (H:=H') g hl hr;have kg:=fun (L:Nat) (ok:GOk g)=>nO (lk:=lk) (lim:=L) (f:=98) (cap:=[.hp (H.length+2) 1 0,.hp H.length 4 0]) g.ps (jH g) (rS g H) (fun o=>o.length=g.n.toNat) (H.length+3) hl rfl
  (fun p=>iU g p) (fun o p _ h=>by rw [qX];exact h) (fun o=>by simp [rS]) (fun o p hp ho=>by
   have:=FM (lk:=lk) (lim:=H.length+3) (OM g H o) (by omega) ok ho p (ok.p p hp)
   rw [Mh] at this;exact this) ((List.replicate g.n.toNat false).set 0 true) (by simp)
 refine ar [] rfl A75 rfl rfl ?_;unfold NP;unfold B9;by_cases hc:chkE g=0;case neg=>
  rw [if_neg hc];obtain ⟨t,n,k,ps⟩:=g;simp only [gV,Gm.cells] at kc;generalize aj X A=C at kc |-;simp [Gm.cells,kc,hc]
 have ok:=br hc;rw [if_pos hc];rw [hc] at kc;have kg:=fun L=>kg L ok;have hFl:=qY g;obtain ⟨t,n,k,ps⟩:=g;have n1:=ok.n1;have n2:=ok.n2;simp only at n1 n2;obtain ⟨n,rfl⟩:=Int.eq_ofNat_of_zero_le (by omega:0<=n)
 simp only [gV,Gm.cells] at kc;have hro:(n:Int)<=(aM:Int):=by unfold aM;omega
 obtain ⟨F,hF⟩:∃F,yY ⟨t,n,k,ps⟩=F:=⟨_,rfl⟩;rw [hF] at hFl |-;simp only [Int.toNat_natCast] at hFl;have kg:∀L,aj X A lk L 76 [.sl ps.length (psC ps),.fn 98 [.hp (H.length+2) 1 0,.hp H.length 4 0]] (rS ⟨t,n,k,ps⟩ H ((List.replicate n false).set 0 true))=some (.tup [],rS ⟨t,n,k,ps⟩ H F):=fun L=>by
  rw [<-hF];exact kg L
 have hb:=fun (H':Heap)=>j5 H.length H' 7 F;have hb2:=j6 0 F;have htk:(bools F).take n=bools F:=List.take_of_length_le (by rw [aH];omega)
 have hbl:(bools F).length=n:=by rw [aH];exact hFl
 simp only [rS,Gm.cells,Int.toNat_natCast] at kg;simp only [Int.toNat_natCast];have s1:lk<=H.length+1:=by omega
 have s2:lk<=H.length+2:=by omega
 have s3:¬(H.length+1 < H.length):=by omega
 have z1:0 < n:=by omega
 have z2:1<=n:=by omega
 have z3:(bools (List.replicate n false)).length=n:=by rw [aH];simp
 have z4:an (bools (List.replicate n false)) 0 [Bo true]=bools ((List.replicate n false).set 0 true):=by
  rw [bg _ (by rw [z3];omega),cJ]
 generalize aj X A=C at kc kg |-;simp [Gm.cells,kc,hro,fB,aR,s1,s2,set_at,Hm.get_at,get_at0,kg,hbl,htk,hb,hb2,s3,z1,z2,z3,z4]

theorem Ca (g:Gm)(o:List Bool)(s:Int)(i:Nat)(h:o.getD i false=true):(dM g o s).getD i false=true:=by
 unfold dM;split
 ·exact h
 ·split
  ·exact h
  ·rw [List.getD_eq_getElem?_getD] at h |-;rw [List.getElem?_set];split
   ·split
    ·rfl
    ·rename_i h1 h2;subst h1;rw [List.getElem?_eq_none (by omega)] at h
     simp at h
   ·exact h
theorem sP (g:Gm):∀(l:List Int) (o:List Bool) (i:Nat),o.getD i false=true->(l.foldl (dM g) o).getD i false=true
 | [],_,_,h=>h
 | a::l,o,i,h=>sP g l (dM g o a) i (Ca g o a i h)
theorem wQ (g:Gm):∀(l:List Int) (o:List Bool),(l.foldl (dM g) o).length=o.length
 | [],_=>rfl
 | a::l,o=>by simp only [List.foldl_cons];rw [wQ g l,qW]
theorem Cb {lk lim:Nat}{H:Heap}(g:Gm)(hl:g.ps.length<=1000000)(hr:∀p∈g.ps,p.r.length<=1000000)(hlk:lk<=H.length):
  aj X A lk lim 58 [gV g] H=some (B9 g,H):=by
 have kc:=fun (L:Nat)=>bN (lk:=lk) (lim:=L) (H:=H) g hl hr;refine ar [1,6] rfl A58 rfl rfl ?_;unfold Om;unfold B9;by_cases hc:chkE g=0;case neg=>
  rw [if_neg hc];obtain ⟨t,n,k,ps⟩:=g;simp only [gV,Gm.cells] at kc;generalize aj X A=C at kc |-;simp [Gm.cells,kc,hc]
 have ok:=br hc;rw [if_pos hc];rw [hc] at kc;obtain ⟨t,n,k,ps⟩:=g;have ok2:=ok;obtain ⟨t1,t2,n1,n2,k1,k2,l1,l2,okp⟩:=ok2;simp only at t1 t2 n1 n2 k1 k2 l1 l2 okp;obtain ⟨n,rfl⟩:=Int.eq_ofNat_of_zero_le (by omega:0<=n)
 simp only [gV,Gm.cells] at kc;have hro:(n:Int)<=(aM:Int):=by unfold aM;omega
 have z1:0 < n:=by omega
 have z2:1<=n:=by omega
 have z3:(bools (List.replicate n false)).length=n:=by rw [aH];simp
 have z4:an (bools (List.replicate n false)) 0 [Bo true]=bools ((List.replicate n false).set 0 true):=by
  rw [bg _ (by rw [z3];omega),cJ]
 simp [Gm.cells,kc,hro,fB,aR,hlk,z1,z2,z3,z4]
 let bx:AV:=.box [I t,I n,I k,.sl ps.length (psC ps)]
 let hsV:AV:=.hs H.length n 0 n 1
 let f:=rnd (jH ⟨t,n,k,ps⟩) ps
 have hf:Grows f:=bu (fun p=>iU _ p) ps;refine ax (σ:=List Bool×Bool) (fun s=>[(1,bx),(3,hsV),(4,Bo s.2)]) (fun s=>H++[.cells (bools s.1)])
  (fun s=>s.1.length=n/\fin f s.1=yY ⟨t,n,k,ps⟩/\(s.2=false->f s.1=s.1)) (fun s=>bC s.1+if s.2=true then 1 else 0) ?_ ((List.replicate n false).set 0 true,true) ⟨by simp,rfl,by simp⟩ (by simp [bx,hsV]) (by simp)
 rintro ⟨o,more⟩ ⟨ho,hfin,hmore⟩;simp only at ho hfin hmore;unfold Km;cases more with
 | false=>
  have h1:fin f o=o:=by rw [d6 hf,if_pos (hmore rfl)]
  rw [h1] at hfin;rw [<-hfin];have hb:=j5 H.length (H++[.cells (bools o)]) 7 o;have hb2:=j6 0 o;have htk:(bools o).take n=bools o:=List.take_of_length_le (by rw [aH];omega)
  simp [bx,hsV,aH,ho,htk,hb,hb2]
 | true=>
  simp
  let st:=jH ⟨t,n,k,ps⟩
  refine ax (σ:=Nat×List Bool×Bool) (fun s=>[(1,bx),(3,hsV),(4,Bo s.2.2),(5,I s.1)]) (fun s=>H++[.cells (bools s.2.1)])
   (fun s=>s.1<=ps.length/\s.2.1=rnd st (ps.take s.1) o/\s.2.2=decide (s.2.1≠o)) (fun s=>ps.length - s.1) ?_ (0,o,false) ⟨Nat.zero_le _,rfl,by simp⟩ (by simp [bx,hsV]) rfl
  rintro ⟨i,o2,more⟩ ⟨hi,ho2,hm⟩;simp only at hi ho2 hm;unfold Kl;have w1:IntKind.i64.wrap ((i:Int)+1)=(i:Int)+1:=au (by omega) (by omega)
  have hlen2:o2.length=n:=by
   rw [ho2,<-ho];have:∀(l:List Pr) (q:List Bool),(rnd st l q).length=q.length:=by
    intro l;induction l with
    | nil=>intro q;rfl
    | cons p l ih=>intro q;simp only [rnd,List.foldl_cons] at ih |-;rw [ih];exact qX _ _ _
   exact this _ _
  by_cases hil:i < ps.length;case neg=>
   obtain rfl:i=ps.length:=by omega
   rw [List.take_of_length_le (Nat.le_refl _)] at ho2;have hfo:f o=o2:=ho2.symm;have hstep:=d6 hf o;rw [hfo] at hstep;simp [bx,hsV,ao];by_cases he:o2=o
   ·subst he;refine ⟨o2,.inl ⟨⟨hlen2,by rw [<-hfin],hfo⟩,by omega,by simpa using hm,rfl⟩⟩
   ·rw [if_neg he] at hstep;refine ⟨o2,.inr ⟨⟨hlen2,by rw [<-hfin,hstep]⟩,?_,by simpa [he] using hm,rfl⟩⟩
    have:=hf o;rw [hfo] at this;rcases this with h | h
    ·exact absurd h he
    ·exact h
  obtain ⟨p,hp⟩:∃p,ps[i]=p:=⟨_,rfl⟩;have pok:=okp p (hp▸List.getElem_mem hil);have hs:=cd hil;have hll:=aY ps;have h2:i * 2+2<=2 * ps.length:=by omega
  rw [hp] at hs;simp only [Pr.cells] at hs;have hnext:rnd st (ps.take (i+1)) o=jH ⟨t,n,k,ps⟩ o2 p:=by rw [mM _ _ _ _ hil,<-ho2,hp]
  obtain ⟨pl,pr⟩:=p;obtain ⟨q1,q2,q3,q4⟩:=pok;simp only at q1 q2 q3 q4 hs;obtain ⟨pl,rfl⟩:=Int.eq_ofNat_of_zero_le q2;have hpl:pl < n:=by omega
  have hpl2:pl < o2.length:=by omega
  have hbl:(bools o2).length=n:=by rw [aH];exact hlen2
  simp [-bd,bx,hil,hll,hs,h2];rw [bd];simp [an,hsV];have hle2:=nG (fun p=>iU ⟨t,n,k,ps⟩ p) (ps.take i) o;have hle2:bC o2<=bC o:=by rw [ho2];exact hle2
  refine ax (σ:=Nat×List Bool×Bool) (fun s=>[(1,bx),(3,hsV),(4,Bo s.2.2),(5,I i),(6,.box [I pl,.sl pr.length (ints pr)]),(7,I s.1)]) (fun s=>H++[.cells (bools s.2.1)])
   (fun s=>s.1<=pr.length/\(s.1=0\/o2.getD pl false=true)/\s.2.1=(pr.take s.1).foldl (dM ⟨t,n,k,ps⟩) o2/\s.2.2=decide (s.2.1≠o)) (fun s=>pr.length - s.1) ?_ (0,o2,more) ⟨Nat.zero_le _,.inl rfl,rfl,hm⟩ (by simp [bx,hsV]) rfl
  rintro ⟨m,o3,mo⟩ ⟨hmm,hgo,ho3,hmo⟩;simp only at hmm hgo ho3 hmo;unfold Kk;have w2:IntKind.i64.wrap ((m:Int)+1)=(m:Int)+1:=au (by omega) (by omega)
  have hlen3:o3.length=n:=by rw [ho3,wQ];exact hlen2
  have hbl3:(bools o3).length=n:=by rw [aH];exact hlen3
  have hpl3:pl < o3.length:=by omega
  obtain ⟨v,hv⟩:∃v,o3[pl]=v:=⟨_,rfl⟩;have hgD:o3.getD pl false=v:=by rw [bV hpl3,hv]
  by_cases hml:m < pr.length;case neg=>
   obtain rfl:m=pr.length:=by omega
   rw [List.take_of_length_le (Nat.le_refl _)] at ho3;simp [bx,hsV,w1];rw [ao];refine ⟨(i+1,o3,mo),⟨by simp only;omega,?_,by simpa using hmo⟩,by simp only;omega,by simp,rfl⟩
   rw [hnext];unfold jH;simp only [Int.toNat_natCast];rcases hgo with h | h
   ·have hpr:pr=[]:=List.length_eq_zero_iff.1 h;subst hpr;rw [ho3];split<;>rfl
   ·rw [if_pos h];exact ho3
  cases v with
  | false=>
   have hm0:m=0:=by
    rcases hgo with h | h
    ·exact h
    ·have:=sP ⟨t,n,k,ps⟩ (pr.take m) o2 pl h;rw [<-ho3,hgD] at this;cases this
   subst hm0;have ho3:o3=o2:=ho3;subst ho3;simp [bx,hsV,hml,w1,hpl,hbl3,aF,hpl3,hv];rw [ao];refine ⟨(i+1,o3,mo),⟨by simp only;omega,?_,by simpa using hmo⟩,by simp only;omega,by simp,rfl⟩
   rw [hnext];unfold jH;simp only [Int.toNat_natCast,hgD];rfl
  | true=>
   have hg2:o2.getD pl false=true:=by
    rcases hgo with h | h
    ·subst h;have ho3:o3=o2:=ho3;rw [<-ho3,hgD]
    ·exact h
   obtain ⟨x,hx⟩:∃x,pr[m]=x:=⟨_,rfl⟩;obtain ⟨x1,x2⟩:=q4 x (hx▸List.getElem_mem hml);have hnx:=sO (dM ⟨t,n,k,ps⟩) pr o2 m hml;rw [<-ho3,hx] at hnx;have w3:IntKind.i64.wrap (x - t)=x - t:=au (by omega) (by omega)
   have hle3:=nG (fun s=>lC ⟨t,n,k,ps⟩ s) (pr.take m) o2;have hle3:bC o3<=bC o2:=by rw [ho3];exact hle3
   by_cases hxt:x < t
   ·have hr:dM ⟨t,n,k,ps⟩ o3 x=o3:=by unfold dM;rw [if_pos hxt]
    rw [hr] at hnx;have y0:¬t<=x:=by omega
    have y1:¬0<=x - t:=by omega
    simp [bx,hsV,hml,hpl,hbl3,aF,hpl3,hv,hx,w2,w3,y0,y1];rw [ao];exact ⟨(m+1,o3,mo),⟨by simp only;omega,.inr hg2,hnx.symm,by simpa using hmo⟩,by simp only;omega,by simp,rfl⟩
   ·have y0:t<=x:=by omega
    have y1:0<=x - t:=by omega
    have y2:x - t < n:=by omega
    have y3:(x - t).toNat+1<=n:=by omega
    have hxn:(x - t).toNat < o3.length:=by omega
    obtain ⟨u,hu⟩:∃u,o3[(x - t).toNat]=u:=⟨_,rfl⟩;have hgD2:o3.getD (x - t).toNat false=u:=by rw [bV hxn,hu]
    have hpl4:(x - t).toNat < (bools o3).length:=by rw [hbl3];omega
    cases u with
    | true=>
     have hr:dM ⟨t,n,k,ps⟩ o3 x=o3:=by unfold dM;rw [if_neg hxt];simp only [hgD2,if_true]
     rw [hr] at hnx;simp [bx,hsV,hml,hpl,hbl3,aF,hpl3,hv,hx,w2,w3,y0,y1,y2,hxn,hu];rw [ao];exact ⟨(m+1,o3,mo),⟨by simp only;omega,.inr hg2,hnx.symm,by simpa using hmo⟩,by simp only;omega,by simp,rfl⟩
    | false=>
     have hr:dM ⟨t,n,k,ps⟩ o3 x=o3.set (x - t).toNat true:=by unfold dM;rw [if_neg hxt];simp only [hgD2];rfl
     rw [hr] at hnx;have hcn:=ik o3 _ hxn hu;have hne:o3.set (x - t).toNat true≠o:=fun h=>by rw [h] at hcn;omega
     simp [bx,hsV,hml,hpl,hbl3,aF,hpl3,hv,hx,w2,w3,y0,y1,y2,y3,hxn,hu,aR,hlk,bg _ hpl4,cJ];rw [ao];exact ⟨(m+1,o3.set (x - t).toNat true,true),⟨by simp only;omega,.inr hg2,hnx.symm,by simp [hne]⟩,by simp only;omega,by simp,by simp⟩

theorem j7 {α:Type}{st:List Bool->α->List Bool}(h:∀o p,(st o p).length=o.length):∀(l:List α) (o:List Bool),(rnd st l o).length=o.length
 | [],_=>rfl
 | p::l,o=>by
  have:=j7 h l (st o p);simp only [rnd,List.foldl_cons] at this |-;rw [this,h]

def oQ (a b:List Bool):Nat->Nat->Int×Bool
 | 0,_=>(0,true)
 | m+1,i=>if (a.getD i false&&b.getD i false)=true then oQ a b m (i+1) else (i,false)
def redP (g:Gm):Int×Bool:=if chkE g=0 then oQ (derM g true) (yY g) g.n.toNat 0 else (0,false)
def Cc (g:Gm):AV:=.tup [I (redP g).1,Bo (redP g).2]
theorem Cd (g:Gm)(tok:Bool)(l:List Pr)(o:List Bool):(rnd (ek g tok) l o).length=o.length:=j7 (fun o p=>mN g tok o p) l o
theorem fZ (g:Gm)(tok:Bool):(derM g tok).length=g.n.toNat:=
 iI (bu (fun p=>dg g tok p) g.ps) (fun o=>o.length=g.n.toNat) (fun o h=>by rw [Cd];exact h) _ _ (Nat.le_refl _) (by simp)
theorem FO {lk lim:Nat}{H:Heap}(g:Gm)(hl:g.ps.length<=1000000)(hr:∀p∈g.ps,p.r.length<=1000000)(hlk:lk<=H.length):aj X A lk lim 49 [gV g] H=some (Cc g,H):=by
 have kc:=fun (L:Nat)=>ck (lk:=lk) (lim:=L) (H:=H) g hl hr;have kp:=fun (L:Nat)=>B8 (lk:=lk) (lim:=L) (H:=H) g hl hr hlk;have kr:=fun (L:Nat)=>FN (lk:=lk) (lim:=L) (H:=H) g hl hr hlk;refine ar [1] rfl A49 rfl rfl ?_;unfold NJ;unfold Cc redP;by_cases hc:chkE g=0;case neg=>
  rw [if_neg hc];obtain ⟨t,n,k,ps⟩:=g;simp only [gV,Gm.cells] at kc;generalize aj X A=C at kc |-;simp [Gm.cells,kc,hc]
 have ok:=br hc;rw [if_pos hc];rw [hc] at kc;have ha:=fZ g true;have hb:=qY g;unfold jG at kp;unfold B9 at kr;rw [if_pos hc] at kp kr;generalize derM g true=a at ha kp |-;generalize yY g=b at hb kr |-;obtain ⟨t,n,k,ps⟩:=g;obtain ⟨t1,t2,n1,n2,k1,k2,l1,l2,okp⟩:=ok;simp only at t1 t2 n1 n2 k1 k2 l1 l2 okp;obtain ⟨n,rfl⟩:=Int.eq_ofNat_of_zero_le (by omega:0<=n)
 simp only [gV,Gm.cells,Int.toNat_natCast] at kc kp kr ha hb |-;generalize aj X A=C at kc kp kr |-;obtain ⟨res,hres⟩:∃res,oQ a b n 0=res:=⟨_,rfl⟩;rw [hres];simp [kc,kp,kr];refine ax (σ:=Nat) (fun i=>[(4,.sl n (bools a)),(5,.sl n (bools b)),(15,I n),(16,I i)]) (fun _=>H)
  (fun i=>i<=n/\oQ a b (n - i) i=res) (fun i=>n - i) ?_ 0 (by simp [hres]) (by simp) rfl
 rintro i ⟨hi,hinv⟩;unfold JV;have w1:IntKind.i64.wrap ((i:Int)+1)=(i:Int)+1:=au (by omega) (by omega)
 by_cases hil:i < n;case neg=>
  obtain rfl:i=n:=by omega
  rw [Nat.sub_self] at hinv;subst hinv;simp [oQ]
 have hia:i < a.length:=by omega
 have hib:i < b.length:=by omega
 rw [show n - i=(n - (i+1))+1 by omega,oQ,bV hia,bV hib] at hinv
 obtain ⟨u,hu⟩:∃u,a[i]=u:=⟨_,rfl⟩;obtain ⟨v,hv⟩:∃v,b[i]=v:=⟨_,rfl⟩;rw [hu,hv] at hinv;cases u with
 | false=>
  subst hinv;simp [hil,aF,hia,hib,hu,ha]
 | true=>
  cases v with
  | false=>
   subst hinv;simp [hil,aF,hia,hib,hu,hv,ha,hb]
  | true=>
   simp only [Bool.and_self,if_true] at hinv;simp [hil,aF,hia,hib,hu,hv,ha,hb,w1];rw [ao];exact ⟨i+1,⟨by omega,hinv⟩,by omega,by simp,rfl⟩
theorem Ce {lk lim:Nat}{H:Heap}(g:Gm)(hl:g.ps.length<=1000000)(hr:∀p∈g.ps,p.r.length<=1000000)(hlk:lk<=H.length):aj X A lk lim 40 [gV g] H=some (Cc g,H):=by
 have kc:=fun (L:Nat)=>bN (lk:=lk) (lim:=L) (H:=H) g hl hr;have kp:=fun (L:Nat)=>yX (lk:=lk) (lim:=L) (H:=H) g hl hr hlk;have kr:=fun (L:Nat)=>Cb (lk:=lk) (lim:=L) (H:=H) g hl hr hlk;refine ar [1] rfl A40 rfl rfl ?_;unfold Oi;unfold Cc redP;by_cases hc:chkE g=0;case neg=>
  rw [if_neg hc];obtain ⟨t,n,k,ps⟩:=g;simp only [gV,Gm.cells] at kc;generalize aj X A=C at kc |-;simp [Gm.cells,kc,hc]
 have ok:=br hc;rw [if_pos hc];rw [hc] at kc;have ha:=fZ g true;have hb:=qY g;unfold jG at kp;unfold B9 at kr;rw [if_pos hc] at kp kr;generalize derM g true=a at ha kp |-;generalize yY g=b at hb kr |-;obtain ⟨t,n,k,ps⟩:=g;obtain ⟨t1,t2,n1,n2,k1,k2,l1,l2,okp⟩:=ok;simp only at t1 t2 n1 n2 k1 k2 l1 l2 okp;obtain ⟨n,rfl⟩:=Int.eq_ofNat_of_zero_le (by omega:0<=n)
 simp only [gV,Gm.cells,Int.toNat_natCast] at kc kp kr ha hb |-;generalize aj X A=C at kc kp kr |-;obtain ⟨res,hres⟩:∃res,oQ a b n 0=res:=⟨_,rfl⟩;rw [hres];simp [kc,kp,kr]
 let bx:AV:=.box [I t,I n,I k,.sl ps.length (psC ps)]
 refine ax (σ:=Nat) (fun i=>[(1,bx),(4,.sl n (bools a)),(5,.sl n (bools b)),(6,I i)]) (fun _=>H)
  (fun i=>i<=n/\oQ a b (n - i) i=res) (fun i=>n - i) ?_ 0 (by simp [hres]) (by simp [bx]) rfl
 rintro i ⟨hi,hinv⟩;unfold Kg;have w1:IntKind.i64.wrap ((i:Int)+1)=(i:Int)+1:=au (by omega) (by omega)
 by_cases hil:i < n;case neg=>
  obtain rfl:i=n:=by omega
  rw [Nat.sub_self] at hinv;subst hinv;simp [oQ,bx]
 have hia:i < a.length:=by omega
 have hib:i < b.length:=by omega
 rw [show n - i=(n - (i+1))+1 by omega,oQ,bV hia,bV hib] at hinv
 obtain ⟨u,hu⟩:∃u,a[i]=u:=⟨_,rfl⟩;obtain ⟨v,hv⟩:∃v,b[i]=v:=⟨_,rfl⟩;rw [hu,hv] at hinv;cases u with
 | false=>
  subst hinv;simp [bx,hil,aF,hia,hib,hu,ha]
 | true=>
  cases v with
  | false=>
   subst hinv;simp [bx,hil,aF,hia,hib,hu,hv,ha,hb]
  | true=>
   simp only [Bool.and_self,if_true] at hinv;simp [bx,hil,aF,hia,hib,hu,hv,ha,hb,w1];rw [ao];exact ⟨i+1,⟨by omega,hinv⟩,by omega,by simp [bx],rfl⟩

abbrev tr (o:List Bool)(i:Nat):Prop:=o.getD i false=true
def Le (o o':List Bool):Prop:=∀i,tr o i->tr o' i
theorem FP {o:List Bool}{i j:Nat}(h:tr o j):tr (o.set i true) j:=by
 unfold tr at *;rw [List.getD_eq_getElem?_getD] at *;rw [List.getElem?_set];split
 ·split
  ·rfl
  ·rename_i h1 h2;subst h1;rw [List.getElem?_eq_none (by omega)] at h
   simp at h
 ·exact h
theorem qZ {o:List Bool}{i j:Nat}(h:tr (o.set i true) j):j=i\/tr o j:=by
 unfold tr at *;rw [List.getD_eq_getElem?_getD] at *;rw [List.getElem?_set] at h;split at h
 ·rename_i h1;exact .inl h1.symm
 ·exact .inr h
theorem jI {o:List Bool}{i:Nat}(h:i < o.length):tr (o.set i true) i:=by
 unfold tr;rw [List.getD_eq_getElem?_getD,List.getElem?_set,if_pos rfl,if_pos h];rfl
theorem Mi {g:Gm}{tok tok':Bool}{o o':List Bool}(ht:tok=true->tok'=true)(h:Le o o'){s:Int}(hs:okS g tok o s=true):okS g tok' o' s=true:=by
 unfold okS at *;split at hs
 ·rename_i h1;rw [if_pos h1];exact ht hs
 ·rename_i h1;rw [if_neg h1];exact h _ hs
theorem FQ {g:Gm}{tok tok':Bool}{o o':List Bool}(ht:tok=true->tok'=true)(h:Le o o'){r:List Int}(hr:r.all (okS g tok o)=true):r.all (okS g tok' o')=true:=by
 rw [List.all_eq_true] at *;exact fun s hs=>Mi ht h (hr s hs)
theorem IY (g:Gm)(tok:Bool)(o:List Bool)(p:Pr):Le o (ek g tok o p):=fun i h=>by
 unfold ek;split
 ·exact h
 ·split
  ·exact FP h
  ·exact h
theorem mQ {g:Gm}{tok:Bool}(Q:List Bool->Prop)(hq:∀o,∀p∈g.ps,Q o->Q (ek g tok o p))(h0:Q (List.replicate g.n.toNat false)):Q (derM g tok):=
 iI (bu (fun p=>dg g tok p) g.ps) Q (fun o h=>iT Q g.ps hq g.ps (fun _ h=>h) o h) _ _ (Nat.le_refl _) h0
theorem pt (n i:Nat):¬tr (List.replicate n false) i:=fun h=>by
 unfold tr at h;rw [List.getD_eq_getElem?_getD,List.getElem?_replicate] at h;split at h<;>simp at h
theorem yZ (g:Gm)(tok:Bool):∀p∈g.ps,ek g tok (derM g tok) p=derM g tok:=
 il (fun p=>dg g tok p) g.ps _ (uf (bu (fun p=>dg g tok p) g.ps) _ _ (Nat.le_refl _))
theorem wR {g:Gm}(ok:GOk g)(tok:Bool)(p:Pr)(hp:p∈g.ps)(h:p.r.all (okS g tok (derM g tok))=true):tr (derM g tok) p.l.toNat:=by
 have hf:=yZ g tok p hp;unfold ek at hf;split at hf
 ·assumption
 ·rw [<-hf];have pok:=ok.p p hp;exact jI (by rw [fZ];have:=pok.l0;have:=pok.l1;omega)
theorem Cf (g:Gm)(tok:Bool)(i:Nat)(h:tr (derM g tok) i):∃p∈g.ps,p.l.toNat=i/\p.r.all (okS g tok (derM g tok))=true:=by
 refine mQ (g:=g) (tok:=tok) (fun o=>∀i,tr o i->∃p∈g.ps,p.l.toNat=i/\p.r.all (okS g tok o)=true) (fun o p hp ho i hi=>?_) (fun i hi=>absurd hi (pt _ _)) i h;have hle:=IY g tok o p;have old:tr o i->∃q∈g.ps,q.l.toNat=i/\q.r.all (okS g tok (ek g tok o p))=true:=fun h=>by
  obtain ⟨q,h1,h2,h3⟩:=ho i h;exact ⟨q,h1,h2,FQ (fun h=>h) hle h3⟩
 by_cases hio:tr o i
 ·exact old hio
 have hi2:=hi;unfold ek at hi2;split at hi2
 ·exact old hi2
 ·split at hi2
  ·rename_i ha;rcases qZ hi2 with h | h
   ·exact ⟨p,hp,h.symm,FQ (fun h=>h) hle ha⟩
   ·exact old h
  ·exact old hi2
end Go.Proofs.YtkllbcjanneppaaGreat
