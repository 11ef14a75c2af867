import Derived.Test.YtkllbcjanneppaaGreatT
import Derived.Test.YtkllbcjanneppaaGreatGA
set_option maxRecDepth 20000
set_option linter.all false
namespace Go.Proofs.YtkllbcjanneppaaGreat
open Go Go.Hm

def Pr.cells (p:Pr):List AV:=[I p.l,.sl p.r.length (ints p.r)]
def psC:List Pr->List AV
 | []=>[]
 | p::l=>p.cells++psC l
def Gm.cells (g:Gm):List AV:=[I g.t,I g.n,I g.k,.sl g.ps.length (psC g.ps)]
abbrev gV (g:Gm):AV:=.agg g.cells
theorem aY:∀l:List Pr,(psC l).length=2*l.length
 | []=>rfl
 | x::l=>by simp only[psC,Pr.cells,List.length_append,List.length_cons,List.length_nil,aY l];omega
theorem ww:∀(l:List Pr) (n:Nat),(psC l).drop (n*2)=psC (l.drop n)
 | [],n=>by simp[psC]
 | x::l,0=>by simp
 | x::l,n+1=>by
  rw[show (n+1)*2=2+n*2 by omega,<-List.drop_drop]
  simp only[psC,Pr.cells,List.drop_succ_cons,List.cons_append,List.nil_append,List.drop_zero];exact ww l n
theorem cd {l:List Pr}{i:Nat}(h:i<l.length):((psC l).drop (i*2)).take 2=l[i].cells:=by
 rw[ww,List.drop_eq_getElem_cons h];simp[psC,Pr.cells]
theorem Ad {l:List Pr}{i:Nat}(h:i<l.length)(j:Nat)(hj:j<2):(psC l)[i*2+j]?=l[i].cells[j]?:=by
 rw[<-cd h,List.getElem?_take,if_pos hj,List.getElem?_drop]
theorem Ae {l:List Pr}{i:Nat}(h:i<l.length):(psC l)[i*2]?=some (I l[i].l):=Ad h 0 (by omega)
theorem qF {l:List Pr}{i:Nat}(h:i<l.length):(psC l)[i*2+1]?=some (.sl l[i].r.length (ints l[i].r)):=Ad h 1 (by omega)

def d8 (g:Gm):Bool:=
 if 100<g.ps.length then false
 else if (g.ps.any fun p=>decide (5<p.r.length/\p.r.length<=8)||decide (100<p.r.length))=true then false
 else if 8<g.t\/16<g.n\/3<g.k\/64<g.ps.length then true
 else decide (g.t<=4/\g.n<=6/\g.ps.length<=14/\(g.k<=2\/g.t<=3))
theorem fU {lk lim:Nat}{H:Heap}(g:Gm):aj X A lk lim 17 [gV g] H=some (Bo (d8 g),H):=by
 refine ar [1] rfl A17 rfl rfl ?_;unfold Og;obtain⟨t,n,k,ps⟩:=g;by_cases h1:100<ps.length
 ·have h1':(100:Int)<ps.length:=by omega
  simp[Gm.cells,d8,h1,h1']
 have h1':¬(100:Int)<ps.length:=by omega
 simp[Gm.cells,h1,h1']
 let bx:AV:=.box [I t,I n,I k,.sl ps.length (psC ps)]
 let bad:Pr->Bool:=fun p=>decide (5<p.r.length/\p.r.length<=8)||decide (100<p.r.length)
 refine ax (σ:=Nat) (fun i=>[(1,bx),(3,I i)]) (fun _=>H) (fun i=>i<=ps.length/\ps.any bad=(ps.drop i).any bad) (fun i=>ps.length-i) ?_ 0 (by simp) (by simp[bx]) rfl
 rintro i ⟨hi,hinv⟩;unfold Kf;have w1:IntKind.i64.wrap ((i:Int)+1)=(i:Int)+1:=au (by omega) (by omega)
 by_cases hil:i<ps.length
 ·obtain⟨p,hp⟩:∃p,ps[i]=p:=⟨_,rfl⟩;have hr:=qF hil;rw[hp]at hr;have hl:=aY ps;rw[List.drop_eq_getElem_cons hil,hp,List.any_cons]at hinv;obtain⟨m,hm⟩:∃m,p.r.length=m:=⟨_,rfl⟩;rw[hm]at hr;by_cases c1:5<m
  ·have c1':(5:Int)<m:=by omega
   by_cases c2:m<=8
   ·have c2':(m:Int)<=8:=by omega
    have hb:ps.any bad=true:=by rw[hinv];simp[bad,hm,c1,c2]
    have hL:d8 ⟨t,n,k,ps⟩=false:=by unfold d8;rw[if_neg (by simp only;omega),if_pos (by exact hb)]
    simp[bx,hil,hr,c1',c2',hL]
   ·have c2':¬(m:Int)<=8:=by omega
    by_cases c3:100<m
    ·have c3':(100:Int)<m:=by omega
     have hb:ps.any bad=true:=by rw[hinv];simp[bad,hm,c3]
     have hL:d8 ⟨t,n,k,ps⟩=false:=by unfold d8;rw[if_neg (by simp only;omega),if_pos (by exact hb)]
     simp[bx,hil,hr,c1',c2',c3',hL]
    ·have c3':¬(100:Int)<m:=by omega
     have hb:bad p=false:=by simp[bad,hm];omega
     rw[hb,Bool.false_or]at hinv;simp[bx,hil,hr,c1',c2',c3',w1,ao];exact⟨i+1,⟨by omega,hinv⟩,by omega,by simp⟩
  ·have c1':¬(5:Int)<m:=by omega
   have c3':¬(100:Int)<m:=by omega
   have hb:bad p=false:=by simp[bad,hm];omega
   rw[hb,Bool.false_or]at hinv;simp[bx,hil,hr,c1',c3',w1,ao];exact⟨i+1,⟨by omega,hinv⟩,by omega,by simp⟩
 ·obtain rfl:i=ps.length:=by omega
  rw[List.drop_length]at hinv;have hb:ps.any bad=false:=hinv;have hL:d8 ⟨t,n,k,ps⟩=if 8<t\/16<n\/3<k\/64<ps.length then true else decide (t<=4/\n<=6/\ps.length<=14/\(k<=2\/t<=3)):=by
   unfold d8;rw[if_neg (by simp only;omega),if_neg (by rw[show (ps.any fun p=>decide (5<p.r.length/\p.r.length<=8)||decide (100<p.r.length))=false from hb];simp)]
  rw[hL];by_cases c1:8<t
  ·simp[bx,c1]
  by_cases c2:16<n
  ·simp[bx,c1,c2]
  by_cases c3:3<k
  ·simp[bx,c1,c2,c3]
  by_cases c4:64<ps.length
  ·have c4':(64:Int)<ps.length:=by omega
   simp[bx,c1,c2,c3,c4,c4']
  have c4':¬(64:Int)<ps.length:=by omega
  rw[if_neg (by omega)]
  by_cases d1:t<=4;case neg=>
   have:decide (t<=4/\n<=6/\ps.length<=14/\(k<=2\/t<=3))=false:=decide_eq_false (by omega)
   rw[this];simp[bx,c1,c2,c3,c4',d1]
  by_cases d2:n<=6;case neg=>
   have:decide (t<=4/\n<=6/\ps.length<=14/\(k<=2\/t<=3))=false:=decide_eq_false (by omega)
   rw[this];simp[bx,c1,c2,c3,c4',d1,d2]
  by_cases d3:ps.length<=14;case neg=>
   have d3':¬(ps.length:Int)<=14:=by omega
   have:decide (t<=4/\n<=6/\ps.length<=14/\(k<=2\/t<=3))=false:=decide_eq_false (by omega)
   rw[this];simp[bx,c1,c2,c3,c4',d1,d2,d3']
  have d3':(ps.length:Int)<=14:=by omega
  by_cases d4:k<=2
  ·have:decide (t<=4/\n<=6/\ps.length<=14/\(k<=2\/t<=3))=true:=decide_eq_true (by omega)
   rw[this];simp[bx,c1,c2,c3,c4',d1,d2,d3',d4]
  by_cases d5:t<=3
  ·have:decide (t<=4/\n<=6/\ps.length<=14/\(k<=2\/t<=3))=true:=decide_eq_true (by omega)
   rw[this];simp[bx,c1,c2,c3,c4',d1,d2,d3',d4,d5]
  ·have:decide (t<=4/\n<=6/\ps.length<=14/\(k<=2\/t<=3))=false:=decide_eq_false (by omega)
   rw[this];simp[bx,c1,c2,c3,c4',d1,d2,d3',d4,d5]

def iM {α:Type}(P:α->Bool):List α->Int->Int
 | [],_=>-1
 | x::l,i=>if P x=true then i else iM P l (i+1)
def NoP (Y:Orc):Prop:=∀f:FuncId,(Nat.beq f 105||Nat.beq f 99||Nat.beq f 60||Nat.beq f 10||Nat.beq f 32)=false->∀lk lim l H,Y lk lim f l H=none
theorem mh:NoP X0:=fun f h lk lim l H=>by
 simp only[Bool.or_eq_false_iff]at h;show eM 105 99 noX lk lim f l H=none;unfold eM;rw[if_neg (fun e=>by subst e;exact absurd h.1.1.1.1 (by decide)),if_neg (fun e=>by subst e;exact absurd h.1.1.1.2 (by decide))]
 rfl
theorem wx:NoP X:=fun f h lk lim l H=>by
 have h0:=mh f h lk lim l H;simp only[Bool.or_eq_false_iff]at h;show bU 60 fw (bU 10 exG (dn 32 yr X0)) lk lim f l H=none;unfold bU;rw[if_neg (fun e=>by subst e;exact absurd h.1.1.2 (by decide)),if_neg (fun e=>by subst e;exact absurd h.1.2 (by decide))]
 unfold dn;rw[if_neg (fun e=>by subst e;exact absurd h.2 (by decide))]
 exact h0
theorem mi {α:Type}(P:α->Bool):∀(l:List α) (i:Int),0<=i->(decide (0<=iM P l i)=l.any P)
 | [],i,h=>by simp[iM]
 | x::l,i,h=>by
  have ih:=mi P l (i+1) (by omega)
  simp only[iM,List.any_cons];by_cases hp:P x=true
  ·simp[hp,h]
  ·simp only[hp,if_false,Bool.false_eq_true];rw[ih];simp[hp]
theorem mj (v:Value):a7 (.val v)=true:=rfl
theorem uw (c:List AV):a7 (.agg c)=true:=rfl
theorem yx {Y:Orc}{lk lim:Nat}{H:Heap}{f:FuncId}{cap:List AV}(l:List Int)(P:Int->Bool)(hl:l.length<=1000000)(hc:cap.all a7=true)(hP:∀x∈l,aj Y A lk H.length f (I x::cap) H=some (Bo (P x),H))(hY:NoP Y:=by first | exact wx | exact mh):
  aj Y A lk lim 97 [.sl l.length (ints l),.fn f cap] H=some (I (iM P l 0),H):=by
 refine ar [] (hY _ rfl _ _ _ _) A97 rfl rfl ?_;unfold NI;simp;refine ax (σ:=Nat) (fun i=>[(0,.sl l.length (ints l)),(1,.fn f cap),(7,I l.length),(8,I i)]) (fun _=>H)
  (fun i=>i<=l.length/\iM P (l.drop i) i=iM P l 0) (fun i=>l.length-i) ?_ 0 (by simp) (by simp) rfl
 rintro i ⟨hi,hinv⟩;unfold JU;have w:IntKind.i64.wrap ((i:Int)+1)=(i:Int)+1:=au (by omega) (by omega)
 by_cases hil:i<l.length
 ·obtain⟨x,hx⟩:∃x,l[i]=x:=⟨_,rfl⟩;have hp:=hP x (hx▸List.getElem_mem hil);rw[List.drop_eq_getElem_cons hil,hx]at hinv;simp only[iM]at hinv;cases hpx:P x with
  | true=>
   rw[hpx]at hp hinv;rw[if_pos rfl]at hinv;rw[<-hinv];generalize aj Y A=C at hp |-;simp[-a7,mj,hil,hx,hp,hc]
  | false=>
   rw[hpx]at hp hinv;rw[if_neg (by simp)]at hinv
   generalize aj Y A=C at hp |-;simp[-a7,mj,hil,hx,hp,hc,w,ao];exact⟨i+1,⟨by omega,hinv⟩,by omega,by simp⟩
 ·obtain rfl:i=l.length:=by omega
  rw[List.drop_length]at hinv;simp only[iM]at hinv;rw[<-hinv];simp
theorem lx {Y:Orc}{lk lim:Nat}{H:Heap}{f:FuncId}{cap:List AV}(l:List Int)(P:Int->Bool)(hl:l.length<=1000000)(hc:cap.all a7=true)(hP:∀x∈l,aj Y A lk H.length f (I x::cap) H=some (Bo (P x),H))(hY:NoP Y:=by first | exact wx | exact mh):
  aj Y A lk lim 72 [.sl l.length (ints l),.fn f cap] H=some (Bo (l.any P),H):=by
 have k:=yx (hY:=hY) (lim:=H.length) l P hl hc hP;have ha:=mi P l 0 (Int.le_refl _);refine ar [] (hY _ rfl _ _ _ _) A72 rfl rfl ?_;unfold NH;generalize aj Y A=C at k |-;simp[k,ha]
theorem yy {Y:Orc}{lk lim:Nat}{H:Heap}{f:FuncId}{cap:List AV}(l:List Pr)(P:Pr->Bool)(hl:l.length<=1000000)(hc:cap.all a7=true)(hP:∀x∈l,aj Y A lk H.length f (.agg x.cells::cap) H=some (Bo (P x),H))(hY:NoP Y:=by first | exact wx | exact mh):
  aj Y A lk lim 96 [.sl l.length (psC l),.fn f cap] H=some (I (iM P l 0),H):=by
 refine ar [] (hY _ rfl _ _ _ _) A96 rfl rfl ?_;unfold ND;simp;refine ax (σ:=Nat) (fun i=>[(0,.sl l.length (psC l)),(1,.fn f cap),(7,I l.length),(8,I i)]) (fun _=>H)
  (fun i=>i<=l.length/\iM P (l.drop i) i=iM P l 0) (fun i=>l.length-i) ?_ 0 (by simp) (by simp) rfl
 rintro i ⟨hi,hinv⟩;unfold JT;have w:IntKind.i64.wrap ((i:Int)+1)=(i:Int)+1:=au (by omega) (by omega)
 by_cases hil:i<l.length
 ·obtain⟨x,hx⟩:∃x,l[i]=x:=⟨_,rfl⟩;have hp:=hP x (hx▸List.getElem_mem hil);have hs:=cd hil;have hll:=aY l;have h2:i*2+2<=2*l.length:=by omega
  rw[hx]at hs;rw[List.drop_eq_getElem_cons hil,hx]at hinv;simp only[iM]at hinv;cases hpx:P x with
  | true=>
   rw[hpx]at hp hinv;rw[if_pos rfl]at hinv;rw[<-hinv];generalize aj Y A=C at hp |-;simp[-a7,mj,uw,hil,hs,hll,h2,hp,hc]
  | false=>
   rw[hpx]at hp hinv;rw[if_neg (by simp)]at hinv
   generalize aj Y A=C at hp |-;simp[-a7,mj,uw,hil,hs,hll,h2,hp,hc,w,ao];exact⟨i+1,⟨by omega,hinv⟩,by omega,by simp⟩
 ·obtain rfl:i=l.length:=by omega
  rw[List.drop_length]at hinv;simp only[iM]at hinv;rw[<-hinv];simp
theorem yz {Y:Orc}{lk lim:Nat}{H:Heap}{f:FuncId}{cap:List AV}(l:List Pr)(P:Pr->Bool)(hl:l.length<=1000000)(hc:cap.all a7=true)(hP:∀x∈l,aj Y A lk H.length f (.agg x.cells::cap) H=some (Bo (P x),H))(hY:NoP Y:=by first | exact wx | exact mh):
  aj Y A lk lim 70 [.sl l.length (psC l),.fn f cap] H=some (Bo (l.any P),H):=by
 have k:=yy (hY:=hY) (lim:=H.length) l P hl hc hP;have ha:=mi P l 0 (Int.le_refl _);refine ar [] (hY _ rfl _ _ _ _) A70 rfl rfl ?_;unfold NC;generalize aj Y A=C at k |-;simp[k,ha]

def du (g:Gm)(s:Int):Bool:=decide (s<0)||decide (g.t+g.n<=s)
def jz (g:Gm)(p:Pr):Bool:=decide (p.l<0)||decide (g.n<=p.l)||p.r.any (du g)
def chkE (g:Gm):Int:=
 if 8<g.t\/16<g.n\/3<g.k\/64<g.ps.length then 3
 else if (g.ps.any fun p=>decide (8<p.r.length))=true then 3
 else if g.t<1\/g.n<1\/g.k<1\/g.ps.length<1 then 2
 else if g.ps.any (jz g)=true then 2 else 0
theorem EW {Y:Orc}{lk lim:Nat}{H:Heap}(p:Pr)(hY:NoP Y:=by first | exact wx | exact mh):aj Y A lk lim 71 [.agg p.cells] H=some (Bo (decide (8<p.r.length)),H):=by
 refine ar [1] (hY _ rfl _ _ _ _) A71 rfl rfl ?_;unfold NF;have h:decide ((8:Int)<p.r.length)=decide (8<p.r.length):=by
  rw[Bool.eq_iff_iff];simp;omega
 simp[Pr.cells,h]
theorem EX {Y:Orc}{lk lim:Nat}{H:Heap}{g:Gm}{b:Nat}(hb:H[b]?=some (.cells g.cells))(hw:IntKind.i64.wrap (g.t+g.n)=g.t+g.n)(s:Int)(hY:NoP Y:=by first | exact wx | exact mh):aj Y A lk lim 73 [I s,.hp b 4 0] H=some (Bo (du g s),H):=by
 refine ar [] (hY _ rfl _ _ _ _) A73 rfl rfl ?_;unfold NG;unfold Gm.cells at hb;unfold du;by_cases h:s<0
 ·simp[h]
 ·simp[h,hb,hw]
theorem EY (t n k m:Int):(if m<(if k<(if n<t then n else t) then k else (if n<t then n else t)) then m else (if k<(if n<t then n else t) then k else (if n<t then n else t)))<1↔t<1\/n<1\/k<1\/m<1:=by
 split<;>split<;>split<;>omega
theorem ck {Y:Orc}{lk lim:Nat}{H:Heap}(g:Gm)(hl:g.ps.length<=1000000)(hr:∀p∈g.ps,p.r.length<=1000000)(hY:NoP Y:=by first | exact wx | exact mh):aj Y A lk lim 48 [gV g] H=some (I (chkE g),H):=by
 have k1:=fun L=>yz (hY:=hY) (lk:=lk) (lim:=L) (H:=H++[.cells g.cells]) (f:=71) (cap:=[]) g.ps (fun p=>decide (8<p.r.length)) hl rfl (fun p _=>EW (hY:=hY) p);have k2:=fun (L:Nat) (hw:IntKind.i64.wrap (g.t+g.n)=g.t+g.n) (p:Pr) (hp:p∈g.ps)=>lx (hY:=hY) (lk:=lk) (lim:=L) (H:=H++[.cells g.cells]) (f:=73) (cap:=[.hp H.length 4 0]) p.r (du g) (hr p hp) rfl (fun s _=>EX (hY:=hY) (by simp) hw s)
 refine ar [4] (hY _ rfl _ _ _ _) A48 rfl rfl ?_;unfold NB;obtain⟨t,n,k,ps⟩:=g;simp only[Gm.cells]at hl hr k1 k2 |-;have e0:∀c:Bool,chkE ⟨t,n,k,ps⟩=chkE ⟨t,n,k,ps⟩:=fun _=>rfl;by_cases c1:8<t
 ·have e:chkE ⟨t,n,k,ps⟩=3:=by unfold chkE;rw[if_pos (by simp only;omega)]
  rw[e];simp[Gm.cells,c1]
 by_cases c2:16<n
 ·have e:chkE ⟨t,n,k,ps⟩=3:=by unfold chkE;rw[if_pos (by simp only;omega)]
  rw[e];simp[Gm.cells,c1,c2]
 by_cases c3:3<k
 ·have e:chkE ⟨t,n,k,ps⟩=3:=by unfold chkE;rw[if_pos (by simp only;omega)]
  rw[e];simp[Gm.cells,c1,c2,c3]
 by_cases c4:64<ps.length
 ·have e:chkE ⟨t,n,k,ps⟩=3:=by unfold chkE;rw[if_pos (by simp only;omega)]
  have c4':(64:Int)<ps.length:=by omega
  rw[e];simp[Gm.cells,c1,c2,c3,c4']
 have c4':¬(64:Int)<ps.length:=by omega
 have e1:chkE ⟨t,n,k,ps⟩=if (ps.any fun p=>decide (8<p.r.length))=true then 3 else if t<1\/n<1\/k<1\/ps.length<1 then 2 else if ps.any (jz ⟨t,n,k,ps⟩)=true then 2 else 0:=by
  rw[chkE,if_neg (by simp only;omega)]
 rw[e1];cases c5:(ps.any fun p=>decide (8<p.r.length)) with
 | true=>
  rw[c5]at k1;generalize aj Y A=C at k1 |-;simp[Gm.cells,c1,c2,c3,c4',k1]
 | false=>
  rw[c5]at k1;rw[if_neg (show ¬(false=true) by simp)]
  by_cases c6:t<1\/n<1\/k<1\/ps.length<1
  ·have c6':=(EY t n k ps.length).2 (by omega)
   rw[if_pos c6];generalize aj Y A=C at k1 |-;simp[Gm.cells,c1,c2,c3,c4',k1,bZ,c6']
   done
  ·have c6':¬_:=fun h=>c6 (by have:=(EY t n k ps.length).1 h;omega)
   rw[if_neg c6];have k2:=fun L=>k2 L (au (by omega) (by omega))
   obtain⟨bb,hbb⟩:∃bb,ps.any (jz ⟨t,n,k,ps⟩)=bb:=⟨_,rfl⟩;rw[hbb];simp[Gm.cells,c1,c2,c3,c4',k1,bZ,c6'];refine ax (σ:=Nat) (fun i=>[(1,.hp H.length 4 0),(39,.sl ps.length (psC ps)),(40,I ps.length),(41,I i)]) (fun _=>H++[.cells [I t,I n,I k,.sl ps.length (psC ps)]])
    (fun i=>i<=ps.length/\bb=(ps.drop i).any (jz ⟨t,n,k,ps⟩)) (fun i=>ps.length-i) ?_ 0 ⟨by omega,by rw[<-hbb];rfl⟩ (by simp) rfl
   rintro i ⟨hi,hinv⟩;unfold JS;have w:IntKind.i64.wrap ((i:Int)+1)=(i:Int)+1:=au (by omega) (by omega)
   by_cases hil:i<ps.length;case neg=>
    obtain rfl:i=ps.length:=by omega
    rw[List.drop_length]at hinv;have hinv:bb=false:=hinv;rw[hinv];simp
   obtain⟨p,hp⟩:∃p,ps[i]=p:=⟨_,rfl⟩;have hpm:p∈ps:=hp▸List.getElem_mem hil;have hs:=cd hil;have hll:=aY ps;have h2:i*2+2<=2*ps.length:=by omega
   rw[hp]at hs;simp only[Pr.cells]at hs;rw[List.drop_eq_getElem_cons hil,hp,List.any_cons]at hinv;have k3:=k2 H.length p hpm;generalize aj Y A=C at k3 |-;simp[-bd,hil,hll,hs,h2];rw[bd];unfold jz at hinv;simp only at hinv;by_cases d1:p.l<0
   ·rw[decide_eq_true d1]at hinv;simp only[Bool.true_or]at hinv;simp[an,d1,hinv]
   rw[decide_eq_false d1]at hinv;by_cases d2:n<=p.l
   ·rw[decide_eq_true d2]at hinv;simp only[Bool.true_or,Bool.false_or]at hinv;simp[an,d1,d2,hinv]
   rw[decide_eq_false d2]at hinv;cases d3:p.r.any (du ⟨t,n,k,ps⟩) with
   | true=>
    rw[d3]at hinv k3;simp only[Bool.true_or,Bool.false_or]at hinv;simp[an,d1,d2,k3,hinv]
   | false=>
    rw[d3]at hinv k3;simp only[Bool.false_or]at hinv;simp[an,d1,d2,k3,w,ao];exact⟨i+1,⟨by omega,hinv⟩,by omega,by simp⟩

theorem uy {α:Type}(P:α->Bool):([]:List α).any P=false:=rfl
theorem bN {lk lim:Nat}{H:Heap}(g:Gm)(hl:g.ps.length<=1000000)(hr:∀p∈g.ps,p.r.length<=1000000):aj X A lk lim 39 [gV g] H=some (I (chkE g),H):=by
 refine ar [1,5] rfl A39 rfl rfl ?_;unfold Ns;obtain⟨t,n,k,ps⟩:=g;simp only at hl hr;by_cases c1:8<t
 ·have e:chkE ⟨t,n,k,ps⟩=3:=by unfold chkE;rw[if_pos (by simp only;omega)]
  rw[e];simp[Gm.cells,c1]
 by_cases c2:16<n
 ·have e:chkE ⟨t,n,k,ps⟩=3:=by unfold chkE;rw[if_pos (by simp only;omega)]
  rw[e];simp[Gm.cells,c1,c2]
 by_cases c3:3<k
 ·have e:chkE ⟨t,n,k,ps⟩=3:=by unfold chkE;rw[if_pos (by simp only;omega)]
  rw[e];simp[Gm.cells,c1,c2,c3]
 by_cases c4:64<ps.length
 ·have e:chkE ⟨t,n,k,ps⟩=3:=by unfold chkE;rw[if_pos (by simp only;omega)]
  have c4':(64:Int)<ps.length:=by omega
  rw[e];simp[Gm.cells,c1,c2,c3,c4']
 have c4':¬(64:Int)<ps.length:=by omega
 have e1:chkE ⟨t,n,k,ps⟩=if (ps.any fun p=>decide (8<p.r.length))=true then 3 else if t<1\/n<1\/k<1\/ps.length<1 then 2 else if ps.any (jz ⟨t,n,k,ps⟩)=true then 2 else 0:=by
  rw[chkE,if_neg (by simp only;omega)]
 rw[e1];obtain⟨b1,hb1⟩:∃b1,(ps.any fun p=>decide (8<p.r.length))=b1:=⟨_,rfl⟩;obtain⟨b2,hb2⟩:∃b2,ps.any (jz ⟨t,n,k,ps⟩)=b2:=⟨_,rfl⟩;rw[hb1,hb2];simp[Gm.cells,c1,c2,c3,c4']
 let bx:AV:=.box [I t,I n,I k,.sl ps.length (psC ps)]
 refine ax (σ:=Nat) (fun i=>[(1,bx),(3,I i)]) (fun _=>H) (fun i=>i<=ps.length/\b1=(ps.drop i).any fun p=>decide (8<p.r.length)) (fun i=>ps.length-i) ?_ 0 ⟨by omega,by rw[<-hb1];rfl⟩ (by simp[bx]) rfl
 rintro i ⟨hi,hinv⟩;unfold JJ;have w1:IntKind.i64.wrap ((i:Int)+1)=(i:Int)+1:=au (by omega) (by omega)
 by_cases hil:i<ps.length
 ·obtain⟨p,hp⟩:∃p,ps[i]=p:=⟨_,rfl⟩;have hr:=qF hil;rw[hp]at hr;rw[List.drop_eq_getElem_cons hil,hp,List.any_cons]at hinv;by_cases d1:8<p.r.length
  ·have d1':(8:Int)<p.r.length:=by omega
   rw[decide_eq_true d1,Bool.true_or]at hinv;simp[bx,hil,hr,d1',hinv]
  ·have d1':¬(8:Int)<p.r.length:=by omega
   rw[decide_eq_false d1,Bool.false_or]at hinv;simp[bx,hil,hr,d1',w1,ao];exact⟨i+1,⟨by omega,hinv⟩,by omega,by simp⟩
 obtain rfl:i=ps.length:=by omega
 rw[List.drop_length,uy]at hinv;subst hinv;by_cases f1:t<1
 ·simp[bx,f1]
 by_cases f2:n<1
 ·simp[bx,f1,f2]
 by_cases f3:k<1
 ·simp[bx,f1,f2,f3]
 by_cases f4:ps.length<1
 ·have f4':(ps.length:Int)<1:=by omega
  simp[bx,f1,f2,f3,f4,f4'];intro h;exact absurd (List.length_eq_zero_iff.1 (by omega)) h
 have f4':¬(ps.length:Int)<1:=by omega
 have wtn:IntKind.i64.wrap (t+n)=t+n:=au (by omega) (by omega)
 have hne:ps≠[]:=by intro h;rw[h]at f4;simp at f4
 simp[bx,f1,f2,f3,f4',hne];refine ax (σ:=Nat) (fun i=>[(1,bx),(4,I i)]) (fun _=>H) (fun i=>i<=ps.length/\b2=(ps.drop i).any (jz ⟨t,n,k,ps⟩)) (fun i=>ps.length-i) ?_ 0 ⟨by omega,by rw[<-hb2];rfl⟩ (by simp[bx]) rfl
 rintro i ⟨hi,hinv⟩;unfold JL;have w1:IntKind.i64.wrap ((i:Int)+1)=(i:Int)+1:=au (by omega) (by omega)
 by_cases hil:i<ps.length;case neg=>
  obtain rfl:i=ps.length:=by omega
  rw[List.drop_length,uy]at hinv;subst hinv;simp[bx]
 obtain⟨p,hp⟩:∃p,ps[i]=p:=⟨_,rfl⟩;have hrp:=hr p (hp▸List.getElem_mem hil);have hs:=cd hil;have hll:=aY ps;have h2:i*2+2<=2*ps.length:=by omega
 rw[hp]at hs;simp only[Pr.cells]at hs;rw[List.drop_eq_getElem_cons hil,hp,List.any_cons]at hinv;simp[-bd,bx,hil,hll,hs,h2];rw[bd];unfold jz at hinv;simp only at hinv;by_cases d1:p.l<0
 ·rw[decide_eq_true d1]at hinv;simp only[Bool.true_or]at hinv;subst hinv;simp[an,d1]
 rw[decide_eq_false d1]at hinv;by_cases d2:n<=p.l
 ·rw[decide_eq_true d2]at hinv;simp only[Bool.true_or,Bool.false_or]at hinv;subst hinv;simp[an,d1,d2]
 rw[decide_eq_false d2]at hinv;simp only[Bool.false_or]at hinv;simp[an,d1,d2];refine ax (σ:=Nat) (fun m=>[(1,bx),(4,I i),(5,.box [I p.l,.sl p.r.length (ints p.r)]),(6,I m)]) (fun _=>H)
  (fun m=>m<=p.r.length/\p.r.any (du ⟨t,n,k,ps⟩)=(p.r.drop m).any (du ⟨t,n,k,ps⟩)) (fun m=>p.r.length-m) ?_ 0 ⟨by omega,rfl⟩ (by simp[bx]) rfl
 rintro m ⟨hm,hinv2⟩;unfold JK;have w2:IntKind.i64.wrap ((m:Int)+1)=(m:Int)+1:=au (by omega) (by omega)
 by_cases hml:m<p.r.length;case neg=>
  obtain rfl:m=p.r.length:=by omega
  rw[List.drop_length,uy]at hinv2;rw[hinv2,Bool.false_or]at hinv;simp[bx,w1,ao];exact⟨i+1,⟨by omega,hinv⟩,by omega,by simp⟩
 obtain⟨s,hsx⟩:∃s,p.r[m]=s:=⟨_,rfl⟩;rw[List.drop_eq_getElem_cons hml,hsx,List.any_cons]at hinv2;unfold du at hinv2;simp only at hinv2;by_cases e1:s<0
 ·rw[decide_eq_true e1]at hinv2;simp only[Bool.true_or]at hinv2;have hb:b2=true:=by rw[hinv,show p.r.any (du ⟨t,n,k,ps⟩)=true from hinv2];rfl
  subst hb;simp[bx,hml,hsx,e1]
 rw[decide_eq_false e1]at hinv2;by_cases e2:t+n<=s
 ·rw[decide_eq_true e2]at hinv2;simp only[Bool.true_or,Bool.false_or]at hinv2;have hb:b2=true:=by rw[hinv,show p.r.any (du ⟨t,n,k,ps⟩)=true from hinv2];rfl
  subst hb;simp[bx,hml,hsx,e1,e2,wtn]
 rw[decide_eq_false e2]at hinv2;simp only[Bool.false_or]at hinv2;simp[bx,hml,hsx,e1,e2,wtn,w2,ao];exact⟨m+1,⟨by omega,hinv2⟩,by omega,by simp⟩
theorem br {g:Gm}(h:chkE g=0):GOk g:=by
 unfold chkE at h;split at h
 ·omega
 ·split at h
  ·omega
  ·split at h
   ·omega
   ·split at h
    ·omega
    ·rename_i h1 h2 h3 h4;simp only[Bool.not_eq_true,List.any_eq_false,decide_eq_true_eq]at h2 h4;refine⟨by omega,by omega,by omega,by omega,by omega,by omega,by omega,by omega,fun p hp=>?_⟩
     have h5:=h2 p hp;have h6:=h4 p hp;have h6:jz g p=false:=by simpa using h6
     simp only[jz,Bool.or_eq_false_iff,decide_eq_false_iff_not,List.any_eq_false]at h6;refine⟨by omega,by omega,by omega,fun x hx=>?_⟩
     have h7:=h6.2 x hx;simp only[du,Bool.or_eq_true,decide_eq_true_eq,not_or]at h7;omega

theorem fx (a:List UInt8):(⟨⟨a⟩⟩:ByteArray).toList=a:=by rw[ByteArray.toList_eq]
theorem uz (a b:List UInt8):eY .neq ⟨⟨a⟩⟩ ⟨⟨b⟩⟩=some (Bo (!(a==b))):=by
 simp only[eY,fx]
theorem qG (a b:List UInt8):eY .eql ⟨⟨a⟩⟩ ⟨⟨b⟩⟩=some (Bo (a==b)):=by
 simp only[eY,fx]
theorem ml (a:List UInt8):eY .neq ⟨⟨a⟩⟩ ⟨#[]⟩=some (Bo (!(a==[]))):=uz a []
theorem iP (a:List UInt8):eY .eql ⟨⟨a⟩⟩ ⟨#[]⟩=some (Bo (a==[])):=qG a []
theorem L5 (a b:List UInt8):eY .leq ⟨⟨a⟩⟩ ⟨⟨b⟩⟩=some (Bo (Op.bytesLess a b||a==b)):=by
 simp only[eY,fx]
theorem L6 (a b:List UInt8):(⟨⟨a⟩⟩:ByteArray)++⟨⟨b⟩⟩=⟨⟨a++b⟩⟩:=by
 apply ByteArray.ext;simp[ByteArray.data_append]
theorem qH {a b:List UInt8}(h:a.length+b.length<=9223372036854775807):eY .add ⟨⟨a⟩⟩ ⟨⟨b⟩⟩=some (Sg (a++b)):=by
 have hm:IntKind.i64.max=9223372036854775807:=by decide
 show (if (((a.length+b.length:Nat):Int)) > IntKind.i64.max then none else some (AV.val (.string (⟨⟨a⟩⟩++⟨⟨b⟩⟩))))=_;rw[hm,if_neg (by omega),L6]

theorem pg (c:UInt8):((c.toNat:Int)==255)=(c==255):=by
 rw[Bool.eq_iff_iff,beq_iff_eq,beq_iff_eq];constructor
 ·intro h;exact UInt8.toNat_inj.1 (by rw[show (255:UInt8).toNat=255 from rfl];omega)
 ·rintro rfl;rfl
theorem mq {x:List UInt8}(h:x≠[]):∃c,x[x.length-1]?=some c/\x.getLast?=some c:=by
 refine⟨x.getLast h,?_,List.getLast?_eq_some_getLast h⟩;rw[<-List.getLast?_eq_getElem?,List.getLast?_eq_some_getLast h]
theorem yA {lk lim:Nat}{H:Heap}(k:Nat)(x:List UInt8)(hx:x.length<=1000000000000000):aj X A lk lim 103 [I k,Sg x] H=some (Bo (cq k x),H):=by
 refine ar [] rfl PI rfl rfl ?_;unfold J7;by_cases h1:k<=x.length
 ·have h1':(k:Int)<=x.length:=by omega
  have hw:cq k x=true:=nA h1;rw[hw];simp[bo,h1,h1']
 have h1':¬(k:Int)<=x.length:=by omega
 by_cases h2:x=[]
 ·subst h2;have hw:cq k []=false:=by simp at h1;simp[cq];omega
  rw[hw];have hk:¬k=0:=by simp at h1;omega
  simp[bo,hk,ml]
 obtain⟨c,hc,hl⟩:=mq h2;have hpos:0<x.length:=List.length_pos_iff.2 h2;have w1:IntKind.i64.wrap ((x.length:Int)-1)=((x.length-1:Nat):Int):=by rw[au (by omega) (by omega)];omega
 have hw:cq k x=(c==255):=by simp[cq,h1,hl]
 have hx2:(x==[])=false:=by simp[h2]
 rw[hw];simp[bo,h1',ml,hx2,w1,ln,hc,pg]

def cV (ks:List (List UInt8))(x:List UInt8):List (List UInt8):=if x∈ks then ks else ks++[x]
def kJ (ks:List (List UInt8)):List (AV×AV):=ks.map fun x=>(Sg x,.agg [])
theorem wy {ks:List (List UInt8)}{x z:List UInt8}:z∈cV ks x↔z∈ks\/z=x:=by
 unfold cV;split
 ·rename_i h;constructor
  ·exact .inl
  ·rintro (h1 | rfl)
   ·exact h1
   ·exact h
 ·simp
theorem wz (ks:List (List UInt8))(x:List UInt8):(cV ks x).length<=ks.length+1:=by
 unfold cV;split<;>simp
theorem eqK (a b:List UInt8):eI false [2] (Sg a) (Sg b)=some (a==b):=by
 simp[eI,bH,fx]
theorem EZ (x:List UInt8):∀ks:List (List UInt8),fc false [2] (Sg x) (.agg []) (kJ ks)=some (kJ (cV ks x))
 | []=>by simp[kJ,cV,fc]
 | y::ks=>by
  have ih:=EZ x ks;show fc false [2] (Sg x) (.agg []) ((Sg y,.agg [])::kJ ks)=_;unfold fc;rw[eqK];by_cases h:x=y
  ·subst h;simp[kJ,cV]
  ·have hb:(x==y)=false:=by simp[h]
   rw[hb];simp only[ih];unfold cV;by_cases hm:x∈ks
   ·rw[if_pos hm,if_pos (List.mem_cons_of_mem _ hm)];rfl
   ·rw[if_neg hm,if_neg (by simp[h,hm])];rfl
theorem Af:∀ks:List (List UInt8),RU (kJ ks)=some ks
 | []=>rfl
 | x::ks=>by
  show RU ((Sg x,.agg [])::kJ ks)=_;simp only[RU,Af ks]

theorem Fa {lk lim:Nat}{H:Heap}{b:Nat}{ks:List (List UInt8)}(x:List UInt8)(hb:H[b]?=some (.map (kJ ks)))(hlk:lk<=b):
  aj X A lk lim 104 [.mp b,.sl 1 [Sg x]] H=some (.tup [],H.set b (.map (kJ (cV ks x)))):=by
 have hbl:b<H.length:=(List.getElem?_eq_some_iff.1 hb).1;have ha:a7 (.agg [])=true:=rfl;have hbel:Hm.below 0 (.agg [])=true:=rfl;have hko:dN false [2] (Sg x)=true:=by simp[dN,eqK]
 refine ar [] rfl PJ rfl rfl ?_;unfold J8;simp;refine ax (σ:=Nat) (fun i=>[(0,.mp b),(6,.sl 1 [Sg x]),(7,I 1),(8,I i)]) (fun i=>if i=0 then H else H.set b (.map (kJ (cV ks x)))) (fun i=>i<=1) (fun i=>1-i) ?_ 0 (by omega) (by simp[ab,find]) rfl
 intro i hi;unfold Ez;by_cases h0:i=0
 ·subst h0;simp[-jq,-ae];rw[ae];simp[-jq];rw[jq];simp[hb,EZ,hko,ha,hbel,hlk,ao];exact⟨1,by omega,by omega,by decide,fun h=>by omega⟩
 ·obtain rfl:i=1:=by omega
  simp;exact List.take_of_length_le (by simp)

def pl (ks l:List (List UInt8)):List (List UInt8):=l.foldl cV ks
theorem mr (ks l:List (List UInt8))(x:List UInt8):pl ks (l++[x])=cV (pl ks l) x:=by simp[pl]
theorem Fb (ks l m:List (List UInt8)):pl ks (l++m)=pl (pl ks l) m:=by simp[pl]
theorem jA:∀(l ks:List (List UInt8)),(pl ks l).length<=ks.length+l.length
 | [],ks=>by simp[pl]
 | x::l,ks=>by
  have h1:=jA l (cV ks x);have h2:=wz ks x;simp only[pl,List.foldl_cons,List.length_cons]at h1 |-;omega
theorem yB {z:List UInt8}:∀(l ks:List (List UInt8)),z∈pl ks l↔z∈ks\/z∈l
 | [],ks=>by simp[pl]
 | x::l,ks=>by
  have h1:=yB (z:=z) l (cV ks x);simp only[pl,List.foldl_cons]at h1 |-;rw[h1,wy,List.mem_cons,or_assoc]
theorem Fd {A l K:List (List UInt8)}(h:pl [] A=K):pl [] (A++l)=pl K l:=by rw[Fb,h]
theorem Ag (l:List (List UInt8)):bG (pl [] l)=bG l:=qp fun x=>by simp[yB]
theorem sB {l:List (List UInt8)}{i:Nat}(h:i<l.length):(ay l)[i]?=some (Sg l[i]):=by simp[ay,h]
theorem bE {l:List (List UInt8)}{i:Nat}(h:i<l.length):(ay l)[i]'(by simpa[ay] using h)=Sg l[i]:=by simp[ay]
theorem aW (l:List (List UInt8)):(ay l).length=l.length:=by simp[ay]
theorem ph (H:Heap)(x y:HB):(H++[x]).set H.length y=H++[y]:=by simp
theorem uA (H:Heap)(x:HB):(H++[x])[H.length]?=some x:=by simp
theorem ly (l:List UInt8)(a b:Nat):(⟨⟨l⟩⟩:ByteArray).extract a b=⟨⟨(l.take b).drop a⟩⟩:=by
 apply ByteArray.ext;simp[ByteArray.data_extract,List.drop_take]
theorem fy (lim:Nat)(H:Heap)(d:Nat)(l:List (List UInt8)):ep (frz lim H d) (ay l)=some (ay l):=by
 induction l with
 | nil=>rfl
 | cons a l ih=>
  simp only[ay,List.map_cons,ep,gC]at ih |-;rw[ih]
theorem c8 (lim:Nat)(l:List (List UInt8)):belowL lim (ay l)=true:=bD.2 fun a ha=>by
 unfold ay at ha;obtain⟨x,_,rfl⟩:=List.mem_map.1 ha;rfl
theorem lz (l:List (List UInt8))(n:Nat)(h:l.length<=n):(ay l).take n=ay l:=List.take_of_length_le (by simpa[ay] using h)
theorem wA (k:Nat)(x:List UInt8):x.take (min k x.length)=x.take k:=by
 rw[Nat.min_def];split
 ·rfl
 ·rw[List.take_length,List.take_of_length_le (by omega)]
def catV (k:Nat)(a b:List (List UInt8)):AV:=if b=[] then .e0 else rowsV (cat k a b)
def RV (v:AV)(l:List (List UInt8)):Prop:=v=rowsV l\/(v= .e0/\l=[])
theorem RV.cat (k:Nat)(a b:List (List UInt8)):RV (catV k a b) (cat k a b):=by
 unfold catV RV;split
 ·rename_i h;exact .inr ⟨rfl,by unfold Go.Proofs.YtkllbcjanneppaaGreat.cat;rw[if_pos h]⟩
 ·exact .inl rfl

attribute [simp] aW fy c8 lz
theorem mt (k:Nat)(b:List (List UInt8))(hb:b≠[]):∀a:List (List UInt8),(cU k a b).length<=a.length*b.length
 | []=>by simp[cU]
 | x::a=>by
  have ih:=mt k b hb a;have:=List.length_pos_iff.2 hb;have h1:cU k (x::a) b=(if cq k x=true then [x.take k] else b.map fun y=>(x++y).take k)++cU k a b:=by simp[cU]
  rw[h1,List.length_append,List.length_cons,Nat.succ_mul];split
  ·simp only[List.length_cons,List.length_nil];omega
  ·simp only[List.length_map];omega
theorem IJ {k:Nat}{a b:List (List UInt8)}(ha:∀x∈a,x.length<=1000000)(hb:∀x∈b,x.length<=1000000):∀z∈cU k a b,z.length<=2000000:=fun z hz=>by
 obtain⟨x,hx,h⟩:=List.mem_flatMap.1 hz;have h1:=ha x hx;split at h
 ·simp only[List.mem_singleton]at h;subst h;rw[List.length_take];omega
 ·obtain⟨y,hy,rfl⟩:=List.mem_map.1 h;have h2:=hb y hy;rw[List.length_take,List.length_append];omega
theorem yC (n m:Nat)(hn:n<=2000000)(hm:m<=2000000):n*m<=4000000000000:=Nat.le_trans (Nat.mul_le_mul hn hm) (by decide)
theorem sC (G:Heap)(K:List (List UInt8))(b:Nat)(hb:G[b]?=some (.map (kJ K)))(hl:K.length<=8000000000000)(he:∀z∈K,z.length<=9223372036854775807):gD [.mp b] G=some (rowsV (bG K),G):=by
 unfold gD;simp only[dw,hb,Af];rw[if_pos ⟨hl,List.all_eq_true.2 fun x hx=>decide_eq_true (he x hx)⟩]

section
variable {lk lim:Nat}{H:Heap}(hlk:lk<=H.length)(k:Nat)(a b:List (List UInt8))(hb0:b≠[])(hla:a.length<=2000000)(hlb:b.length<=2000000)(ha:∀x∈a,x.length<=1000000)(hb:∀x∈b,x.length<=1000000)
include hlk hb0 hla hlb ha hb
theorem BW (ki:Int)(hki:ki.toNat=k):aj X A lk lim 85 [I ki,rowsV a,rowsV b] H=some (rowsV (cat k a b),H):=by
 have kw:=fun (L:Nat) (G:Heap) (x:List UInt8) (hx:x.length<=1000000000000000)=>yA (lk:=lk) (lim:=L) (H:=G) k x hx;have kp:=fun (L:Nat) (ks:List (List UInt8)) (x:List UInt8)=>Fa (lk:=lk) (lim:=L) (H:=H++[.map (kJ ks)]) (b:=H.length) (ks:=ks) x (uA _ _) hlk;have kp:=fun (L:Nat) (ks:List (List UInt8)) (x:List UInt8)=>(kp L ks x).trans (by rw[ph])
 have ks:∀(L:Nat) (G:Heap) (m:AV) (r:AV×Heap),gD [m] G=some r->aj X A lk L 105 [m] G=some r:=fun L G m r h=>eB h;have hcl:=mt k b hb0 a;have hcm:=yC _ _ hla hlb;have ksr:=fun (L:Nat)=>ks L (H++[.map (kJ (pl [] (cU k a b)))]) (.mp H.length) _ (sC _ _ _ (uA _ _) (by have:=jA (cU k a b) [];simp at this;omega) fun z hz=>by
  have h1:=(yB _ _).1 hz;have h2:=IJ (k:=k) ha hb z (h1.resolve_left (by simp))
  omega)
 rw[Ag]at ksr;have hcat:cat k a b=bG (cU k a b):=if_neg hb0;refine ar [] rfl A85 rfl rfl ?_;unfold IE;generalize aj X A=C at kw kp ksr |-;have hbl:((b.length:Int)==0)=false:=by
  have:=List.length_pos_iff.2 hb0;simp;omega
 have hm:bZ true [I ki] .i64 0=some (.i64,(k:Int)):=by
  simp[bZ];omega
 have hmn:∀x:List UInt8,bZ false [I (x.length:Int)] .i64 k=some (.i64,((min k x.length:Nat):Int)):=fun x=>by
  simp[bZ];omega
 simp[aW,hbl,hm];refine ax (σ:=Nat) (fun i=>[(0,I k),(2,rowsV b),(7,.mp H.length),(19,rowsV a),(20,I a.length),(21,I i)]) (fun i=>H++[.map (kJ (pl [] (cU k (a.take i) b)))]) (fun i=>i<=a.length) (fun i=>a.length-i) ?_ 0 (by omega) (by simp[ab,find]) (by simp[cU,pl,kJ])
 intro i hi;unfold Ey;by_cases hil:i<a.length
 ·have hil':(i:Int)<a.length:=by omega
  have w1:IntKind.i64.wrap ((i:Int)+1)=(i:Int)+1:=au (by omega) (by omega)
  have ga:=bE hil;have hx:=ha a[i] (List.getElem_mem hil);have kw1:=fun (L:Nat) (G:Heap)=>kw L G a[i] (by omega)
  have hsn:cU k (a.take (i+1)) b=cU k (a.take i) b++(if cq k a[i]=true then [a[i].take k] else b.map fun y=>(a[i]++y).take k):=by
   unfold cU;rw[List.take_succ_eq_append_getElem hil,List.flatMap_append,List.flatMap_cons,List.flatMap_nil,List.append_nil]
  generalize a[i]=x at ga hx kw1 hsn;obtain⟨K,hK⟩:∃K,pl [] (cU k (a.take i) b)=K:=⟨_,rfl⟩;rw[hK];cases hw:cq k x with
  | true=>
   rw[hw]at kw1 hsn;rw[if_pos rfl]at hsn;have hmx:=hmn x;have hmk:min k x.length<=x.length:=Nat.min_le_right ..;have htk:=wA k x;generalize min k x.length=m at hmx hmk htk;simp[hil,hil',aW,ga,kw1,bo,hmx,ly,htk,kp,w1,ao,hmk,bnd];exact⟨i+1,by omega,by omega,by omega,by rw[hsn,mr,hK]⟩
  | false=>
   rw[hw]at kw1 hsn;rw[if_neg Bool.false_ne_true]at hsn;simp[hil,hil',aW,ga,kw1];refine ax (σ:=Nat) (fun j=>[(0,I k),(2,rowsV b),(7,.mp H.length),(9,Sg x),(19,rowsV a),(20,I a.length),(21,I i),(37,rowsV b),(38,I b.length),(39,I j)])
    (fun j=>H++[.map (kJ (pl K ((b.take j).map fun y=>(x++y).take k)))]) (fun j=>j<=b.length) (fun j=>b.length-j) ?_ 0 (by omega) (by simp[ab,find]) (by simp[pl])
   intro j hj;unfold J6;by_cases hjl:j<b.length
   ·have hjl':(j:Int)<b.length:=by omega
    have w2:IntKind.i64.wrap ((j:Int)+1)=(j:Int)+1:=au (by omega) (by omega)
    have gb:=bE hjl;have hy:=hb b[j] (List.getElem_mem hjl);have hsj:pl K ((b.take (j+1)).map fun y=>(x++y).take k)=cV (pl K ((b.take j).map fun y=>(x++y).take k)) ((x++b[j]).take k):=by
     rw[List.take_succ_eq_append_getElem hjl,List.map_append,List.map_cons,List.map_nil,mr]
    generalize b[j]=y at gb hy hsj;have hadd:=qH (a:=x) (b:=y) (by omega)
    have hmx:=hmn (x++y);have hmk:min k (x++y).length<=(x++y).length:=Nat.min_le_right ..;have htk:=wA k (x++y);generalize min k (x++y).length=m at hmx hmk htk;generalize x++y=z at hadd hmx hmk htk hsj;obtain⟨K2,hK2⟩:∃K2,pl K ((b.take j).map fun y=>(x++y).take k)=K2:=⟨_,rfl⟩;rw[hK2]at hsj |-;simp[hjl,hjl',aW,gb,hadd,bo,hmx,ly,htk,kp,w2,ao,hmk,bnd];exact⟨j+1,by omega,by omega,by omega,by rw[<-List.map_take,hsj]⟩
   ·obtain rfl:j=b.length:=by omega
    rw[List.take_length,<-Fd hK,<-hsn];simp[w1,ao];exact⟨i+1,by omega,by omega,by omega,rfl⟩
 ·obtain rfl:i=a.length:=by omega
  simp[ksr,hcat,List.take_length]
end
theorem mw {lk lim:Nat}{H:Heap}(hlk:lk<=H.length)(k:Int){va vb:AV}{a b:List (List UInt8)}(hva:RV va a)(hvb:RV vb b)(hla:a.length<=2000000)(hlb:b.length<=2000000)(ha:∀x∈a,x.length<=1000000)(hb:∀x∈b,x.length<=1000000):
  aj X A lk lim 85 [I k,va,vb] H=some (catV k.toNat a b,H):=by
 by_cases hb0:b=[]
 ·subst hb0;rw[show catV k.toNat a []= .e0 from if_pos rfl];rcases hva with rfl | ⟨rfl,rfl⟩<;>rcases hvb with rfl | ⟨rfl,_⟩;all_goals
   refine ar [] rfl A85 rfl rfl ?_;unfold IE;generalize aj X A=C;simp
 ·have hbv:vb=rowsV b:=by
   rcases hvb with rfl | ⟨_,e⟩
   ·rfl
   ·exact absurd e hb0
  subst hbv;have hcv:catV k.toNat a b=rowsV (cat k.toNat a b):=if_neg hb0;rw[hcv];rcases hva with rfl | ⟨rfl,rfl⟩
  ·exact BW hlk k.toNat a b hb0 hla hlb ha hb k rfl
  ·have ksr:∀(L:Nat),aj X A lk L 105 [.mp H.length] (H++[.map []])=some (rowsV [],H++[.map []]):=fun L=>eB (sC _ [] _ (uA _ _) (by simp) (by simp))
   have hbl:((b.length:Int)==0)=false:=by
    have:=List.length_pos_iff.2 hb0;simp;omega
   have hm:bZ true [I k] .i64 0=some (.i64,(k.toNat:Int)):=by
    simp[bZ];omega
   have hcat:cat k.toNat [] b=[]:=by simp[cat,cU,bG]
   rw[hcat];refine ar [] rfl A85 rfl rfl ?_;unfold IE;generalize aj X A=C at ksr |-;simp[hbl,hm];refine ax (σ:=Unit) (fun i=>[(0,I k.toNat),(2,rowsV b),(7,.mp H.length),(19,.e0),(20,I 0),(21,I 0)]) (fun i=>H++[.map []]) (fun i=>True) (fun i=>0) ?_ () trivial (by simp[ab,find]) (by simp)
   intro i _;unfold Ey;simp[ksr]

theorem qI:∀l:List (List UInt8),fO (ay l)=some l
 | []=>rfl
 | x::l=>by
  show fO (Sg x::ay l)=_;simp only[fO,qI l]
theorem my {H:Heap}{v:AV}{l:List (List UInt8)}(h:RV v l):bh H v=some (ay l)/\slN v=l.length:=by
 rcases h with rfl | ⟨rfl,rfl⟩
 ·exact⟨rfl,rfl⟩
 ·exact⟨rfl,rfl⟩
theorem qJ {lk lim:Nat}{H:Heap}{va vb:AV}{a b:List (List UInt8)}(ha:RV va a)(hb:RV vb b)(hl:a.length+b.length<=8000000000000):aj X A lk lim 99 [va,vb] H=some (rowsV (uni a b),H):=by
 refine eB ?_;have h1:=my (H:=H) ha;have h2:=my (H:=H) hb;show lu [va,vb] H=_;unfold lu;simp only[h1.1,h2.1,qI];rw[if_pos ⟨h1.2.symm,h2.2.symm,hl⟩];rfl
theorem yD {lk lim:Nat}{H:Heap}(l:List (List UInt8))(x:List UInt8)(hl:l.length<=1000000000):aj X A lk lim 115 [rowsV l,Sg x] H=some (I (iM (fun y=>x==y) l 0),H):=by
 refine ar [] rfl Oy rfl rfl ?_;unfold EL;generalize aj X A=C;simp;refine ax (σ:=Nat) (fun i=>[(0,rowsV l),(1,Sg x),(7,I l.length),(8,I i)]) (fun _=>H)
  (fun i=>i<=l.length/\iM (fun y=>x==y) (l.drop i) i=iM (fun y=>x==y) l 0) (fun i=>l.length-i) ?_ 0 (by simp) (by simp[ab,find]) rfl
 rintro i ⟨hi,hinv⟩;unfold yw;have w:IntKind.i64.wrap ((i:Int)+1)=(i:Int)+1:=au (by omega) (by omega)
 by_cases hil:i<l.length
 ·have ga:=bE hil;rw[List.drop_eq_getElem_cons hil]at hinv;generalize l[i]=y at ga hinv;simp only[iM]at hinv;have he:=qG x y;cases hpx:x==y with
  | true=>
   rw[hpx]at he;rw[if_pos (show ((fun y=>x==y) y)=true from hpx)]at hinv;rw[<-hinv];simp[hil,ga,he]
  | false=>
   rw[hpx]at he;rw[if_neg (show ¬((fun y=>x==y) y)=true from by simp[hpx])]at hinv
   simp[hil,ga,he,w,ao];exact⟨i+1,⟨by omega,hinv⟩,by omega,by simp⟩
 ·obtain rfl:i=l.length:=by omega
  rw[List.drop_length]at hinv;simp only[iM]at hinv;rw[<-hinv];simp
theorem Fe {lk lim:Nat}{H:Heap}(x:List UInt8):aj X A lk lim 115 [.e0,Sg x] H=some (I (-1),H):=by
 refine ar [] rfl Oy rfl rfl ?_;unfold EL;generalize aj X A=C;simp;refine ax (σ:=Unit) (fun i=>[(0,.e0),(1,Sg x),(7,I 0),(8,I 0)]) (fun _=>H) (fun i=>True) (fun i=>0) ?_ () trivial (by simp[ab,find]) rfl
 intro i _;unfold yw;simp
def ct (l:List (List UInt8))(x:List UInt8):Bool:=l.any fun y=>x==y
theorem mz {l:List (List UInt8)}{x:List UInt8}:ct l x=true↔x∈l:=by
 simp[ct,List.any_eq_true]
theorem Ff {lk lim:Nat}{H:Heap}{v:AV}{l:List (List UInt8)}(hv:RV v l)(x:List UInt8)(hl:l.length<=1000000000):aj X A lk lim 89 [v,Sg x] H=some (Bo (ct l x),H):=by
 have k:∀L,∃r:Int,aj X A lk L 115 [v,Sg x] H=some (I r,H)/\decide (0<=r)=ct l x:=fun L=>by
  rcases hv with rfl | ⟨rfl,rfl⟩
  ·exact⟨_,yD l x hl,mi _ l 0 (Int.le_refl _)⟩
  ·exact⟨_,Fe x,rfl⟩
 have ha:a7 v=true:=by rcases hv with rfl | ⟨rfl,_⟩<;>rfl
 have k39:∀L,aj X A lk L 108 [v,Sg x] H=some (Bo (ct l x),H):=fun L=>by
  obtain⟨r,h1,h2⟩:=k H.length;rcases hv with rfl | ⟨rfl,rfl⟩;all_goals
   refine ar [] rfl PM rfl rfl ?_;unfold Ke;generalize aj X A=C at h1 |-;simp[h1,h2]
 have h1:=k39 H.length;rcases hv with rfl | ⟨rfl,rfl⟩;all_goals
  refine ar [] rfl A89 rfl rfl ?_;unfold Od;generalize aj X A=C at h1 |-;simp[h1]


def SC (cs:List AV)(S:Ss):Prop:=cs.length=S.length/\∀(j:Nat) v,cs[j]?=some v->RV v (S.getD j [])
theorem SC.get {cs:List AV}{S:Ss}(h:SC cs S){j:Nat}(hj:j<S.length):∃v,cs[j]?=some v/\RV v (S.getD j []):=by
 have:j<cs.length:=by rw[h.1];exact hj
 exact⟨cs[j],R4 this,h.2 j _ (R4 this)⟩
def ofV (g:Gm)(S:Ss)(r:List Int):AV:=match r.getLast? with
 | none=>rowsV [[]]
 | some s=>catV g.k.toNat (ofM g S r.dropLast) (nxt g S s)
theorem Ah (g:Gm)(S:Ss):ofV g S []=rowsV [[]]:=rfl
theorem qK (g:Gm)(S:Ss)(r:List Int)(s:Int):ofV g S (r++[s])=catV g.k.toNat (ofM g S r) (nxt g S s):=by
 unfold ofV;rw[List.getLast?_append,List.dropLast_concat];rfl
theorem qL (g:Gm)(S:Ss)(r:List Int)(s:Int):ofM g S (r++[s])=cat g.k.toNat (ofM g S r) (nxt g S s):=by simp[ofM]
theorem iQ (g:Gm)(S:Ss)(r:List Int):RV (ofV g S r) (ofM g S r):=by
 rcases List.eq_nil_or_concat r with rfl | ⟨r,s,rfl⟩
 ·exact .inl rfl
 ·rw[List.concat_eq_append,qK,qL];exact RV.cat ..
theorem Fg {v:AV}{l:List (List UInt8)}(h:RV v l):a7 v=true:=by rcases h with rfl | ⟨rfl,_⟩<;>rfl
theorem aC {v:AV}{l:List (List UInt8)}(h:RV v l):(v= .e0)\/v=rowsV l:=h.symm.imp And.left id
theorem eH (s:Int):IntKind.u8.wrap s=((byteI s).toNat:Int):=by
 unfold byteI;rw[UInt8.toNat_ofNat'];show s % 256=_;omega
theorem jB (c:UInt8):dF [.val (.int .u8 (c.toNat:Int))]=some [c]:=by
 simp[dF]

theorem Fh {lk lim:Nat}{H:Heap}(hlk:lk<=H.length)(g:Gm)(v4:AV){cs:List AV}{S:Ss}(hS:SC cs S)(r:List Int)(hr:∀s∈r,s<g.t+S.length)(hg:0<=g.t/\g.t<=1000000)(hl:r.length<=1000000)(hSl:S.length<=1000000)
  (hO:∀i,(ofM g S (r.take i)).length<=2000000/\∀x∈ofM g S (r.take i),x.length<=1000000) (hN:∀s∈r,(nxt g S s).length<=2000000/\∀x∈nxt g S s,x.length<=1000000):
  aj X A lk lim 100 [.agg [I g.t,I g.n,I g.k,v4],.sl cs.length cs,.sl r.length (ints r)] H=some (ofV g S r,H):=by
 have kc:=fun (L:Nat) (va vb:AV) (a b:List (List UInt8)) (h1:RV va a) (h2:RV vb b) (h3:a.length<=2000000) (h4:b.length<=2000000) h5 h6=>mw (lk:=lk) (lim:=L) (H:=H) hlk g.k h1 h2 h3 h4 h5 h6;refine ar [3] rfl Ow rfl rfl ?_;unfold Ew;generalize aj X A=C at kc |-;simp;refine ax (σ:=Nat) (fun i=>[(1,.sl cs.length cs),(3,.box [I g.t,I g.n,I g.k,v4]),(7,ofV g S (r.take i)),(12,.sl r.length (ints r)),(13,I r.length),(14,I i)]) (fun _=>H) (fun i=>i<=r.length) (fun i=>r.length-i) ?_ 0 (by omega) (by simp[ab,find,Ah,ay]) rfl
 intro i hi;unfold yu;by_cases hil:i<r.length
 ·have hil':(i:Int)<r.length:=by omega
  have w1:IntKind.i64.wrap ((i:Int)+1)=(i:Int)+1:=au (by omega) (by omega)
  have hrs:=hr r[i] (List.getElem_mem hil);have hn:=hN r[i] (List.getElem_mem hil);have ho:=hO i;have hrv:=iQ g S (r.take i);have hsn:=qK g S (r.take i) r[i];rw[<-List.take_succ_eq_append_getElem hil]at hsn;obtain⟨s,hs⟩:∃s,r[i]=s:=⟨_,rfl⟩;rw[hs]at hrs hn hsn;generalize ofM g S (r.take i)=o at ho hrv hsn;generalize ofV g S (r.take i)=ov at hrv;by_cases hst:s<g.t
  ·have hst':¬g.t<=s:=by omega
   have hw8:=eH s;have hb1:=jB (byteI s);have hnx:nxt g S s=[[byteI s]]:=if_pos hst;rw[hnx]at hn hsn;have kc1:=fun L=>kc L ov (rowsV [[byteI s]]) o [[byteI s]] hrv (.inl rfl) ho.1 (by simp) ho.2 hn.2
   have hcv:=aC (RV.cat g.k.toNat o [[byteI s]]);generalize catV g.k.toNat o [[byteI s]]=cv at kc1 hcv hsn;have e1:rowsV [[byteI s]]= .sl 1 [Sg [byteI s]]:=rfl;rw[e1]at kc1;rcases aC hrv with rfl | rfl<;>rcases hcv with rfl | rfl;all_goals
    simp[hil,hil',hs,hw8,hb1,hst',kc1,w1,ao];exact⟨i+1,by omega,by omega,hsn.symm,by omega⟩
  ·have hst':g.t<=s:=by omega
   have hst2:¬s<g.t:=by omega
   have hw8:=eH s;have hb1:=jB (byteI s);have hnx:nxt g S s=S.getD (s-g.t).toNat []:=if_neg hst;obtain⟨j,hj⟩:∃j:Nat,s-g.t=(j:Int):=⟨(s-g.t).toNat,by omega⟩
   have hjl:j<S.length:=by omega
   have hjc:j<cs.length:=by rw[hS.1];exact hjl
   have hjc':(j:Int)<cs.length:=by omega
   have wj:IntKind.i64.wrap (s-g.t)=(j:Int):=by rw[au (by omega) (by omega)];exact hj
   rw[hj,Int.toNat_natCast]at hnx;obtain⟨v,hcv0,hv⟩:=hS.get hjl;have hcvE:cs[j]=v:=by rw[R4 hjc]at hcv0;simpa using hcv0
   rw[<-hnx]at hv;have kc1:=fun L=>kc L ov v o (nxt g S s) hrv hv ho.1 hn.1 ho.2 hn.2;have hcv:=aC (RV.cat g.k.toNat o (nxt g S s));generalize catV g.k.toNat o (nxt g S s)=cv at kc1 hcv hsn;generalize nxt g S s=nx at hv kc1 hcv hsn;rcases aC hrv with rfl | rfl<;>rcases hcv with rfl | rfl<;>rcases aC hv with rfl | rfl;all_goals
    simp[hil,hil',hs,hw8,hb1,hst',hst2,kc1,w1,ao,wj,hjc,hjc',hcv0,hcvE];exact⟨i+1,by omega,by omega,hsn.symm,by omega⟩
 ·obtain rfl:i=r.length:=by omega
  rw[List.take_length];have hrv:=iQ g S r;rcases aC hrv with e | e<;>rw[e]<;>simp

theorem Fi {lk lim:Nat}{H:Heap}(hlk:lk<=H.length)(g:Gm)(v4:AV){cs:List AV}{S:Ss}(hS:SC cs S){b:Nat}(hb:H[b]?=some (.cells cs))(r:List Int)(hr:∀s∈r,s<g.t+S.length)(hg:0<=g.t/\g.t<=1000000)(hl:r.length<=1000000)(hSl:S.length<=1000000)
  (hO:∀i,(ofM g S (r.take i)).length<=2000000/\∀x∈ofM g S (r.take i),x.length<=1000000) (hN:∀s∈r,(nxt g S s).length<=2000000/\∀x∈nxt g S s,x.length<=1000000):
  aj X A lk lim 100 [.agg [I g.t,I g.n,I g.k,v4],.hs b cs.length 0 cs.length 1,.sl r.length (ints r)] H=some (ofV g S r,H):=by
 have kc:=fun (L:Nat) (va vb:AV) (a b:List (List UInt8)) (h1:RV va a) (h2:RV vb b) (h3:a.length<=2000000) (h4:b.length<=2000000) h5 h6=>mw (lk:=lk) (lim:=L) (H:=H) hlk g.k h1 h2 h3 h4 h5 h6;refine ar [3] rfl Ow rfl rfl ?_;unfold Ew;generalize aj X A=C at kc |-;simp;refine ax (σ:=Nat) (fun i=>[(1,.hs b cs.length 0 cs.length 1),(3,.box [I g.t,I g.n,I g.k,v4]),(7,ofV g S (r.take i)),(12,.sl r.length (ints r)),(13,I r.length),(14,I i)]) (fun _=>H) (fun i=>i<=r.length) (fun i=>r.length-i) ?_ 0 (by omega) (by simp[ab,find,Ah,ay]) rfl
 intro i hi;unfold yu;by_cases hil:i<r.length
 ·have hil':(i:Int)<r.length:=by omega
  have w1:IntKind.i64.wrap ((i:Int)+1)=(i:Int)+1:=au (by omega) (by omega)
  have hrs:=hr r[i] (List.getElem_mem hil);have hn:=hN r[i] (List.getElem_mem hil);have ho:=hO i;have hrv:=iQ g S (r.take i);have hsn:=qK g S (r.take i) r[i];rw[<-List.take_succ_eq_append_getElem hil]at hsn;obtain⟨s,hs⟩:∃s,r[i]=s:=⟨_,rfl⟩;rw[hs]at hrs hn hsn;generalize ofM g S (r.take i)=o at ho hrv hsn;generalize ofV g S (r.take i)=ov at hrv;by_cases hst:s<g.t
  ·have hst':¬g.t<=s:=by omega
   have hw8:=eH s;have hb1:=jB (byteI s);have hnx:nxt g S s=[[byteI s]]:=if_pos hst;rw[hnx]at hn hsn;have kc1:=fun L=>kc L ov (rowsV [[byteI s]]) o [[byteI s]] hrv (.inl rfl) ho.1 (by simp) ho.2 hn.2
   have hcv:=aC (RV.cat g.k.toNat o [[byteI s]]);generalize catV g.k.toNat o [[byteI s]]=cv at kc1 hcv hsn;have e1:rowsV [[byteI s]]= .sl 1 [Sg [byteI s]]:=rfl;rw[e1]at kc1;rcases aC hrv with rfl | rfl<;>rcases hcv with rfl | rfl;all_goals
    simp[hil,hil',hs,hw8,hb1,hst',kc1,w1,ao];exact⟨i+1,by omega,by omega,hsn.symm,by omega⟩
  ·have hst':g.t<=s:=by omega
   have hst2:¬s<g.t:=by omega
   have hw8:=eH s;have hb1:=jB (byteI s);have hnx:nxt g S s=S.getD (s-g.t).toNat []:=if_neg hst;obtain⟨j,hj⟩:∃j:Nat,s-g.t=(j:Int):=⟨(s-g.t).toNat,by omega⟩
   have hjl:j<S.length:=by omega
   have hjc:j<cs.length:=by rw[hS.1];exact hjl
   have hjc':(j:Int)<cs.length:=by omega
   have wj:IntKind.i64.wrap (s-g.t)=(j:Int):=by rw[au (by omega) (by omega)];exact hj
   rw[hj,Int.toNat_natCast]at hnx;obtain⟨v,hcv0,hv⟩:=hS.get hjl;have hcvE:cs[j]=v:=by rw[R4 hjc]at hcv0;simpa using hcv0
   rw[<-hnx]at hv;have kc1:=fun L=>kc L ov v o (nxt g S s) hrv hv ho.1 hn.1 ho.2 hn.2;have hcv:=aC (RV.cat g.k.toNat o (nxt g S s));generalize catV g.k.toNat o (nxt g S s)=cv at kc1 hcv hsn;generalize nxt g S s=nx at hv kc1 hcv hsn;rcases aC hrv with rfl | rfl<;>rcases hcv with rfl | rfl<;>rcases aC hv with rfl | rfl;all_goals
    simp[hil,hil',hs,hw8,hb1,hst',hst2,kc1,w1,ao,wj,hjc,hjc',hcv0,hcvE,hb];exact⟨i+1,by omega,by omega,hsn.symm,by omega⟩
 ·obtain rfl:i=r.length:=by omega
  rw[List.take_length];have hrv:=iQ g S r;rcases aC hrv with e | e<;>rw[e]<;>simp

def wB (rs:List ARes)(t:Bool)(H:Heap)(P:AV->Heap->Prop):Ex->Kt:=fun x e h=>∃v h',cB ⟨0,.skip,rs,t⟩ H (some (x,e,h))=some (v,h')/\P v h'
theorem bt {rs:List ARes}{t:Bool}{H H':Heap}{env:Env}{P:AV->Heap->Prop}:wB rs t H P .ret env H'=∃v h',cB ⟨0,.skip,rs,t⟩ H (some (.ret,env,H'))=some (v,h')/\P v h':=rfl
theorem dD {X:Orc}{A:FuncId->Option AFn}{f:FuncId}{lk lim np:Nat}{args:List AV}{b:AC}{rs:List ARes}{t:Bool}{H:Heap}{P:AV->Heap->Prop}(B:List Nat)(hX:X lk lim f args H=none)(hA:A f=some ⟨np,b,rs,t⟩)(hl:args.length=np)(ha:args.all a7=true)
  (h:WB ⟨aj X A,lk,if t then H.length else lim,B⟩ b (wB rs t H P) (aP 0 args) H):∃v h',aj X A lk lim f args H=some (v,h')/\P v h':=by
 obtain⟨x,e,h1,h2,⟨v,h',h3,h4⟩,_⟩:=dA h (nt ha);refine⟨v,h',?_,h4⟩;rw[vH hX hA hl,h2];exact h3
theorem uB {env:Env}{l:AO}{b n es bytes:Nat}{z:List AV}(h:ev env l=I (n:Int))(hz:z.length=es)(hr:n*bytes<=aM):cA (.mks es bytes z l) env b=some (.hs b (n*es) 0 n es,.cells (repl n z)):=by
 simp only[cA,h];have h1:(0:Int)<=(n:Int):=by omega
 have h2:(n:Int)*(bytes:Int)<=(aM:Int):=by
  rw[<-Int.natCast_mul];exact Int.ofNat_le.2 hr
 rw[if_pos ⟨h1,h2,hz⟩,Int.toNat_natCast]
theorem iR (lim:Nat)(H:Heap)(d:Nat):∀{cs:List AV} {S:Ss},SC cs S->ep (frz lim H (d+1)) cs=some cs/\belowL 0 cs=true:=by
 intro cs;induction cs with
 | nil=>intro S _;exact⟨rfl,rfl⟩
 | cons v cs ih=>
  intro S h;obtain⟨i1,i2⟩:=ih (S:=S.drop 1) ⟨by have:=h.1;simp at this |-;omega,fun j w hw=>by
   have:=h.2 (j+1) w (by simpa using hw)
   rw[R3]at this |-;rw[List.getElem?_drop,Nat.add_comm];exact this⟩
  have h0:=h.2 0 v rfl;have hv:frz lim H (d+1) v=some v/\Hm.below 0 v=true:=by
   rcases h0 with rfl | ⟨rfl,_⟩
   ·exact⟨by simp[frz],by first | rfl | simp[Hm.below]⟩
   ·exact⟨by simp[frz],rfl⟩
  exact⟨by simp only[ep,hv.1,i1],by simp only[belowL,hv.2,i2,Bool.true_and]⟩
theorem nK {cs:List AV}{S:Ss}(h:SC cs S){j:Nat}{v:AV}{l:List (List UInt8)}(hv:RV v l):SC (cs.set j v) (S.set j l):=by
 refine⟨by simp[h.1],fun i w hw=>?_⟩
 rw[R3];by_cases hij:i=j
 ·subst hij;have hl:i<cs.length:=by
   have:=(List.getElem?_eq_some_iff.1 hw).1;simpa using this
  rw[List.getElem?_set_self hl]at hw;rw[List.getElem?_set_self (by rw[<-h.1];exact hl)]
  cases hw;exact hv
 ·rw[List.getElem?_set_ne (fun e=>hij e.symm)]at hw |-;rw[<-R3];exact h.2 i w hw
theorem mA (n:Nat):SC (repl n [.e0]) (List.replicate n []):=by
 have:repl n [.e0]=List.replicate n AV.e0:=by simp[repl]
 rw[this];refine⟨by simp,fun j v hv=>?_⟩
 rw[List.getElem?_replicate]at hv;rw[R3,List.getElem?_replicate];split at hv
 ·rename_i hj;rw[if_pos hj];cases hv;exact .inr ⟨rfl,rfl⟩
 ·cases hv

theorem cP {g:Gm}(hg:GOk g){S:Ss}(h:SOk g S){p:Pr}(hp:POk g p):(∀s∈p.r,s<g.t+S.length)/\(∀i,(ofM g S (p.r.take i)).length<=2000000/\∀x∈ofM g S (p.r.take i),x.length<=1000000)/\
  ∀s∈p.r,(nxt g S s).length<=2000000/\∀x∈nxt g S s,x.length<=1000000:=by
 have hk:=hg.k2;refine⟨fun s hs=>?_,fun i=>?_,fun s hs=>?_⟩
 ·have:=hp.s s hs;have:=h.len;have:=hg.n1;omega
 ·have h1:=eD hg h (r:=p.r.take i) fun s hs=>(hp.s s (List.mem_of_mem_take hs)).1;have h2:=h1.size hg;exact⟨by omega,fun x hx=>by have:=h1.len x hx;omega⟩
 ·unfold nxt;split
  ·simp
  ·have h1:=h.get (s-g.t).toNat;have h2:=h1.size hg;exact⟨by omega,fun x hx=>by have:=h1.len x hx;omega⟩
set_option maxHeartbeats 2000000 in
theorem sD {lk lim:Nat}{H:Heap}(hlk:lk<=H.length)(g:Gm)(hl:g.ps.length<=1000000)(hr:∀p∈g.ps,p.r.length<=1000000):
  ∃v h',aj X A lk lim 83 [gV g] H=some (v,h')/\h'=H/\if chkE g=0 then ∃cs,v= .sl cs.length cs/\SC cs (setsM g) else v= .e0:=by
 have kc:=fun (L:Nat)=>ck (lk:=lk) (lim:=L) (H:=H) g hl hr;refine dD [1,6] rfl A83 rfl rfl ?_;unfold NX;by_cases hc:chkE g=0;case neg=>
  have h3:((chkE g) != 0)=true:=by simp[hc]
  obtain⟨t,n,k,ps⟩:=g;simp only[gV,Gm.cells]at kc;generalize aj X A=C at kc |-;simp[Gm.cells,kc,hc,bt];exact⟨.e0,H,⟨rfl,rfl⟩,rfl,rfl⟩
 have ok:=br hc;have ko:=fun (K:Nat) (hK:K<=H.length+1) (L:Nat) (cs:List AV) (S:Ss) (hS:SC cs S) (hok:SOk g S) (p:Pr) (hp:POk g p)=>
  Fi (lk:=K) (lim:=L) (H:=H++[.cells cs]) (by simp;omega) g (.sl g.ps.length (psC g.ps)) hS (b:=H.length) (by simp) p.r (cP ok hok hp).1 ⟨by have:=ok.t1;omega,by have:=ok.t2;omega⟩ (by have:=hp.len;omega) (by rw[hok.len];have:=ok.n2;omega) (cP ok hok hp).2.1 (cP ok hok hp).2.2
 have ku:=fun (L:Nat) (G:Heap) (va vb:AV) (a b:List (List UInt8)) (ha:RV va a) (hb:RV vb b) h=>qJ (lk:=lk) (lim:=L) (H:=G) ha hb h;rw[hc]at kc;obtain⟨t,n,k,ps⟩:=g;have ok2:=ok;obtain⟨t1,t2,n1,n2,k1,k2,l1,l2,okp⟩:=ok2;simp only at t1 t2 n1 n2 k1 k2 l1 l2 okp;obtain⟨n,rfl⟩:=Int.eq_ofNat_of_zero_le (by omega:0<=n)
 simp only[gV,Gm.cells]at kc ko;have hro:n*24<=aM:=by unfold aM;omega
 generalize aj X A=C at kc ko ku |-;simp[-fN,-ae,Gm.cells,hc];simp[-fN,Gm.cells,kc];rw[fN,uB (l:=.tmp 12) (z:=[.e0]) (es:=1) (n:=n) rfl rfl hro];simp
 let g:Gm:=⟨t,n,k,ps⟩
 let bx:AV:=.box [I t,I n,I k,.sl ps.length (psC ps)]
 let hsV:AV:=.hs H.length n 0 n 1
 have hcl:=js ok;have hS0:=SOk.start g;refine ax (σ:=Ss×List AV×Bool) (fun s=>[(1,bx),(3,hsV),(4,Bo s.2.2)]) (fun s=>H++[.cells s.2.1])
  (fun s=>SOk g s.1/\SC s.2.1 s.1/\cH (nB g) (n*585-szS s.1+1) s.1=setsM g/\(s.2.2=false->nB g s.1=s.1)) (fun s=>2*(n*585-szS s.1)+if s.2.2=true then 1 else 0) ?_ (List.replicate n [],repl n [.e0],true)
  ⟨hS0,mA n,by
   have h1:szS (List.replicate n [])=0:=by simp[szS]
   simp only[h1];rfl,by simp⟩ (by simp[bx,hsV]) rfl
 rintro⟨S,cs,more⟩ ⟨hS,hC,hcm,hm⟩;simp only at hS hC hcm hm;have hcn:cs.length=n:=by rw[hC.1,hS.len];rfl
 unfold J5;cases more with
 | false=>
  have h1:setsM g=S:=by
   rw[<-hcm];unfold cH;rw[if_pos (hm rfl)]
  have hz:=iR H.length (H++[.cells cs]) 6 hC;have htk:cs.take n=cs:=List.take_of_length_le (by omega)
  simp[bx,hsV,bt,hcn,htk,hz];exact⟨_,_,⟨rfl,rfl⟩,rfl,cs,by rw[hcn],by rw[h1];exact hC⟩
 | true=>
  simp[bx];refine ax (σ:=Nat×Ss×List AV×Bool) (fun s=>[(1,bx),(3,hsV),(4,Bo s.2.2.2),(16,.sl ps.length (psC ps)),(17,I ps.length),(18,I s.1)]) (fun s=>H++[.cells s.2.2.1])
   (fun s=>s.1<=ps.length/\s.2.1=(ps.take s.1).foldl (stS g) S/\SOk g s.2.1/\SC s.2.2.1 s.2.1/\((s.2.2.2=false/\s.2.1=S)\/(s.2.2.2=true/\szS S<szS s.2.1))) (fun s=>ps.length-s.1) ?_ (0,S,cs,false)
   ⟨Nat.zero_le _,rfl,hS,hC,.inl ⟨rfl,rfl⟩⟩ (by simp[bx,hsV,ab,find]) rfl
  rintro⟨i,S2,cs2,more⟩ ⟨hi,hS2,hok,hC2,hmo⟩;simp only at hi hS2 hok hC2 hmo;have hcn2:cs2.length=n:=by rw[hC2.1,hok.len];rfl
  unfold J4;have w1:IntKind.i64.wrap ((i:Int)+1)=(i:Int)+1:=au (by omega) (by omega)
  by_cases hil:i<ps.length;case neg=>
   obtain rfl:i=ps.length:=by omega
   rw[List.take_of_length_le (Nat.le_refl _)]at hS2;have hfo:nB g S=S2:=hS2.symm;have hle:=yj ok hok;simp only[Int.toNat_natCast]at hle;simp[bx,hsV,ao];rcases hmo with⟨e1,e2⟩ | ⟨e1,e2⟩
   ·subst e2;exact⟨S2,cs2,.inl ⟨⟨hok,hC2,hcm,hfo⟩,by omega,e1,rfl⟩⟩
   ·refine⟨S2,cs2,.inr ⟨⟨hok,hC2,?_⟩,by omega,e1,rfl⟩⟩
    have hne:nB g S≠S:=fun e=>by rw[hfo]at e;rw[e]at e2;omega
    have h1:=dL hcl (n*585-szS S) S2 hok (by show n*585-szS S2<_;omega)
    rw[<-hcm]
    conv=>rhs;unfold cH
    rw[if_neg hne,hfo];exact h1.symm
  obtain⟨p,hp⟩:∃p,ps[i]=p:=⟨_,rfl⟩;have pok:=okp p (hp▸List.getElem_mem hil);have hs:=cd hil;have hll:=aY ps;have h2:i*2+2<=2*ps.length:=by omega
  rw[hp]at hs;simp only[Pr.cells]at hs;have hnext:(ps.take (i+1)).foldl (stS g) S=stS g S2 p:=by
   rw[List.take_succ_eq_append_getElem hil,List.foldl_append,<-hS2,hp];rfl
  have hup:=yi hok pok;have hok3:=qq ok hok pok;have ko1:=fun L=>ko (H.length+1) (Nat.le_refl _) L cs2 S2 hC2 hok p pok;have hov:=iQ g S2 p.r;have hofok:=eD ok hok (r:=p.r) fun s hs=>(pok.s s hs).1;have hosz:=hofok.size ok;obtain⟨pl,pr⟩:=p;obtain⟨q1,q2,q3,q4⟩:=pok;simp only at q1 q2 q3 q4 hs ko1 hov hosz;obtain⟨pl,rfl⟩:=Int.eq_ofNat_of_zero_le q2;have hpl:pl<n:=by omega
  obtain⟨v,hv,hrv⟩:=hC2.get (j:=pl) (by rw[hok.len];exact hpl)
  have hplc:pl<cs2.length:=by omega
  have hvE:cs2[pl]=v:=by rw[R4 hplc]at hv;simpa using hv
  have hgsz:=(hok.get pl).size ok;have ku1:=fun L=>ku L (H++[.cells cs2]) v _ _ _ hrv hov (Nat.le_trans (Nat.add_le_add hgsz hosz) (by decide))
  have hpn1:pl+1<=n:=hpl;simp only[stS,Int.toNat_natCast]at hup hok3 hnext;have hC3:=nK hC2 (j:=pl) (v:=rowsV (uni (S2.getD pl []) (ofM g S2 pr))) (l:=uni (S2.getD pl []) (ofM g S2 pr)) (.inl rfl);have hgt:((S2.getD pl []).length:Int)<(uni (S2.getD pl []) (ofM g S2 pr)).length↔¬(uni (S2.getD pl []) (ofM g S2 pr)).length<=(S2.getD pl []).length:=by omega
  have hvl:slN v=(S2.getD pl []).length:=(my (H:=H) hrv).2;generalize ofV g S2 pr=ov at ko1 hov ku1;generalize uni (S2.getD pl []) (ofM g S2 pr)=u at *;rw[hcn2]at ko1;simp[-bd,bx,hil,hll,hs,h2];rw[bd];have hset:List.take pl cs2++AV.sl u.length (ay u)::List.drop (pl+1) cs2=cs2.set pl (rowsV u):=by
   rw[List.set_eq_take_append_cons_drop,if_pos hplc]
  have hsh:aR lk H.length 0 (H++[.cells cs2]) H.length (cs2.set pl (rowsV u)) [AV.sl u.length (ay u)]=some (H++[.cells (cs2.set pl (rowsV u))]):=by
   unfold aR;rw[if_pos ⟨hlk,.inl (Nat.le_refl _),.inl (Nat.zero_le _)⟩,ph]
  obtain⟨L,hL⟩:∃L,(S2.getD pl []).length=L:=⟨_,rfl⟩;rw[hL]at hup hvl;have fin:∀b:Bool,b=(more||decide (L<u.length))->(b=false/\S2.set pl u=S)\/(b=true/\szS S<szS (S2.set pl u)):=fun b hb=>by
   by_cases hgr:L<u.length
   ·have hb2:b=true:=by rw[hb];simp[hgr]
    have h3:szS S2<szS (S2.set pl u):=by
     rcases hup.1 with e | e
     ·exact absurd (hup.2.1 e) (by omega)
     ·exact e
    rcases hmo with⟨_,e⟩ | ⟨_,e⟩
    ·exact .inr ⟨hb2,by rw[<-e];exact h3⟩
    ·exact .inr ⟨hb2,by omega⟩
   ·have h3:S2.set pl u=S2:=hup.2.2 (by omega)
    rw[h3];have hb2:b=more:=by rw[hb];simp[hgr]
    rw[hb2];exact hmo
  generalize S2.getD pl []=q at *;rcases aC hrv with rfl | rfl<;>rcases aC hov with rfl | rfl;all_goals
   try (obtain rfl:L=0:=hvl.symm)
   cases more with
   | true=>
    have hf:=fin true (by simp)
    have hf:szS S<szS (S2.set pl u):=by simpa using hf
    simp[an,hsV,hpl,hcn2,hv,hvE,ko1,ku1,hL,hpn1,hset,hsh,w1,ao];exact⟨i+1,S2.set pl u,cs2.set pl (rowsV u),⟨by omega,hnext.symm,hok3,hC3,hf⟩,by omega,by omega,rfl⟩
   | false=>
    have hf:=fin _ rfl;simp[an,hsV,hpl,hcn2,hv,hvE,ko1,ku1,hL,hpn1,hset,hsh,w1,ao];simp at hf;rcases hf with⟨e1,e2⟩ | ⟨e1,e2⟩
    ·exact⟨i+1,S2.set pl u,cs2.set pl (rowsV u),.inl ⟨⟨by omega,hnext.symm,hok3,hC3,e2⟩,by omega,⟨by first | exact e1 | omega,by omega⟩,rfl⟩⟩
    ·exact⟨i+1,S2.set pl u,cs2.set pl (rowsV u),.inr ⟨⟨by omega,hnext.symm,hok3,hC3,e2⟩,by omega,⟨by first | exact e1 | omega,by omega⟩,rfl⟩⟩

theorem mB {g:Gm}(h:d8 g=true):g.ps.length<=1000000/\∀p∈g.ps,p.r.length<=1000000:=by
 unfold d8 at h;split at h
 ·cases h
 ·split at h
  ·cases h
  ·rename_i h1 h2;refine⟨by omega,fun p hp=>?_⟩
   simp only[Bool.not_eq_true,List.any_eq_false,Bool.or_eq_true,decide_eq_true_eq,not_or]at h2;have:=(h2 p hp).2;omega

theorem dG (H:Heap)(a:AV):aN H (.sl 1 [a])=some (1,[a]):=rfl

theorem Fj {lk lim:Nat}{H:Heap}{g:Gm}{b:Nat}(hb:H[b]?=some (.cells g.cells))(hw:IntKind.i64.wrap (g.t+g.n)=g.t+g.n)(s:Int):aj X A lk lim 106 [I s,.hp b 4 0] H=some (Bo (du g s),H):=by
 refine ar [] rfl PL rfl rfl ?_;unfold Kb;unfold Gm.cells at hb;unfold du;by_cases h:s<0
 ·simp[h]
 ·simp[h,hb,hw]
def OfOk (g:Gm)(S:Ss)(r:List Int):Prop:=chkE g=0/\(S.length:Int)=g.n/\r.any (du g)=false
instance (g:Gm) (S:Ss) (r:List Int):Decidable (OfOk g S r):=by unfold OfOk;exact inferInstance
theorem sE {lk lim:Nat}{H:Heap}(hlk:lk<=H.length)(g:Gm)(hl:g.ps.length<=1000000)(hr:∀p∈g.ps,p.r.length<=1000000){cs:List AV}{S:Ss}(hS:SC cs S)(r:List Int)(hrl:r.length<=1000000)(hSl:S.length<=1000000)
  (hO:OfOk g S r->(∀i,(ofM g S (r.take i)).length<=2000000/\∀x∈ofM g S (r.take i),x.length<=1000000)/\∀s∈r,(nxt g S s).length<=2000000/\∀x∈nxt g S s,x.length<=1000000):
  aj X A lk lim 86 [gV g,.sl cs.length cs,.sl r.length (ints r)] H=some (if OfOk g S r then ofV g S r else .e0,H):=by
 have kc:=fun (L:Nat)=>ck (lk:=lk) (lim:=L) (H:=H++[.cells g.cells]) g hl hr;have k49:=fun (L:Nat) (hw:IntKind.i64.wrap (g.t+g.n)=g.t+g.n)=>lx (lk:=lk) (lim:=L) (H:=H++[.cells g.cells]) (f:=106) (cap:=[.hp H.length 4 0]) r (du g) hrl rfl (fun s _=>Fj (by simp) hw s)
 have k45:=fun (L:Nat) h1 h2 h3 h4=>Fh (lk:=lk) (lim:=L) (H:=H++[.cells g.cells]) (by simp;omega) g (.sl g.ps.length (psC g.ps)) hS r h1 h2 hrl hSl h3 h4
 have hcl:=hS.1;refine ar [] rfl A86 rfl rfl ?_;unfold N2;by_cases hc:chkE g=0;case neg=>
  rw[if_neg (fun h:OfOk g S r=>hc h.1)];have hc2:(chkE g != 0)=true:=by simpa using hc
  generalize chkE g=e at kc hc2 hc;obtain⟨t,n,k,ps⟩:=g;simp only[gV,Gm.cells]at kc;generalize aj X A=C at kc |-;simp[Gm.cells,kc,hc2,hc]
 have ok:=br hc;by_cases hn:(S.length:Int)=g.n;case neg=>
  rw[if_neg (fun h:OfOk g S r=>hn h.2.1)];rw[hc]at kc;obtain⟨t,n,k,ps⟩:=g;simp only[gV,Gm.cells]at kc hn;have hn2:((cs.length:Int) != n)=true:=by rw[hcl];simpa using hn
  have hn3:¬(cs.length:Int)=n:=by rw[hcl];exact hn
  generalize aj X A=C at kc |-;simp[Gm.cells,kc,hn2,hn3]
 have hn2:((cs.length:Int) != g.n)=false:=by rw[hcl];simpa using hn
 have hn3:(cs.length:Int)=g.n:=by rw[hcl];exact hn
 have hw:IntKind.i64.wrap (g.t+g.n)=g.t+g.n:=by have:=ok.t1;have:=ok.t2;have:=ok.n1;have:=ok.n2;exact au (by omega) (by omega)
 have k49:=fun L=>k49 L hw;by_cases hb:r.any (du g)=false;case neg=>
  rw[if_neg (fun h:OfOk g S r=>hb h.2.2)];have hb:r.any (du g)=true:=by simpa using hb
  rw[hc]at kc;rw[hb]at k49;obtain⟨t,n,k,ps⟩:=g;simp only[gV,Gm.cells]at kc k49 hn2 hn3;generalize aj X A=C at kc k49 |-;simp[Gm.cells,kc,hn2,hn3,k49]
 have hok:OfOk g S r:=⟨hc,hn,hb⟩;rw[if_pos hok];obtain⟨o1,o2⟩:=hO hok;have k45:=fun L=>k45 L (fun s hs=>by
  have:=List.any_eq_false.1 hb s hs;simp only[du,Bool.or_eq_true,decide_eq_true_eq,not_or]at this;omega) ⟨by have:=ok.t1;omega,by have:=ok.t2;omega⟩ o1 o2
 rw[hc]at kc;rw[hb]at k49;have hov:=iQ g S r;generalize ofV g S r=ov at k45 hov |-;obtain⟨t,n,k,ps⟩:=g;simp only[gV,Gm.cells]at kc k49 hn2 hn3 k45;generalize aj X A=C at kc k49 k45 |-;rcases aC hov with rfl | rfl;all_goals simp[Gm.cells,kc,hn2,hn3,k49,k45]
def rlV (B:Nat)(l:List (List UInt8)):AV:=if l=[] then .e0 else .hs B l.length 0 l.length 1
def rlG (l:List (List UInt8)):Heap:=if l=[] then [] else [.cells (ay l)]
def rV (l:List (List UInt8)):AV:=if l=[] then .e0 else rowsV l
theorem dE (l:List (List UInt8)):RV (rV l) l:=by
 unfold rV RV;split
 ·rename_i h;exact .inr ⟨rfl,h⟩
 ·exact .inl rfl

def ofN (ps:List Pr)(left:Int)(m:Nat):List Nat:=(List.range m).filter fun i=>decide ((ps.getD i ⟨0,[]⟩).l=left)
def slvN (o:List Nat):AV:=if o=[] then .e0 else .sl o.length (nts o)
def nL (g:Gm)(left:Int):AV:=if chkE g=0 then slvN (ofN g.ps left g.ps.length) else .e0
theorem wC (ps:List Pr)(left:Int)(m:Nat)(h:m<ps.length):ofN ps left (m+1)=if ps[m].l=left then ofN ps left m++[m] else ofN ps left m:=by
 unfold ofN;rw[List.range_succ,List.filter_append];have:ps.getD m ⟨0,[]⟩=ps[m]:=by rw[R3,R4 h];rfl
 split
 ·rename_i h1;rw[List.filter_cons_of_pos (by rw[this,h1];simp)]
  rfl
 ·rename_i h1;rw[List.filter_cons_of_neg (by rw[this];simpa using h1)]
  simp
theorem j1 (ps:List Pr)(left:Int)(m:Nat):(ofN ps left m).length<=m:=by
 unfold ofN;have:=List.length_filter_le (fun i=>decide ((ps.getD i ⟨0,[]⟩).l=left)) (List.range m)
 rwa [List.length_range]at this
def oV (H:Heap)(o:List Nat):AV:=if o=[] then .e0 else .hs H.length o.length 0 o.length 1
def oH (H:Heap)(o:List Nat):Heap:=if o=[] then H else H++[.cells (nts o)]
theorem mC {Y:Orc}{lk lim:Nat}{H:Heap}(g:Gm)(left:Int)(hl:g.ps.length<=1000000)(hr:∀p∈g.ps,p.r.length<=1000000)(hlk:lk<=H.length)(hY:NoP Y:=by first | exact wx | exact mh):aj Y A lk lim 53 [gV g,I left] H=some (nL g left,H):=by
 have kc:=fun (L:Nat)=>ck (hY:=hY) (lk:=lk) (lim:=L) (H:=H) g hl hr;refine ar [2,6] (hY _ rfl _ _ _ _) A53 rfl rfl ?_;unfold NZ;unfold nL;by_cases hc:chkE g=0;case neg=>
  rw[if_neg hc];obtain⟨t,n,k,ps⟩:=g;simp only[gV,Gm.cells]at kc;generalize aj Y A=C at kc |-;simp[Gm.cells,kc,hc]
 have ok:=br hc;rw[if_pos hc];rw[hc]at kc;obtain⟨t,n,k,ps⟩:=g;obtain⟨t1,t2,n1,n2,k1,k2,l1,l2,okp⟩:=ok;simp only at t1 t2 n1 n2 k1 k2 l1 l2 okp;simp only[gV,Gm.cells]at kc;simp[Gm.cells,kc];refine ax (σ:=Nat) (fun i=>[(1,I left),(4,oV H (ofN ps left i)),(11,.sl ps.length (psC ps)),(12,I ps.length),(13,I i)]) (fun i=>oH H (ofN ps left i))
  (fun i=>i<=ps.length) (fun i=>ps.length-i) ?_ 0 (by simp) (by simp[ofN,oV]) (by simp[ofN,oH])
 intro i hi;unfold Ka;have w1:IntKind.i64.wrap ((i:Int)+1)=(i:Int)+1:=au (by omega) (by omega)
 by_cases hil:i<ps.length;case neg=>
  obtain rfl:i=ps.length:=by omega
  have hon:=j1 ps left ps.length;generalize ofN ps left ps.length=o at hon |-;by_cases ho:o=[]
  ·subst ho;simp[oV,oH,slvN]
  ·simp[oV,oH,slvN,ho]
 have hs:=cd hil;have hll:=aY ps;have h2:i*2+2<=2*ps.length:=by omega
 have hnx:=wC ps left i hil;have hon:=j1 ps left i;generalize ps[i]=p at hs hnx;obtain⟨pl,pr⟩:=p;simp only[Pr.cells]at hs;simp only at hnx;have done:∀(E:Env) (H':Heap),E=[(1,I left),(4,oV H (ofN ps left (i+1))),(11,.sl ps.length (psC ps)),(12,I ps.length),(13,I ((i:Int)+1))]->H'=oH H (ofN ps left (i+1))->
  ∃i':Nat,i'<=ps.length/\ps.length-i'<ps.length-i/\E=[(1,I left),(4,oV H (ofN ps left i')),(11,.sl ps.length (psC ps)),(12,I ps.length),(13,I i')]/\H'=oH H (ofN ps left i'):=fun E H' h1 h2=>⟨i+1,by omega,by omega,by rw[h1];simp,h2⟩
 generalize ofN ps left (i+1)=o' at hnx done;generalize ofN ps left i=o at hnx hon |-;have hro1:8<=aM:=by unfold aM;omega
 have hro:(o.length+1)*8<=aM:=by unfold aM;omega
 simp[-bd,hil,hs,hll,h2];rw[bd];by_cases hpl:pl=left
 ·rw[if_pos hpl]at hnx;by_cases ho:o=[]
  ·subst ho;simp[an,oV,oH,hpl,w1,hro1,aN];rw[ao];refine done _ _ ?_ ?_
   ·simp[hnx,oV]
   ·simp[hnx,oH,nts]
  ·simp[an,oV,oH,hpl,w1,hro,ho,aN,aR,dW,hlk];rw[ao];refine done _ _ ?_ ?_
   ·simp[hnx,oV,eh]
   ·simp[hnx,oH,nts,cS]
 ·rw[if_neg hpl]at hnx;subst hnx;have hnr:fb 6 [(4,oV H o'),(11,.sl ps.length (psC ps)),(12,I ps.length),(13,I i)]=true:=by unfold oV;split<;>rfl
  simp[an,hpl,w1,hnr];rw[ao];refine done _ _ ?_ ?_
  ·simp
  ·rfl

end Go.Proofs.YtkllbcjanneppaaGreat
