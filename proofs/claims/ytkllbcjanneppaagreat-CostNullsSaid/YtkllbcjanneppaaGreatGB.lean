import Derived.Test.YtkllbcjanneppaaGreatT
import Derived.Test.YtkllbcjanneppaaGreatGA
set_option maxRecDepth 20000
set_option linter.unusedSimpArgs false
set_option linter.unusedVariables false
namespace Go.Proofs.YtkllbcjanneppaaGreat
open Go Go.Hm

def Pr.cells (p:Pr):List AV:=[I p.l,.sl p.r.length (ints p.r)]
def psC:List Pr→List AV
 | []=>[]
 | p::l=>p.cells++psC l
def Gm.cells (g:Gm):List AV:=[I g.t,I g.n,I g.k,.sl g.ps.length (psC g.ps)]
abbrev gV (g:Gm):AV:=.agg g.cells
theorem aU:∀l:List Pr,(psC l).length=2 * l.length
 | []=>rfl
 | x::l=>by simp only [psC,Pr.cells,List.length_append,List.length_cons,List.length_nil,aU l];omega
theorem ue:∀(l:List Pr) (n:Nat),(psC l).drop (n * 2)=psC (l.drop n)
 | [],n=>by simp [psC]
 | x::l,0=>by simp
 | x::l,n+1=>by
  rw [show (n+1) * 2=2+n * 2 by omega,←List.drop_drop]
  simp only [psC,Pr.cells,List.drop_succ_cons,List.cons_append,List.nil_append,List.drop_zero];exact ue l n
theorem bJ {l:List Pr}{i:Nat}(h:i < l.length):((psC l).drop (i * 2)).take 2=l[i].cells:=by
 rw [ue,List.drop_eq_getElem_cons h];simp [psC,Pr.cells]
theorem xN {l:List Pr}{i:Nat}(h:i < l.length)(j:Nat)(hj:j < 2):(psC l)[i * 2+j]?=l[i].cells[j]?:=by
 rw [←bJ h,List.getElem?_take,if_pos hj,List.getElem?_drop]
theorem Ct {l:List Pr}{i:Nat}(h:i < l.length):(psC l)[i * 2]?=some (I l[i].l):=xN h 0 (by omega)
theorem qi {l:List Pr}{i:Nat}(h:i < l.length):(psC l)[i * 2+1]?=some (.sl l[i].r.length (ints l[i].r)):=xN h 1 (by omega)

def iL (g:Gm):Bool:=
 if 100 < g.ps.length then false
 else if (g.ps.any fun p=>decide (5 < p.r.length∧p.r.length≤8)||decide (100 < p.r.length))=true then false
 else if 8 < g.t∨16 < g.n∨3 < g.k∨64 < g.ps.length then true
 else decide (g.t≤4∧g.n≤6∧g.ps.length≤14∧(g.k≤2∨g.t≤3))
theorem wn {lk lim:Nat}{H:Heap}(g:Gm):ah X A lk lim 17 [gV g] H=some (Bo (iL g),H):=by
 refine aq [1] rfl A17 rfl rfl ?_;unfold Li;obtain ⟨t,n,k,ps⟩:=g;by_cases h1:100 < ps.length
 ·have h1':(100:Int) < ps.length:=by omega
  simp [Gm.cells,iL,h1,h1']
 have h1':¬(100:Int) < ps.length:=by omega
 simp [Gm.cells,h1,h1']
 let bx:AV:=.box [I t,I n,I k,.sl ps.length (psC ps)]
 let bad:Pr→Bool:=fun p=>decide (5 < p.r.length∧p.r.length≤8)||decide (100 < p.r.length)
 refine ax (σ:=Nat) (fun i=>[(1,bx),(3,I i)]) (fun _=>H) (fun i=>i≤ps.length∧ps.any bad=(ps.drop i).any bad) (fun i=>ps.length - i) ?_ 0 (by simp) (by simp [bx]) rfl
 rintro i ⟨hi,hinv⟩;unfold G9;have w1:IntKind.i64.wrap ((i:Int)+1)=(i:Int)+1:=aw (by omega) (by omega)
 by_cases hil:i < ps.length
 ·obtain ⟨p,hp⟩:∃p,ps[i]=p:=⟨_,rfl⟩;have hr:=qi hil;rw [hp] at hr;have hl:=aU ps;rw [List.drop_eq_getElem_cons hil,hp,List.any_cons] at hinv;obtain ⟨m,hm⟩:∃m,p.r.length=m:=⟨_,rfl⟩;rw [hm] at hr;by_cases c1:5 < m
  ·have c1':(5:Int) < m:=by omega
   by_cases c2:m≤8
   ·have c2':(m:Int)≤8:=by omega
    have hb:ps.any bad=true:=by rw [hinv];simp [bad,hm,c1,c2]
    have hL:iL ⟨t,n,k,ps⟩=false:=by unfold iL;rw [if_neg (by simp only;omega),if_pos (by exact hb)]
    simp [bx,hil,hr,c1',c2',hL]
   ·have c2':¬(m:Int)≤8:=by omega
    by_cases c3:100 < m
    ·have c3':(100:Int) < m:=by omega
     have hb:ps.any bad=true:=by rw [hinv];simp [bad,hm,c3]
     have hL:iL ⟨t,n,k,ps⟩=false:=by unfold iL;rw [if_neg (by simp only;omega),if_pos (by exact hb)]
     simp [bx,hil,hr,c1',c2',c3',hL]
    ·have c3':¬(100:Int) < m:=by omega
     have hb:bad p=false:=by simp [bad,hm];omega
     rw [hb,Bool.false_or] at hinv;simp [bx,hil,hr,c1',c2',c3',w1,ao];exact ⟨i+1,⟨by omega,hinv⟩,by omega,by simp⟩
  ·have c1':¬(5:Int) < m:=by omega
   have c3':¬(100:Int) < m:=by omega
   have hb:bad p=false:=by simp [bad,hm];omega
   rw [hb,Bool.false_or] at hinv;simp [bx,hil,hr,c1',c3',w1,ao];exact ⟨i+1,⟨by omega,hinv⟩,by omega,by simp⟩
 ·obtain rfl:i=ps.length:=by omega
  rw [List.drop_length] at hinv;have hb:ps.any bad=false:=hinv;have hL:iL ⟨t,n,k,ps⟩=if 8 < t∨16 < n∨3 < k∨64 < ps.length then true else decide (t≤4∧n≤6∧ps.length≤14∧(k≤2∨t≤3)):=by
   unfold iL;rw [if_neg (by simp only;omega),if_neg (by rw [show (ps.any fun p=>decide (5 < p.r.length∧p.r.length≤8)||decide (100 < p.r.length))=false from hb];simp)]
  rw [hL];by_cases c1:8 < t
  ·simp [bx,c1]
  by_cases c2:16 < n
  ·simp [bx,c1,c2]
  by_cases c3:3 < k
  ·simp [bx,c1,c2,c3]
  by_cases c4:64 < ps.length
  ·have c4':(64:Int) < ps.length:=by omega
   simp [bx,c1,c2,c3,c4,c4']
  have c4':¬(64:Int) < ps.length:=by omega
  rw [if_neg (by omega)]
  by_cases d1:t≤4;case neg=>
   have:decide (t≤4∧n≤6∧ps.length≤14∧(k≤2∨t≤3))=false:=decide_eq_false (by omega)
   rw [this];simp [bx,c1,c2,c3,c4',d1]
  by_cases d2:n≤6;case neg=>
   have:decide (t≤4∧n≤6∧ps.length≤14∧(k≤2∨t≤3))=false:=decide_eq_false (by omega)
   rw [this];simp [bx,c1,c2,c3,c4',d1,d2]
  by_cases d3:ps.length≤14;case neg=>
   have d3':¬(ps.length:Int)≤14:=by omega
   have:decide (t≤4∧n≤6∧ps.length≤14∧(k≤2∨t≤3))=false:=decide_eq_false (by omega)
   rw [this];simp [bx,c1,c2,c3,c4',d1,d2,d3']
  have d3':(ps.length:Int)≤14:=by omega
  by_cases d4:k≤2
  ·have:decide (t≤4∧n≤6∧ps.length≤14∧(k≤2∨t≤3))=true:=decide_eq_true (by omega)
   rw [this];simp [bx,c1,c2,c3,c4',d1,d2,d3',d4]
  by_cases d5:t≤3
  ·have:decide (t≤4∧n≤6∧ps.length≤14∧(k≤2∨t≤3))=true:=decide_eq_true (by omega)
   rw [this];simp [bx,c1,c2,c3,c4',d1,d2,d3',d4,d5]
  ·have:decide (t≤4∧n≤6∧ps.length≤14∧(k≤2∨t≤3))=false:=decide_eq_false (by omega)
   rw [this];simp [bx,c1,c2,c3,c4',d1,d2,d3',d4,d5]
end Go.Proofs.YtkllbcjanneppaaGreat

namespace Go.Proofs.YtkllbcjanneppaaGreat
open Go Go.Hm

def dP {α:Type}(P:α→Bool):List α→Int→Int
 | [],_=>-1
 | x::l,i=>if P x=true then i else dP P l (i+1)
theorem gv {α:Type}(P:α→Bool):∀(l:List α) (i:Int),0≤i→(decide (0≤dP P l i)=l.any P)
 | [],i,h=>by simp [dP]
 | x::l,i,h=>by
  have ih:=gv P l (i+1) (by omega)
  simp only [dP,List.any_cons];by_cases hp:P x=true
  ·simp [hp,h]
  ·simp only [hp,if_false,Bool.false_eq_true];rw [ih];simp [hp]
theorem eJ (v:Value):aO (.val v)=true:=rfl
theorem kO (c:List AV):aO (.agg c)=true:=rfl
theorem idx51_code {lk lim:Nat}{H:Heap}{f:FuncId}{cap:List AV}(l:List Int)(P:Int→Bool)(hl:l.length≤1000000)(hc:cap.all aO=true)(hP:∀x∈l,ah X A lk H.length f (I x::cap) H=some (Bo (P x),H)):
  ah X A lk lim 97 [.sl l.length (ints l),.fn f cap] H=some (I (dP P l 0),H):=by
 refine aq [] rfl A97 rfl rfl ?_;unfold I3;simp;refine ax (σ:=Nat) (fun i=>[(0,.sl l.length (ints l)),(1,.fn f cap),(7,I l.length),(8,I i)]) (fun _=>H)
  (fun i=>i≤l.length∧dP P (l.drop i) i=dP P l 0) (fun i=>l.length - i) ?_ 0 (by simp) (by simp) rfl
 rintro i ⟨hi,hinv⟩;unfold B3;have w:IntKind.i64.wrap ((i:Int)+1)=(i:Int)+1:=aw (by omega) (by omega)
 by_cases hil:i < l.length
 ·obtain ⟨x,hx⟩:∃x,l[i]=x:=⟨_,rfl⟩;have hp:=hP x (hx▸List.getElem_mem hil);rw [List.drop_eq_getElem_cons hil,hx] at hinv;simp only [dP] at hinv;cases hpx:P x with
  | true=>
   rw [hpx] at hp hinv;rw [if_pos rfl] at hinv;rw [←hinv];generalize ah X A=C at hp ⊢;simp [-aO,eJ,hil,hx,hp,hc]
  | false=>
   rw [hpx] at hp hinv;rw [if_neg (by simp)] at hinv
   generalize ah X A=C at hp ⊢;simp [-aO,eJ,hil,hx,hp,hc,w,ao];exact ⟨i+1,⟨by omega,hinv⟩,by omega,by simp⟩
 ·obtain rfl:i=l.length:=by omega
  rw [List.drop_length] at hinv;simp only [dP] at hinv;rw [←hinv];simp
theorem has35_code {lk lim:Nat}{H:Heap}{f:FuncId}{cap:List AV}(l:List Int)(P:Int→Bool)(hl:l.length≤1000000)(hc:cap.all aO=true)(hP:∀x∈l,ah X A lk H.length f (I x::cap) H=some (Bo (P x),H)):
  ah X A lk lim 72 [.sl l.length (ints l),.fn f cap] H=some (Bo (l.any P),H):=by
 have k:=idx51_code (lim:=H.length) l P hl hc hP;have ha:=gv P l 0 (Int.le_refl _);refine aq [] rfl A72 rfl rfl ?_;unfold I0;generalize ah X A=C at k ⊢;simp [k,ha]
theorem idx50_code {lk lim:Nat}{H:Heap}{f:FuncId}{cap:List AV}(l:List Pr)(P:Pr→Bool)(hl:l.length≤1000000)(hc:cap.all aO=true)(hP:∀x∈l,ah X A lk H.length f (.agg x.cells::cap) H=some (Bo (P x),H)):
  ah X A lk lim 96 [.sl l.length (psC l),.fn f cap] H=some (I (dP P l 0),H):=by
 refine aq [] rfl A96 rfl rfl ?_;unfold IX;simp;refine ax (σ:=Nat) (fun i=>[(0,.sl l.length (psC l)),(1,.fn f cap),(7,I l.length),(8,I i)]) (fun _=>H)
  (fun i=>i≤l.length∧dP P (l.drop i) i=dP P l 0) (fun i=>l.length - i) ?_ 0 (by simp) (by simp) rfl
 rintro i ⟨hi,hinv⟩;unfold B2;have w:IntKind.i64.wrap ((i:Int)+1)=(i:Int)+1:=aw (by omega) (by omega)
 by_cases hil:i < l.length
 ·obtain ⟨x,hx⟩:∃x,l[i]=x:=⟨_,rfl⟩;have hp:=hP x (hx▸List.getElem_mem hil);have hs:=bJ hil;have hll:=aU l;have h2:i * 2+2≤2 * l.length:=by omega
  rw [hx] at hs;rw [List.drop_eq_getElem_cons hil,hx] at hinv;simp only [dP] at hinv;cases hpx:P x with
  | true=>
   rw [hpx] at hp hinv;rw [if_pos rfl] at hinv;rw [←hinv];generalize ah X A=C at hp ⊢;simp [-aO,eJ,kO,hil,hs,hll,h2,hp,hc]
  | false=>
   rw [hpx] at hp hinv;rw [if_neg (by simp)] at hinv
   generalize ah X A=C at hp ⊢;simp [-aO,eJ,kO,hil,hs,hll,h2,hp,hc,w,ao];exact ⟨i+1,⟨by omega,hinv⟩,by omega,by simp⟩
 ·obtain rfl:i=l.length:=by omega
  rw [List.drop_length] at hinv;simp only [dP] at hinv;rw [←hinv];simp
theorem has33_code {lk lim:Nat}{H:Heap}{f:FuncId}{cap:List AV}(l:List Pr)(P:Pr→Bool)(hl:l.length≤1000000)(hc:cap.all aO=true)(hP:∀x∈l,ah X A lk H.length f (.agg x.cells::cap) H=some (Bo (P x),H)):
  ah X A lk lim 70 [.sl l.length (psC l),.fn f cap] H=some (Bo (l.any P),H):=by
 have k:=idx50_code (lim:=H.length) l P hl hc hP;have ha:=gv P l 0 (Int.le_refl _);refine aq [] rfl A70 rfl rfl ?_;unfold IW;generalize ah X A=C at k ⊢;simp [k,ha]
end Go.Proofs.YtkllbcjanneppaaGreat

namespace Go.Proofs.YtkllbcjanneppaaGreat
open Go Go.Hm

def cC (g:Gm)(s:Int):Bool:=decide (s < 0)||decide (g.t+g.n≤s)
def gP (g:Gm)(p:Pr):Bool:=decide (p.l < 0)||decide (g.n≤p.l)||p.r.any (cC g)
def chkE (g:Gm):Int:=
 if 8 < g.t∨16 < g.n∨3 < g.k∨64 < g.ps.length then 3
 else if (g.ps.any fun p=>decide (8 < p.r.length))=true then 3
 else if g.t < 1∨g.n < 1∨g.k < 1∨g.ps.length < 1 then 2
 else if g.ps.any (gP g)=true then 2 else 0
theorem c34_code {lk lim:Nat}{H:Heap}(p:Pr):ah X A lk lim 71 [.agg p.cells] H=some (Bo (decide (8 < p.r.length)),H):=by
 refine aq [1] rfl A71 rfl rfl ?_;unfold IY;have h:decide ((8:Int) < p.r.length)=decide (8 < p.r.length):=by
  rw [Bool.eq_iff_iff];simp;omega
 simp [Pr.cells,h]
theorem c36_code {lk lim:Nat}{H:Heap}{g:Gm}{b:Nat}(hb:H[b]?=some (.cells g.cells))(hw:IntKind.i64.wrap (g.t+g.n)=g.t+g.n)(s:Int):ah X A lk lim 73 [I s,.hp b 4 0] H=some (Bo (cC g s),H):=by
 refine aq [] rfl A73 rfl rfl ?_;unfold IZ;unfold Gm.cells at hb;unfold cC;by_cases h:s < 0
 ·simp [h]
 ·simp [h,hb,hw]
theorem r7 (t n k m:Int):(if m < (if k < (if n < t then n else t) then k else (if n < t then n else t)) then m else (if k < (if n < t then n else t) then k else (if n < t then n else t))) < 1↔t < 1∨n < 1∨k < 1∨m < 1:=by
 split<;>split<;>split<;>omega
theorem check_code {lk lim:Nat}{H:Heap}(g:Gm)(hl:g.ps.length≤1000000)(hr:∀p∈g.ps,p.r.length≤1000000):ah X A lk lim 48 [gV g] H=some (I (chkE g),H):=by
 have k1:=fun L=>has33_code (lk:=lk) (lim:=L) (H:=H++[.cells g.cells]) (f:=71) (cap:=[]) g.ps (fun p=>decide (8 < p.r.length)) hl rfl (fun p _=>c34_code p);have k2:=fun (L:Nat) (hw:IntKind.i64.wrap (g.t+g.n)=g.t+g.n) (p:Pr) (hp:p∈g.ps)=>has35_code (lk:=lk) (lim:=L) (H:=H++[.cells g.cells]) (f:=73) (cap:=[.hp H.length 4 0]) p.r (cC g) (hr p hp) rfl (fun s _=>c36_code (by simp) hw s)
 refine aq [4] rfl A48 rfl rfl ?_;unfold IU;obtain ⟨t,n,k,ps⟩:=g;simp only [Gm.cells] at hl hr k1 k2 ⊢;have e0:∀c:Bool,chkE ⟨t,n,k,ps⟩=chkE ⟨t,n,k,ps⟩:=fun _=>rfl;by_cases c1:8 < t
 ·have e:chkE ⟨t,n,k,ps⟩=3:=by unfold chkE;rw [if_pos (by simp only;omega)]
  rw [e];simp [Gm.cells,c1]
 by_cases c2:16 < n
 ·have e:chkE ⟨t,n,k,ps⟩=3:=by unfold chkE;rw [if_pos (by simp only;omega)]
  rw [e];simp [Gm.cells,c1,c2]
 by_cases c3:3 < k
 ·have e:chkE ⟨t,n,k,ps⟩=3:=by unfold chkE;rw [if_pos (by simp only;omega)]
  rw [e];simp [Gm.cells,c1,c2,c3]
 by_cases c4:64 < ps.length
 ·have e:chkE ⟨t,n,k,ps⟩=3:=by unfold chkE;rw [if_pos (by simp only;omega)]
  have c4':(64:Int) < ps.length:=by omega
  rw [e];simp [Gm.cells,c1,c2,c3,c4']
 have c4':¬(64:Int) < ps.length:=by omega
 have e1:chkE ⟨t,n,k,ps⟩=if (ps.any fun p=>decide (8 < p.r.length))=true then 3 else if t < 1∨n < 1∨k < 1∨ps.length < 1 then 2 else if ps.any (gP ⟨t,n,k,ps⟩)=true then 2 else 0:=by
  rw [chkE,if_neg (by simp only;omega)]
 rw [e1];cases c5:(ps.any fun p=>decide (8 < p.r.length)) with
 | true=>
  rw [c5] at k1;generalize ah X A=C at k1 ⊢;simp [Gm.cells,c1,c2,c3,c4',k1]
 | false=>
  rw [c5] at k1;rw [if_neg (show ¬(false=true) by simp)]
  by_cases c6:t < 1∨n < 1∨k < 1∨ps.length < 1
  ·have c6':=(r7 t n k ps.length).2 (by omega)
   rw [if_pos c6];generalize ah X A=C at k1 ⊢;simp [Gm.cells,c1,c2,c3,c4',k1,bI,c6']
   done
  ·have c6':¬_:=fun h=>c6 (by have:=(r7 t n k ps.length).1 h;omega)
   rw [if_neg c6];have k2:=fun L=>k2 L (aw (by omega) (by omega))
   obtain ⟨bb,hbb⟩:∃bb,ps.any (gP ⟨t,n,k,ps⟩)=bb:=⟨_,rfl⟩;rw [hbb];simp [Gm.cells,c1,c2,c3,c4',k1,bI,c6'];refine ax (σ:=Nat) (fun i=>[(1,.hp H.length 4 0),(39,.sl ps.length (psC ps)),(40,I ps.length),(41,I i)]) (fun _=>H++[.cells [I t,I n,I k,.sl ps.length (psC ps)]])
    (fun i=>i≤ps.length∧bb=(ps.drop i).any (gP ⟨t,n,k,ps⟩)) (fun i=>ps.length - i) ?_ 0 ⟨by omega,by rw [←hbb];rfl⟩ (by simp) rfl
   rintro i ⟨hi,hinv⟩;unfold B1;have w:IntKind.i64.wrap ((i:Int)+1)=(i:Int)+1:=aw (by omega) (by omega)
   by_cases hil:i < ps.length;case neg=>
    obtain rfl:i=ps.length:=by omega
    rw [List.drop_length] at hinv;have hinv:bb=false:=hinv;rw [hinv];simp
   obtain ⟨p,hp⟩:∃p,ps[i]=p:=⟨_,rfl⟩;have hpm:p∈ps:=hp▸List.getElem_mem hil;have hs:=bJ hil;have hll:=aU ps;have h2:i * 2+2≤2 * ps.length:=by omega
   rw [hp] at hs;simp only [Pr.cells] at hs;rw [List.drop_eq_getElem_cons hil,hp,List.any_cons] at hinv;have k3:=k2 H.length p hpm;generalize ah X A=C at k3 ⊢;simp [-a6,hil,hll,hs,h2];rw [a6];unfold gP at hinv;simp only at hinv;by_cases d1:p.l < 0
   ·rw [decide_eq_true d1] at hinv;simp only [Bool.true_or] at hinv;simp [aj,d1,hinv]
   rw [decide_eq_false d1] at hinv;by_cases d2:n≤p.l
   ·rw [decide_eq_true d2] at hinv;simp only [Bool.true_or,Bool.false_or] at hinv;simp [aj,d1,d2,hinv]
   rw [decide_eq_false d2] at hinv;cases d3:p.r.any (cC ⟨t,n,k,ps⟩) with
   | true=>
    rw [d3] at hinv k3;simp only [Bool.true_or,Bool.false_or] at hinv;simp [aj,d1,d2,k3,hinv]
   | false=>
    rw [d3] at hinv k3;simp only [Bool.false_or] at hinv;simp [aj,d1,d2,k3,w,ao];exact ⟨i+1,⟨by omega,hinv⟩,by omega,by simp⟩
end Go.Proofs.YtkllbcjanneppaaGreat

namespace Go.Proofs.YtkllbcjanneppaaGreat
open Go Go.Hm

theorem r8 {α:Type}(P:α→Bool):([]:List α).any P=false:=rfl
theorem bK {lk lim:Nat}{H:Heap}(g:Gm)(hl:g.ps.length≤1000000)(hr:∀p∈g.ps,p.r.length≤1000000):ah X A lk lim 39 [gV g] H=some (I (chkE g),H):=by
 refine aq [1,5] rfl A39 rfl rfl ?_;unfold Kw;obtain ⟨t,n,k,ps⟩:=g;simp only at hl hr;by_cases c1:8 < t
 ·have e:chkE ⟨t,n,k,ps⟩=3:=by unfold chkE;rw [if_pos (by simp only;omega)]
  rw [e];simp [Gm.cells,c1]
 by_cases c2:16 < n
 ·have e:chkE ⟨t,n,k,ps⟩=3:=by unfold chkE;rw [if_pos (by simp only;omega)]
  rw [e];simp [Gm.cells,c1,c2]
 by_cases c3:3 < k
 ·have e:chkE ⟨t,n,k,ps⟩=3:=by unfold chkE;rw [if_pos (by simp only;omega)]
  rw [e];simp [Gm.cells,c1,c2,c3]
 by_cases c4:64 < ps.length
 ·have e:chkE ⟨t,n,k,ps⟩=3:=by unfold chkE;rw [if_pos (by simp only;omega)]
  have c4':(64:Int) < ps.length:=by omega
  rw [e];simp [Gm.cells,c1,c2,c3,c4']
 have c4':¬(64:Int) < ps.length:=by omega
 have e1:chkE ⟨t,n,k,ps⟩=if (ps.any fun p=>decide (8 < p.r.length))=true then 3 else if t < 1∨n < 1∨k < 1∨ps.length < 1 then 2 else if ps.any (gP ⟨t,n,k,ps⟩)=true then 2 else 0:=by
  rw [chkE,if_neg (by simp only;omega)]
 rw [e1];obtain ⟨b1,hb1⟩:∃b1,(ps.any fun p=>decide (8 < p.r.length))=b1:=⟨_,rfl⟩;obtain ⟨b2,hb2⟩:∃b2,ps.any (gP ⟨t,n,k,ps⟩)=b2:=⟨_,rfl⟩;rw [hb1,hb2];simp [Gm.cells,c1,c2,c3,c4']
 let bx:AV:=.box [I t,I n,I k,.sl ps.length (psC ps)]
 refine ax (σ:=Nat) (fun i=>[(1,bx),(3,I i)]) (fun _=>H) (fun i=>i≤ps.length∧b1=(ps.drop i).any fun p=>decide (8 < p.r.length)) (fun i=>ps.length - i) ?_ 0 ⟨by omega,by rw [←hb1];rfl⟩ (by simp [bx]) rfl
 rintro i ⟨hi,hinv⟩;unfold GD;have w1:IntKind.i64.wrap ((i:Int)+1)=(i:Int)+1:=aw (by omega) (by omega)
 by_cases hil:i < ps.length
 ·obtain ⟨p,hp⟩:∃p,ps[i]=p:=⟨_,rfl⟩;have hr:=qi hil;rw [hp] at hr;rw [List.drop_eq_getElem_cons hil,hp,List.any_cons] at hinv;by_cases d1:8 < p.r.length
  ·have d1':(8:Int) < p.r.length:=by omega
   rw [decide_eq_true d1,Bool.true_or] at hinv;simp [bx,hil,hr,d1',hinv]
  ·have d1':¬(8:Int) < p.r.length:=by omega
   rw [decide_eq_false d1,Bool.false_or] at hinv;simp [bx,hil,hr,d1',w1,ao];exact ⟨i+1,⟨by omega,hinv⟩,by omega,by simp⟩
 obtain rfl:i=ps.length:=by omega
 rw [List.drop_length,r8] at hinv;subst hinv;by_cases f1:t < 1
 ·simp [bx,f1]
 by_cases f2:n < 1
 ·simp [bx,f1,f2]
 by_cases f3:k < 1
 ·simp [bx,f1,f2,f3]
 by_cases f4:ps.length < 1
 ·have f4':(ps.length:Int) < 1:=by omega
  simp [bx,f1,f2,f3,f4,f4'];intro h;exact absurd (List.length_eq_zero_iff.1 (by omega)) h
 have f4':¬(ps.length:Int) < 1:=by omega
 have wtn:IntKind.i64.wrap (t+n)=t+n:=aw (by omega) (by omega)
 have hne:ps≠[]:=by intro h;rw [h] at f4;simp at f4
 simp [bx,f1,f2,f3,f4',hne];refine ax (σ:=Nat) (fun i=>[(1,bx),(4,I i)]) (fun _=>H) (fun i=>i≤ps.length∧b2=(ps.drop i).any (gP ⟨t,n,k,ps⟩)) (fun i=>ps.length - i) ?_ 0 ⟨by omega,by rw [←hb2];rfl⟩ (by simp [bx]) rfl
 rintro i ⟨hi,hinv⟩;unfold GG;have w1:IntKind.i64.wrap ((i:Int)+1)=(i:Int)+1:=aw (by omega) (by omega)
 by_cases hil:i < ps.length;case neg=>
  obtain rfl:i=ps.length:=by omega
  rw [List.drop_length,r8] at hinv;subst hinv;simp [bx]
 obtain ⟨p,hp⟩:∃p,ps[i]=p:=⟨_,rfl⟩;have hrp:=hr p (hp▸List.getElem_mem hil);have hs:=bJ hil;have hll:=aU ps;have h2:i * 2+2≤2 * ps.length:=by omega
 rw [hp] at hs;simp only [Pr.cells] at hs;rw [List.drop_eq_getElem_cons hil,hp,List.any_cons] at hinv;simp [-a6,bx,hil,hll,hs,h2];rw [a6];unfold gP at hinv;simp only at hinv;by_cases d1:p.l < 0
 ·rw [decide_eq_true d1] at hinv;simp only [Bool.true_or] at hinv;subst hinv;simp [aj,d1]
 rw [decide_eq_false d1] at hinv;by_cases d2:n≤p.l
 ·rw [decide_eq_true d2] at hinv;simp only [Bool.true_or,Bool.false_or] at hinv;subst hinv;simp [aj,d1,d2]
 rw [decide_eq_false d2] at hinv;simp only [Bool.false_or] at hinv;simp [aj,d1,d2];refine ax (σ:=Nat) (fun m=>[(1,bx),(4,I i),(5,.box [I p.l,.sl p.r.length (ints p.r)]),(6,I m)]) (fun _=>H)
  (fun m=>m≤p.r.length∧p.r.any (cC ⟨t,n,k,ps⟩)=(p.r.drop m).any (cC ⟨t,n,k,ps⟩)) (fun m=>p.r.length - m) ?_ 0 ⟨by omega,rfl⟩ (by simp [bx]) rfl
 rintro m ⟨hm,hinv2⟩;unfold GF;have w2:IntKind.i64.wrap ((m:Int)+1)=(m:Int)+1:=aw (by omega) (by omega)
 by_cases hml:m < p.r.length;case neg=>
  obtain rfl:m=p.r.length:=by omega
  rw [List.drop_length,r8] at hinv2;rw [hinv2,Bool.false_or] at hinv;simp [bx,w1,ao];exact ⟨i+1,⟨by omega,hinv⟩,by omega,by simp⟩
 obtain ⟨s,hsx⟩:∃s,p.r[m]=s:=⟨_,rfl⟩;rw [List.drop_eq_getElem_cons hml,hsx,List.any_cons] at hinv2;unfold cC at hinv2;simp only at hinv2;by_cases e1:s < 0
 ·rw [decide_eq_true e1] at hinv2;simp only [Bool.true_or] at hinv2;have hb:b2=true:=by rw [hinv,show p.r.any (cC ⟨t,n,k,ps⟩)=true from hinv2];rfl
  subst hb;simp [bx,hml,hsx,e1]
 rw [decide_eq_false e1] at hinv2;by_cases e2:t+n≤s
 ·rw [decide_eq_true e2] at hinv2;simp only [Bool.true_or,Bool.false_or] at hinv2;have hb:b2=true:=by rw [hinv,show p.r.any (cC ⟨t,n,k,ps⟩)=true from hinv2];rfl
  subst hb;simp [bx,hml,hsx,e1,e2,wtn]
 rw [decide_eq_false e2] at hinv2;simp only [Bool.false_or] at hinv2;simp [bx,hml,hsx,e1,e2,wtn,w2,ao];exact ⟨m+1,⟨by omega,hinv2⟩,by omega,by simp⟩
end Go.Proofs.YtkllbcjanneppaaGreat

namespace Go.Proofs.YtkllbcjanneppaaGreat
open Go Go.Hm
theorem br {g:Gm}(h:chkE g=0):GOk g:=by
 unfold chkE at h;split at h
 ·omega
 ·split at h
  ·omega
  ·split at h
   ·omega
   ·split at h
    ·omega
    ·rename_i h1 h2 h3 h4;simp only [Bool.not_eq_true,List.any_eq_false,decide_eq_true_eq] at h2 h4;refine ⟨by omega,by omega,by omega,by omega,by omega,by omega,by omega,by omega,fun p hp=>?_⟩
     have h5:=h2 p hp;have h6:=h4 p hp;have h6:gP g p=false:=by simpa using h6
     simp only [gP,Bool.or_eq_false_iff,decide_eq_false_iff_not,List.any_eq_false] at h6;refine ⟨by omega,by omega,by omega,fun x hx=>?_⟩
     have h7:=h6.2 x hx;simp only [cC,Bool.or_eq_true,decide_eq_true_eq,not_or] at h7;omega
end Go.Proofs.YtkllbcjanneppaaGreat

namespace Go.Proofs.YtkllbcjanneppaaGreat
open Go Go.Hm

theorem eP (a:List UInt8):(⟨⟨a⟩⟩:ByteArray).toList=a:=by rw [ByteArray.toList_eq]
theorem r9 (a b:List UInt8):ez .neq ⟨⟨a⟩⟩ ⟨⟨b⟩⟩=some (Bo (!(a==b))):=by
 simp only [ez,eP]
theorem sa (a b:List UInt8):ez .eql ⟨⟨a⟩⟩ ⟨⟨b⟩⟩=some (Bo (a==b)):=by
 simp only [ez,eP]
theorem kP (a:List UInt8):ez .neq ⟨⟨a⟩⟩ ⟨#[]⟩=some (Bo (!(a==[]))):=r9 a []
theorem gQ (a:List UInt8):ez .eql ⟨⟨a⟩⟩ ⟨#[]⟩=some (Bo (a==[])):=sa a []
theorem Jh (a b:List UInt8):ez .leq ⟨⟨a⟩⟩ ⟨⟨b⟩⟩=some (Bo (Op.bytesLess a b||a==b)):=by
 simp only [ez,eP]
theorem Ji (a b:List UInt8):(⟨⟨a⟩⟩:ByteArray)++⟨⟨b⟩⟩=⟨⟨a++b⟩⟩:=by
 apply ByteArray.ext;simp [ByteArray.data_append]
theorem wt {a b:List UInt8}(h:a.length+b.length≤9223372036854775807):ez .add ⟨⟨a⟩⟩ ⟨⟨b⟩⟩=some (Sg (a++b)):=by
 have hm:IntKind.i64.max=9223372036854775807:=by decide
 show (if (((a.length+b.length:Nat):Int)) > IntKind.i64.max then none else some (AV.val (.string (⟨⟨a⟩⟩++⟨⟨b⟩⟩))))=_;rw [hm,if_neg (by omega),Ji]

theorem m7 (c:UInt8):((c.toNat:Int)==255)=(c==255):=by
 rw [Bool.eq_iff_iff,beq_iff_eq,beq_iff_eq];constructor
 ·intro h;exact UInt8.toNat_inj.1 (by rw [show (255:UInt8).toNat=255 from rfl];omega)
 ·rintro rfl;rfl
theorem kQ {x:List UInt8}(h:x≠[]):∃c,x[x.length - 1]?=some c∧x.getLast?=some c:=by
 refine ⟨x.getLast h,?_,List.getLast?_eq_some_getLast h⟩;rw [←List.getLast?_eq_getElem?,List.getLast?_eq_some_getLast h]
theorem wu {lk lim:Nat}{H:Heap}(k:Nat)(x:List UInt8)(hx:x.length≤1000000000000000):ah X A lk lim 103 [I k,Sg x] H=some (Bo (b5 k x),H):=by
 refine aq [] rfl Mw rfl rfl ?_;unfold G0;by_cases h1:k≤x.length
 ·have h1':(k:Int)≤x.length:=by omega
  have hw:b5 k x=true:=lQ h1;rw [hw];simp [cq,h1,h1']
 have h1':¬(k:Int)≤x.length:=by omega
 by_cases h2:x=[]
 ·subst h2;have hw:b5 k []=false:=by simp at h1;simp [b5];omega
  rw [hw];have hk:¬k=0:=by simp at h1;omega
  simp [cq,hk,kP]
 obtain ⟨c,hc,hl⟩:=kQ h2;have hpos:0 < x.length:=List.length_pos_iff.2 h2;have w1:IntKind.i64.wrap ((x.length:Int) - 1)=((x.length - 1:Nat):Int):=by rw [aw (by omega) (by omega)];omega
 have hw:b5 k x=(c==255):=by simp [b5,h1,hl]
 have hx2:(x==[])=false:=by simp [h2]
 rw [hw];simp [cq,h1',kP,hx2,w1,jM,hc,m7]

def cG (ks:List (List UInt8))(x:List UInt8):List (List UInt8):=if x∈ks then ks else ks++[x]
def js (ks:List (List UInt8)):List (AV×AV):=ks.map fun x=>(Sg x,.agg [])
theorem uf {ks:List (List UInt8)}{x z:List UInt8}:z∈cG ks x↔z∈ks∨z=x:=by
 unfold cG;split
 ·rename_i h;constructor
  ·exact .inl
  ·rintro (h1 | rfl)
   ·exact h1
   ·exact h
 ·simp
theorem ug (ks:List (List UInt8))(x:List UInt8):(cG ks x).length≤ks.length+1:=by
 unfold cG;split<;>simp
theorem eqK (a b:List UInt8):ed false [2] (Sg a) (Sg b)=some (a==b):=by
 simp [ed,bA,eP]
theorem Cu (x:List UInt8):∀ks:List (List UInt8),eC false [2] (Sg x) (.agg []) (js ks)=some (js (cG ks x))
 | []=>by simp [js,cG,eC]
 | y::ks=>by
  have ih:=Cu x ks;show eC false [2] (Sg x) (.agg []) ((Sg y,.agg [])::js ks)=_;unfold eC;rw [eqK];by_cases h:x=y
  ·subst h;simp [js,cG]
  ·have hb:(x==y)=false:=by simp [h]
   rw [hb];simp only [ih];unfold cG;by_cases hm:x∈ks
   ·rw [if_pos hm,if_pos (List.mem_cons_of_mem _ hm)];rfl
   ·rw [if_neg hm,if_neg (by simp [h,hm])];rfl
theorem xO:∀ks:List (List UInt8),kK (js ks)=some ks
 | []=>rfl
 | x::ks=>by
  show kK ((Sg x,.agg [])::js ks)=_;simp only [kK,xO ks]
end Go.Proofs.YtkllbcjanneppaaGreat

namespace Go.Proofs.YtkllbcjanneppaaGreat
open Go Go.Hm

theorem Cv {lk lim:Nat}{H:Heap}{b:Nat}{ks:List (List UInt8)}(x:List UInt8)(hb:H[b]?=some (.map (js ks)))(hlk:lk≤b):
  ah X A lk lim 104 [.mp b,.sl 1 [Sg x]] H=some (.tup [],H.set b (.map (js (cG ks x)))):=by
 have hbl:b < H.length:=(List.getElem?_eq_some_iff.1 hb).1;have ha:aO (.agg [])=true:=rfl;have hbel:Hm.below 0 (.agg [])=true:=rfl;have hko:dz false [2] (Sg x)=true:=by simp [dz,eqK]
 refine aq [] rfl My rfl rfl ?_;unfold G3;simp;refine ax (σ:=Nat) (fun i=>[(0,.mp b),(6,.sl 1 [Sg x]),(7,I 1),(8,I i)]) (fun i=>if i=0 then H else H.set b (.map (js (cG ks x)))) (fun i=>i≤1) (fun i=>1 - i) ?_ 0 (by omega) (by simp [ab,find]) rfl
 intro i hi;unfold B7;by_cases h0:i=0
 ·subst h0;simp [-iG,-ae];rw [ae];simp [-iG];rw [iG];simp [hb,Cu,hko,ha,hbel,hlk,ao];exact ⟨1,by omega,by omega,by decide,fun h=>by omega⟩
 ·obtain rfl:i=1:=by omega
  simp;exact List.take_of_length_le (by simp)
end Go.Proofs.YtkllbcjanneppaaGreat

namespace Go.Proofs.YtkllbcjanneppaaGreat
open Go Go.Hm

def pl (ks l:List (List UInt8)):List (List UInt8):=l.foldl cG ks
theorem kR (ks l:List (List UInt8))(x:List UInt8):pl ks (l++[x])=cG (pl ks l) x:=by simp [pl]
theorem Cw (ks l m:List (List UInt8)):pl ks (l++m)=pl (pl ks l) m:=by simp [pl]
theorem iM:∀(l ks:List (List UInt8)),(pl ks l).length≤ks.length+l.length
 | [],ks=>by simp [pl]
 | x::l,ks=>by
  have h1:=iM l (cG ks x);have h2:=ug ks x;simp only [pl,List.foldl_cons,List.length_cons] at h1 ⊢;omega
theorem wv {z:List UInt8}:∀(l ks:List (List UInt8)),z∈pl ks l↔z∈ks∨z∈l
 | [],ks=>by simp [pl]
 | x::l,ks=>by
  have h1:=wv (z:=z) l (cG ks x);simp only [pl,List.foldl_cons] at h1 ⊢;rw [h1,uf,List.mem_cons,or_assoc]
theorem Cy {A l K:List (List UInt8)}(h:pl [] A=K):pl [] (A++l)=pl K l:=by rw [Cw,h]
theorem xP (l:List (List UInt8)):bz (pl [] l)=bz l:=oj fun x=>by simp [wv]
theorem qj {l:List (List UInt8)}{i:Nat}(h:i < l.length):(ay l)[i]?=some (Sg l[i]):=by simp [ay,h]
theorem bw {l:List (List UInt8)}{i:Nat}(h:i < l.length):(ay l)[i]'(by simpa [ay] using h)=Sg l[i]:=by simp [ay]
theorem aQ (l:List (List UInt8)):(ay l).length=l.length:=by simp [ay]
theorem m8 (H:Heap)(x y:HB):(H++[x]).set H.length y=H++[y]:=by simp
theorem sd (H:Heap)(x:HB):(H++[x])[H.length]?=some x:=by simp
theorem jR (l:List UInt8)(a b:Nat):(⟨⟨l⟩⟩:ByteArray).extract a b=⟨⟨(l.take b).drop a⟩⟩:=by
 apply ByteArray.ext;simp [ByteArray.data_extract,List.drop_take]
theorem eR (lim:Nat)(H:Heap)(d:Nat)(l:List (List UInt8)):eh (frz lim H d) (ay l)=some (ay l):=by
 induction l with
 | nil=>rfl
 | cons a l ih=>
  simp only [ay,List.map_cons,eh,gI] at ih ⊢;rw [ih]
theorem bU (lim:Nat)(l:List (List UInt8)):belowL lim (ay l)=true:=bv.2 fun a ha=>by
 unfold ay at ha;obtain ⟨x,_,rfl⟩:=List.mem_map.1 ha;rfl
theorem jS (l:List (List UInt8))(n:Nat)(h:l.length≤n):(ay l).take n=ay l:=List.take_of_length_le (by simpa [ay] using h)
theorem uh (k:Nat)(x:List UInt8):x.take (min k x.length)=x.take k:=by
 rw [Nat.min_def];split
 ·rfl
 ·rw [List.take_length,List.take_of_length_le (by omega)]
def catV (k:Nat)(a b:List (List UInt8)):AV:=if b=[] then .e0 else rowsV (cat k a b)
def RV (v:AV)(l:List (List UInt8)):Prop:=v=rowsV l∨(v= .e0∧l=[])
theorem RV.cat (k:Nat)(a b:List (List UInt8)):RV (catV k a b) (cat k a b):=by
 unfold catV RV;split
 ·rename_i h;exact .inr ⟨rfl,by unfold Go.Proofs.YtkllbcjanneppaaGreat.cat;rw [if_pos h]⟩
 ·exact .inl rfl

attribute [simp] aQ eR bU jS
theorem kS (k:Nat)(b:List (List UInt8))(hb:b≠[]):∀a:List (List UInt8),(cE k a b).length≤a.length * b.length
 | []=>by simp [cE]
 | x::a=>by
  have ih:=kS k b hb a;have:=List.length_pos_iff.2 hb;have h1:cE k (x::a) b=(if b5 k x=true then [x.take k] else b.map fun y=>(x++y).take k)++cE k a b:=by simp [cE]
  rw [h1,List.length_append,List.length_cons,Nat.succ_mul];split
  ·simp only [List.length_cons,List.length_nil];omega
  ·simp only [List.length_map];omega
theorem FH {k:Nat}{a b:List (List UInt8)}(ha:∀x∈a,x.length≤1000000)(hb:∀x∈b,x.length≤1000000):∀z∈cE k a b,z.length≤2000000:=fun z hz=>by
 obtain ⟨x,hx,h⟩:=List.mem_flatMap.1 hz;have h1:=ha x hx;split at h
 ·simp only [List.mem_singleton] at h;subst h;rw [List.length_take];omega
 ·obtain ⟨y,hy,rfl⟩:=List.mem_map.1 h;have h2:=hb y hy;rw [List.length_take,List.length_append];omega
theorem ww (n m:Nat)(hn:n≤2000000)(hm:m≤2000000):n * m≤4000000000000:=Nat.le_trans (Nat.mul_le_mul hn hm) (by decide)
theorem qk (G:Heap)(K:List (List UInt8))(b:Nat)(hb:G[b]?=some (.map (js K)))(hl:K.length≤8000000000000)(he:∀z∈K,z.length≤9223372036854775807):fF [.mp b] G=some (rowsV (bz K),G):=by
 unfold fF;simp only [de,hb,xO];rw [if_pos ⟨hl,List.all_eq_true.2 fun x hx=>decide_eq_true (he x hx)⟩]

section
variable {lk lim:Nat}{H:Heap}(hlk:lk≤H.length)(k:Nat)(a b:List (List UInt8))(hb0:b≠[])(hla:a.length≤2000000)(hlb:b.length≤2000000)(ha:∀x∈a,x.length≤1000000)(hb:∀x∈b,x.length≤1000000)
include hlk hb0 hla hlb ha hb
theorem zk (ki:Int)(hki:ki.toNat=k):ah X A lk lim 85 [I ki,rowsV a,rowsV b] H=some (rowsV (cat k a b),H):=by
 have kw:=fun (L:Nat) (G:Heap) (x:List UInt8) (hx:x.length≤1000000000000000)=>wu (lk:=lk) (lim:=L) (H:=G) k x hx;have kp:=fun (L:Nat) (ks:List (List UInt8)) (x:List UInt8)=>Cv (lk:=lk) (lim:=L) (H:=H++[.map (js ks)]) (b:=H.length) (ks:=ks) x (sd _ _) hlk;have kp:=fun (L:Nat) (ks:List (List UInt8)) (x:List UInt8)=>(kp L ks x).trans (by rw [m8])
 have ks:∀(L:Nat) (G:Heap) (m:AV) (r:AV×Heap),fF [m] G=some r→ah X A lk L 105 [m] G=some r:=fun L G m r h=>d8 h;have hcl:=kS k b hb0 a;have hcm:=ww _ _ hla hlb;have ksr:=fun (L:Nat)=>ks L (H++[.map (js (pl [] (cE k a b)))]) (.mp H.length) _ (qk _ _ _ (sd _ _) (by have:=iM (cE k a b) [];simp at this;omega) fun z hz=>by
  have h1:=(wv _ _).1 hz;have h2:=FH (k:=k) ha hb z (h1.resolve_left (by simp))
  omega)
 rw [xP] at ksr;have hcat:cat k a b=bz (cE k a b):=if_neg hb0;refine aq [] rfl A85 rfl rfl ?_;unfold FE;generalize ah X A=C at kw kp ksr ⊢;have hbl:((b.length:Int)==0)=false:=by
  have:=List.length_pos_iff.2 hb0;simp;omega
 have hm:bI true [I ki] .i64 0=some (.i64,(k:Int)):=by
  simp [bI];omega
 have hmn:∀x:List UInt8,bI false [I (x.length:Int)] .i64 k=some (.i64,((min k x.length:Nat):Int)):=fun x=>by
  simp [bI];omega
 simp [aQ,hbl,hm];refine ax (σ:=Nat) (fun i=>[(0,I k),(2,rowsV b),(7,.mp H.length),(19,rowsV a),(20,I a.length),(21,I i)]) (fun i=>H++[.map (js (pl [] (cE k (a.take i) b)))]) (fun i=>i≤a.length) (fun i=>a.length - i) ?_ 0 (by omega) (by simp [ab,find]) (by simp [cE,pl,js])
 intro i hi;unfold B6;by_cases hil:i < a.length
 ·have hil':(i:Int) < a.length:=by omega
  have w1:IntKind.i64.wrap ((i:Int)+1)=(i:Int)+1:=aw (by omega) (by omega)
  have ga:=bw hil;have hx:=ha a[i] (List.getElem_mem hil);have kw1:=fun (L:Nat) (G:Heap)=>kw L G a[i] (by omega)
  have hsn:cE k (a.take (i+1)) b=cE k (a.take i) b++(if b5 k a[i]=true then [a[i].take k] else b.map fun y=>(a[i]++y).take k):=by
   unfold cE;rw [List.take_succ_eq_append_getElem hil,List.flatMap_append,List.flatMap_cons,List.flatMap_nil,List.append_nil]
  generalize a[i]=x at ga hx kw1 hsn;obtain ⟨K,hK⟩:∃K,pl [] (cE k (a.take i) b)=K:=⟨_,rfl⟩;rw [hK];cases hw:b5 k x with
  | true=>
   rw [hw] at kw1 hsn;rw [if_pos rfl] at hsn;have hmx:=hmn x;have hmk:min k x.length≤x.length:=Nat.min_le_right ..;have htk:=uh k x;generalize min k x.length=m at hmx hmk htk;simp [hil,hil',aQ,ga,kw1,cq,hmx,jR,htk,kp,w1,ao,hmk,bnd];exact ⟨i+1,by omega,by omega,by omega,by rw [hsn,kR,hK]⟩
  | false=>
   rw [hw] at kw1 hsn;rw [if_neg Bool.false_ne_true] at hsn;simp [hil,hil',aQ,ga,kw1];refine ax (σ:=Nat) (fun j=>[(0,I k),(2,rowsV b),(7,.mp H.length),(9,Sg x),(19,rowsV a),(20,I a.length),(21,I i),(37,rowsV b),(38,I b.length),(39,I j)])
    (fun j=>H++[.map (js (pl K ((b.take j).map fun y=>(x++y).take k)))]) (fun j=>j≤b.length) (fun j=>b.length - j) ?_ 0 (by omega) (by simp [ab,find]) (by simp [pl])
   intro j hj;unfold GZ;by_cases hjl:j < b.length
   ·have hjl':(j:Int) < b.length:=by omega
    have w2:IntKind.i64.wrap ((j:Int)+1)=(j:Int)+1:=aw (by omega) (by omega)
    have gb:=bw hjl;have hy:=hb b[j] (List.getElem_mem hjl);have hsj:pl K ((b.take (j+1)).map fun y=>(x++y).take k)=cG (pl K ((b.take j).map fun y=>(x++y).take k)) ((x++b[j]).take k):=by
     rw [List.take_succ_eq_append_getElem hjl,List.map_append,List.map_cons,List.map_nil,kR]
    generalize b[j]=y at gb hy hsj;have hadd:=wt (a:=x) (b:=y) (by omega)
    have hmx:=hmn (x++y);have hmk:min k (x++y).length≤(x++y).length:=Nat.min_le_right ..;have htk:=uh k (x++y);generalize min k (x++y).length=m at hmx hmk htk;generalize x++y=z at hadd hmx hmk htk hsj;obtain ⟨K2,hK2⟩:∃K2,pl K ((b.take j).map fun y=>(x++y).take k)=K2:=⟨_,rfl⟩;rw [hK2] at hsj ⊢;simp [hjl,hjl',aQ,gb,hadd,cq,hmx,jR,htk,kp,w2,ao,hmk,bnd];exact ⟨j+1,by omega,by omega,by omega,by rw [←List.map_take,hsj]⟩
   ·obtain rfl:j=b.length:=by omega
    rw [List.take_length,←Cy hK,←hsn];simp [w1,ao];exact ⟨i+1,by omega,by omega,by omega,rfl⟩
 ·obtain rfl:i=a.length:=by omega
  simp [ksr,hcat,List.take_length]
end
theorem kT {lk lim:Nat}{H:Heap}(hlk:lk≤H.length)(k:Int){va vb:AV}{a b:List (List UInt8)}(hva:RV va a)(hvb:RV vb b)(hla:a.length≤2000000)(hlb:b.length≤2000000)(ha:∀x∈a,x.length≤1000000)(hb:∀x∈b,x.length≤1000000):
  ah X A lk lim 85 [I k,va,vb] H=some (catV k.toNat a b,H):=by
 by_cases hb0:b=[]
 ·subst hb0;rw [show catV k.toNat a []= .e0 from if_pos rfl];rcases hva with rfl | ⟨rfl,rfl⟩<;>rcases hvb with rfl | ⟨rfl,_⟩;all_goals
   refine aq [] rfl A85 rfl rfl ?_;unfold FE;generalize ah X A=C;simp
 ·have hbv:vb=rowsV b:=by
   rcases hvb with rfl | ⟨_,e⟩
   ·rfl
   ·exact absurd e hb0
  subst hbv;have hcv:catV k.toNat a b=rowsV (cat k.toNat a b):=if_neg hb0;rw [hcv];rcases hva with rfl | ⟨rfl,rfl⟩
  ·exact zk hlk k.toNat a b hb0 hla hlb ha hb k rfl
  ·have ksr:∀(L:Nat),ah X A lk L 105 [.mp H.length] (H++[.map []])=some (rowsV [],H++[.map []]):=fun L=>d8 (qk _ [] _ (sd _ _) (by simp) (by simp))
   have hbl:((b.length:Int)==0)=false:=by
    have:=List.length_pos_iff.2 hb0;simp;omega
   have hm:bI true [I k] .i64 0=some (.i64,(k.toNat:Int)):=by
    simp [bI];omega
   have hcat:cat k.toNat [] b=[]:=by simp [cat,cE,bz]
   rw [hcat];refine aq [] rfl A85 rfl rfl ?_;unfold FE;generalize ah X A=C at ksr ⊢;simp [hbl,hm];refine ax (σ:=Unit) (fun i=>[(0,I k.toNat),(2,rowsV b),(7,.mp H.length),(19,.e0),(20,I 0),(21,I 0)]) (fun i=>H++[.map []]) (fun i=>True) (fun i=>0) ?_ () trivial (by simp [ab,find]) (by simp)
   intro i _;unfold B6;simp [ksr]
end Go.Proofs.YtkllbcjanneppaaGreat

namespace Go.Proofs.YtkllbcjanneppaaGreat
open Go Go.Hm

theorem oE:∀l:List (List UInt8),fb (ay l)=some l
 | []=>rfl
 | x::l=>by
  show fb (Sg x::ay l)=_;simp only [fb,oE l]
theorem kU {H:Heap}{v:AV}{l:List (List UInt8)}(h:RV v l):bh H v=some (ay l)∧slN v=l.length:=by
 rcases h with rfl | ⟨rfl,rfl⟩
 ·exact ⟨rfl,rfl⟩
 ·exact ⟨rfl,rfl⟩
theorem oG {lk lim:Nat}{H:Heap}{va vb:AV}{a b:List (List UInt8)}(ha:RV va a)(hb:RV vb b)(hl:a.length+b.length≤8000000000000):ah X A lk lim 99 [va,vb] H=some (rowsV (uni a b),H):=by
 refine d8 ?_;have h1:=kU (H:=H) ha;have h2:=kU (H:=H) hb;show jO [va,vb] H=_;unfold jO;simp only [h1.1,h2.1,oE];rw [if_pos ⟨h1.2.symm,h2.2.symm,hl⟩];rfl
theorem wx {lk lim:Nat}{H:Heap}(l:List (List UInt8))(x:List UInt8)(hl:l.length≤1000000000):ah X A lk lim 115 [rowsV l,Sg x] H=some (I (dP (fun y=>x==y) l 0),H):=by
 refine aq [] rfl Lw rfl rfl ?_;unfold Ck;generalize ah X A=C;simp;refine ax (σ:=Nat) (fun i=>[(0,rowsV l),(1,Sg x),(7,I l.length),(8,I i)]) (fun _=>H)
  (fun i=>i≤l.length∧dP (fun y=>x==y) (l.drop i) i=dP (fun y=>x==y) l 0) (fun i=>l.length - i) ?_ 0 (by simp) (by simp [ab,find]) rfl
 rintro i ⟨hi,hinv⟩;unfold wl;have w:IntKind.i64.wrap ((i:Int)+1)=(i:Int)+1:=aw (by omega) (by omega)
 by_cases hil:i < l.length
 ·have ga:=bw hil;rw [List.drop_eq_getElem_cons hil] at hinv;generalize l[i]=y at ga hinv;simp only [dP] at hinv;have he:=sa x y;cases hpx:x==y with
  | true=>
   rw [hpx] at he;rw [if_pos (show ((fun y=>x==y) y)=true from hpx)] at hinv;rw [←hinv];simp [hil,ga,he]
  | false=>
   rw [hpx] at he;rw [if_neg (show ¬((fun y=>x==y) y)=true from by simp [hpx])] at hinv
   simp [hil,ga,he,w,ao];exact ⟨i+1,⟨by omega,hinv⟩,by omega,by simp⟩
 ·obtain rfl:i=l.length:=by omega
  rw [List.drop_length] at hinv;simp only [dP] at hinv;rw [←hinv];simp
theorem Cz {lk lim:Nat}{H:Heap}(x:List UInt8):ah X A lk lim 115 [.e0,Sg x] H=some (I (-1),H):=by
 refine aq [] rfl Lw rfl rfl ?_;unfold Ck;generalize ah X A=C;simp;refine ax (σ:=Unit) (fun i=>[(0,.e0),(1,Sg x),(7,I 0),(8,I 0)]) (fun _=>H) (fun i=>True) (fun i=>0) ?_ () trivial (by simp [ab,find]) rfl
 intro i _;unfold wl;simp
def ce (l:List (List UInt8))(x:List UInt8):Bool:=l.any fun y=>x==y
theorem CA {l:List (List UInt8)}{x:List UInt8}:ce l x=true↔x∈l:=by
 simp [ce,List.any_eq_true]
theorem CB {lk lim:Nat}{H:Heap}{v:AV}{l:List (List UInt8)}(hv:RV v l)(x:List UInt8)(hl:l.length≤1000000000):ah X A lk lim 89 [v,Sg x] H=some (Bo (ce l x),H):=by
 have k:∀L,∃r:Int,ah X A lk L 115 [v,Sg x] H=some (I r,H)∧decide (0≤r)=ce l x:=fun L=>by
  rcases hv with rfl | ⟨rfl,rfl⟩
  ·exact ⟨_,wx l x hl,gv _ l 0 (Int.le_refl _)⟩
  ·exact ⟨_,Cz x,rfl⟩
 have ha:aO v=true:=by rcases hv with rfl | ⟨rfl,_⟩<;>rfl
 have k39:∀L,ah X A lk L 108 [v,Sg x] H=some (Bo (ce l x),H):=fun L=>by
  obtain ⟨r,h1,h2⟩:=k H.length;rcases hv with rfl | ⟨rfl,rfl⟩;all_goals
   refine aq [] rfl MB rfl rfl ?_;unfold G8;generalize ah X A=C at h1 ⊢;simp [h1,h2]
 have h1:=k39 H.length;rcases hv with rfl | ⟨rfl,rfl⟩;all_goals
  refine aq [] rfl A89 rfl rfl ?_;unfold Lg;generalize ah X A=C at h1 ⊢;simp [h1]

end Go.Proofs.YtkllbcjanneppaaGreat

namespace Go.Proofs.YtkllbcjanneppaaGreat
open Go Go.Hm

def SC (cs:List AV)(S:Ss):Prop:=cs.length=S.length∧∀(j:Nat) v,cs[j]?=some v→RV v (S.getD j [])
theorem SC.get {cs:List AV}{S:Ss}(h:SC cs S){j:Nat}(hj:j < S.length):∃v,cs[j]?=some v∧RV v (S.getD j []):=by
 have:j < cs.length:=by rw [h.1];exact hj
 exact ⟨cs[j],List.getElem?_eq_getElem this,h.2 j _ (List.getElem?_eq_getElem this)⟩
def ofV (g:Gm)(S:Ss)(r:List Int):AV:=match r.getLast? with
 | none=>rowsV [[]]
 | some s=>catV g.k.toNat (ofM g S r.dropLast) (nxt g S s)
theorem xQ (g:Gm)(S:Ss):ofV g S []=rowsV [[]]:=rfl
theorem oI (g:Gm)(S:Ss)(r:List Int)(s:Int):ofV g S (r++[s])=catV g.k.toNat (ofM g S r) (nxt g S s):=by
 unfold ofV;rw [List.getLast?_append,List.dropLast_concat];rfl
theorem oJ (g:Gm)(S:Ss)(r:List Int)(s:Int):ofM g S (r++[s])=cat g.k.toNat (ofM g S r) (nxt g S s):=by simp [ofM]
theorem gR (g:Gm)(S:Ss)(r:List Int):RV (ofV g S r) (ofM g S r):=by
 rcases List.eq_nil_or_concat r with rfl | ⟨r,s,rfl⟩
 ·exact .inl rfl
 ·rw [List.concat_eq_append,oI,oJ];exact RV.cat ..
theorem CC {v:AV}{l:List (List UInt8)}(h:RV v l):aO v=true:=by rcases h with rfl | ⟨rfl,_⟩<;>rfl
theorem aA {v:AV}{l:List (List UInt8)}(h:RV v l):(v= .e0)∨v=rowsV l:=h.symm.imp And.left id
theorem fG (s:Int):IntKind.u8.wrap s=((byteI s).toNat:Int):=by
 unfold byteI;rw [UInt8.toNat_ofNat'];show s % 256=_;omega
theorem iP (c:UInt8):ea [.val (.int .u8 (c.toNat:Int))]=some [c]:=by
 simp [ea]

theorem CD {lk lim:Nat}{H:Heap}(hlk:lk≤H.length)(g:Gm)(v4:AV){cs:List AV}{S:Ss}(hS:SC cs S)(r:List Int)(hr:∀s∈r,s < g.t+S.length)(hg:0≤g.t∧g.t≤1000000)(hl:r.length≤1000000)(hSl:S.length≤1000000)
  (hO:∀i,(ofM g S (r.take i)).length≤2000000∧∀x∈ofM g S (r.take i),x.length≤1000000) (hN:∀s∈r,(nxt g S s).length≤2000000∧∀x∈nxt g S s,x.length≤1000000):
  ah X A lk lim 100 [.agg [I g.t,I g.n,I g.k,v4],.sl cs.length cs,.sl r.length (ints r)] H=some (ofV g S r,H):=by
 have kc:=fun (L:Nat) (va vb:AV) (a b:List (List UInt8)) (h1:RV va a) (h2:RV vb b) (h3:a.length≤2000000) (h4:b.length≤2000000) h5 h6=>kT (lk:=lk) (lim:=L) (H:=H) hlk g.k h1 h2 h3 h4 h5 h6;refine aq [3] rfl Lu rfl rfl ?_;unfold B5;generalize ah X A=C at kc ⊢;simp;refine ax (σ:=Nat) (fun i=>[(1,.sl cs.length cs),(3,.box [I g.t,I g.n,I g.k,v4]),(7,ofV g S (r.take i)),(12,.sl r.length (ints r)),(13,I r.length),(14,I i)]) (fun _=>H) (fun i=>i≤r.length) (fun i=>r.length - i) ?_ 0 (by omega) (by simp [ab,find,xQ,ay]) rfl
 intro i hi;unfold wk;by_cases hil:i < r.length
 ·have hil':(i:Int) < r.length:=by omega
  have w1:IntKind.i64.wrap ((i:Int)+1)=(i:Int)+1:=aw (by omega) (by omega)
  have hrs:=hr r[i] (List.getElem_mem hil);have hn:=hN r[i] (List.getElem_mem hil);have ho:=hO i;have hrv:=gR g S (r.take i);have hsn:=oI g S (r.take i) r[i];rw [←List.take_succ_eq_append_getElem hil] at hsn;obtain ⟨s,hs⟩:∃s,r[i]=s:=⟨_,rfl⟩;rw [hs] at hrs hn hsn;generalize ofM g S (r.take i)=o at ho hrv hsn;generalize ofV g S (r.take i)=ov at hrv;by_cases hst:s < g.t
  ·have hst':¬g.t≤s:=by omega
   have hw8:=fG s;have hb1:=iP (byteI s);have hnx:nxt g S s=[[byteI s]]:=if_pos hst;rw [hnx] at hn hsn;have kc1:=fun L=>kc L ov (rowsV [[byteI s]]) o [[byteI s]] hrv (.inl rfl) ho.1 (by simp) ho.2 hn.2
   have hcv:=aA (RV.cat g.k.toNat o [[byteI s]]);generalize catV g.k.toNat o [[byteI s]]=cv at kc1 hcv hsn;have e1:rowsV [[byteI s]]= .sl 1 [Sg [byteI s]]:=rfl;rw [e1] at kc1;rcases aA hrv with rfl | rfl<;>rcases hcv with rfl | rfl;all_goals
    simp [hil,hil',hs,hw8,hb1,hst',kc1,w1,ao];exact ⟨i+1,by omega,by omega,hsn.symm,by omega⟩
  ·have hst':g.t≤s:=by omega
   have hst2:¬s < g.t:=by omega
   have hw8:=fG s;have hb1:=iP (byteI s);have hnx:nxt g S s=S.getD (s - g.t).toNat []:=if_neg hst;obtain ⟨j,hj⟩:∃j:Nat,s - g.t=(j:Int):=⟨(s - g.t).toNat,by omega⟩
   have hjl:j < S.length:=by omega
   have hjc:j < cs.length:=by rw [hS.1];exact hjl
   have hjc':(j:Int) < cs.length:=by omega
   have wj:IntKind.i64.wrap (s - g.t)=(j:Int):=by rw [aw (by omega) (by omega)];exact hj
   rw [hj,Int.toNat_natCast] at hnx;obtain ⟨v,hcv0,hv⟩:=hS.get hjl;have hcvE:cs[j]=v:=by rw [List.getElem?_eq_getElem hjc] at hcv0;simpa using hcv0
   rw [←hnx] at hv;have kc1:=fun L=>kc L ov v o (nxt g S s) hrv hv ho.1 hn.1 ho.2 hn.2;have hcv:=aA (RV.cat g.k.toNat o (nxt g S s));generalize catV g.k.toNat o (nxt g S s)=cv at kc1 hcv hsn;generalize nxt g S s=nx at hv kc1 hcv hsn;rcases aA hrv with rfl | rfl<;>rcases hcv with rfl | rfl<;>rcases aA hv with rfl | rfl;all_goals
    simp [hil,hil',hs,hw8,hb1,hst',hst2,kc1,w1,ao,wj,hjc,hjc',hcv0,hcvE];exact ⟨i+1,by omega,by omega,hsn.symm,by omega⟩
 ·obtain rfl:i=r.length:=by omega
  rw [List.take_length];have hrv:=gR g S r;rcases aA hrv with e | e<;>rw [e]<;>simp

theorem CE {lk lim:Nat}{H:Heap}(hlk:lk≤H.length)(g:Gm)(v4:AV){cs:List AV}{S:Ss}(hS:SC cs S){b:Nat}(hb:H[b]?=some (.cells cs))(r:List Int)(hr:∀s∈r,s < g.t+S.length)(hg:0≤g.t∧g.t≤1000000)(hl:r.length≤1000000)(hSl:S.length≤1000000)
  (hO:∀i,(ofM g S (r.take i)).length≤2000000∧∀x∈ofM g S (r.take i),x.length≤1000000) (hN:∀s∈r,(nxt g S s).length≤2000000∧∀x∈nxt g S s,x.length≤1000000):
  ah X A lk lim 100 [.agg [I g.t,I g.n,I g.k,v4],.hs b cs.length 0 cs.length 1,.sl r.length (ints r)] H=some (ofV g S r,H):=by
 have kc:=fun (L:Nat) (va vb:AV) (a b:List (List UInt8)) (h1:RV va a) (h2:RV vb b) (h3:a.length≤2000000) (h4:b.length≤2000000) h5 h6=>kT (lk:=lk) (lim:=L) (H:=H) hlk g.k h1 h2 h3 h4 h5 h6;refine aq [3] rfl Lu rfl rfl ?_;unfold B5;generalize ah X A=C at kc ⊢;simp;refine ax (σ:=Nat) (fun i=>[(1,.hs b cs.length 0 cs.length 1),(3,.box [I g.t,I g.n,I g.k,v4]),(7,ofV g S (r.take i)),(12,.sl r.length (ints r)),(13,I r.length),(14,I i)]) (fun _=>H) (fun i=>i≤r.length) (fun i=>r.length - i) ?_ 0 (by omega) (by simp [ab,find,xQ,ay]) rfl
 intro i hi;unfold wk;by_cases hil:i < r.length
 ·have hil':(i:Int) < r.length:=by omega
  have w1:IntKind.i64.wrap ((i:Int)+1)=(i:Int)+1:=aw (by omega) (by omega)
  have hrs:=hr r[i] (List.getElem_mem hil);have hn:=hN r[i] (List.getElem_mem hil);have ho:=hO i;have hrv:=gR g S (r.take i);have hsn:=oI g S (r.take i) r[i];rw [←List.take_succ_eq_append_getElem hil] at hsn;obtain ⟨s,hs⟩:∃s,r[i]=s:=⟨_,rfl⟩;rw [hs] at hrs hn hsn;generalize ofM g S (r.take i)=o at ho hrv hsn;generalize ofV g S (r.take i)=ov at hrv;by_cases hst:s < g.t
  ·have hst':¬g.t≤s:=by omega
   have hw8:=fG s;have hb1:=iP (byteI s);have hnx:nxt g S s=[[byteI s]]:=if_pos hst;rw [hnx] at hn hsn;have kc1:=fun L=>kc L ov (rowsV [[byteI s]]) o [[byteI s]] hrv (.inl rfl) ho.1 (by simp) ho.2 hn.2
   have hcv:=aA (RV.cat g.k.toNat o [[byteI s]]);generalize catV g.k.toNat o [[byteI s]]=cv at kc1 hcv hsn;have e1:rowsV [[byteI s]]= .sl 1 [Sg [byteI s]]:=rfl;rw [e1] at kc1;rcases aA hrv with rfl | rfl<;>rcases hcv with rfl | rfl;all_goals
    simp [hil,hil',hs,hw8,hb1,hst',kc1,w1,ao];exact ⟨i+1,by omega,by omega,hsn.symm,by omega⟩
  ·have hst':g.t≤s:=by omega
   have hst2:¬s < g.t:=by omega
   have hw8:=fG s;have hb1:=iP (byteI s);have hnx:nxt g S s=S.getD (s - g.t).toNat []:=if_neg hst;obtain ⟨j,hj⟩:∃j:Nat,s - g.t=(j:Int):=⟨(s - g.t).toNat,by omega⟩
   have hjl:j < S.length:=by omega
   have hjc:j < cs.length:=by rw [hS.1];exact hjl
   have hjc':(j:Int) < cs.length:=by omega
   have wj:IntKind.i64.wrap (s - g.t)=(j:Int):=by rw [aw (by omega) (by omega)];exact hj
   rw [hj,Int.toNat_natCast] at hnx;obtain ⟨v,hcv0,hv⟩:=hS.get hjl;have hcvE:cs[j]=v:=by rw [List.getElem?_eq_getElem hjc] at hcv0;simpa using hcv0
   rw [←hnx] at hv;have kc1:=fun L=>kc L ov v o (nxt g S s) hrv hv ho.1 hn.1 ho.2 hn.2;have hcv:=aA (RV.cat g.k.toNat o (nxt g S s));generalize catV g.k.toNat o (nxt g S s)=cv at kc1 hcv hsn;generalize nxt g S s=nx at hv kc1 hcv hsn;rcases aA hrv with rfl | rfl<;>rcases hcv with rfl | rfl<;>rcases aA hv with rfl | rfl;all_goals
    simp [hil,hil',hs,hw8,hb1,hst',hst2,kc1,w1,ao,wj,hjc,hjc',hcv0,hcvE,hb];exact ⟨i+1,by omega,by omega,hsn.symm,by omega⟩
 ·obtain rfl:i=r.length:=by omega
  rw [List.take_length];have hrv:=gR g S r;rcases aA hrv with e | e<;>rw [e]<;>simp
end Go.Proofs.YtkllbcjanneppaaGreat

namespace Go.Proofs.YtkllbcjanneppaaGreat
open Go Go.Hm

def ui (rs:List ARes)(t:Bool)(H:Heap)(P:AV→Heap→Prop):Ex→Kt:=fun x e h=>∃v h',ck ⟨0,.skip,rs,t⟩ H (some (x,e,h))=some (v,h')∧P v h'
theorem bm {rs:List ARes}{t:Bool}{H H':Heap}{env:Env}{P:AV→Heap→Prop}:ui rs t H P .ret env H'=∃v h',ck ⟨0,.skip,rs,t⟩ H (some (.ret,env,H'))=some (v,h')∧P v h':=rfl
theorem dk {X:Orc}{A:FuncId→Option AFn}{f:FuncId}{lk lim np:Nat}{args:List AV}{b:AC}{rs:List ARes}{t:Bool}{H:Heap}{P:AV→Heap→Prop}(B:List Nat)(hX:X lk lim f args H=none)(hA:A f=some ⟨np,b,rs,t⟩)(hl:args.length=np)(ha:args.all aO=true)
  (h:WB ⟨ah X A,lk,if t then H.length else lim,B⟩ b (ui rs t H P) (aZ 0 args) H):∃v h',ah X A lk lim f args H=some (v,h')∧P v h':=by
 obtain ⟨x,e,h1,h2,⟨v,h',h3,h4⟩,_⟩:=di h (lL ha);refine ⟨v,h',?_,h4⟩;rw [tC hX hA hl,h2];exact h3
theorem se {env:Env}{l:AO}{b n es bytes:Nat}{z:List AV}(h:ev env l=I (n:Int))(hz:z.length=es)(hr:n * bytes≤aK):cg (.mks es bytes z l) env b=some (.hs b (n * es) 0 n es,.cells (repl n z)):=by
 simp only [cg,h];have h1:(0:Int)≤(n:Int):=by omega
 have h2:(n:Int) * (bytes:Int)≤(aK:Int):=by
  rw [←Int.natCast_mul];exact Int.ofNat_le.2 hr
 rw [if_pos ⟨h1,h2,hz⟩,Int.toNat_natCast]
theorem gS (lim:Nat)(H:Heap)(d:Nat):∀{cs:List AV} {S:Ss},SC cs S→eh (frz lim H (d+1)) cs=some cs∧belowL 0 cs=true:=by
 intro cs;induction cs with
 | nil=>intro S _;exact ⟨rfl,rfl⟩
 | cons v cs ih=>
  intro S h;obtain ⟨i1,i2⟩:=ih (S:=S.drop 1) ⟨by have:=h.1;simp at this ⊢;omega,fun j w hw=>by
   have:=h.2 (j+1) w (by simpa using hw)
   rw [List.getD_eq_getElem?_getD] at this ⊢;rw [List.getElem?_drop,Nat.add_comm];exact this⟩
  have h0:=h.2 0 v rfl;have hv:frz lim H (d+1) v=some v∧Hm.below 0 v=true:=by
   rcases h0 with rfl | ⟨rfl,_⟩
   ·exact ⟨by simp [frz],by first | rfl | simp [Hm.below]⟩
   ·exact ⟨by simp [frz],rfl⟩
  exact ⟨by simp only [eh,hv.1,i1],by simp only [belowL,hv.2,i2,Bool.true_and]⟩
theorem lY {cs:List AV}{S:Ss}(h:SC cs S){j:Nat}{v:AV}{l:List (List UInt8)}(hv:RV v l):SC (cs.set j v) (S.set j l):=by
 refine ⟨by simp [h.1],fun i w hw=>?_⟩
 rw [List.getD_eq_getElem?_getD];by_cases hij:i=j
 ·subst hij;have hl:i < cs.length:=by
   have:=(List.getElem?_eq_some_iff.1 hw).1;simpa using this
  rw [List.getElem?_set_self hl] at hw;rw [List.getElem?_set_self (by rw [←h.1];exact hl)]
  cases hw;exact hv
 ·rw [List.getElem?_set_ne (fun e=>hij e.symm)] at hw ⊢;rw [←List.getD_eq_getElem?_getD];exact h.2 i w hw
theorem kV (n:Nat):SC (repl n [.e0]) (List.replicate n []):=by
 have:repl n [.e0]=List.replicate n AV.e0:=by simp [repl]
 rw [this];refine ⟨by simp,fun j v hv=>?_⟩
 rw [List.getElem?_replicate] at hv;rw [List.getD_eq_getElem?_getD,List.getElem?_replicate];split at hv
 ·rename_i hj;rw [if_pos hj];cases hv;exact .inr ⟨rfl,rfl⟩
 ·cases hv

theorem cD {g:Gm}(hg:GOk g){S:Ss}(h:SOk g S){p:Pr}(hp:POk g p):(∀s∈p.r,s < g.t+S.length)∧(∀i,(ofM g S (p.r.take i)).length≤2000000∧∀x∈ofM g S (p.r.take i),x.length≤1000000)∧
  ∀s∈p.r,(nxt g S s).length≤2000000∧∀x∈nxt g S s,x.length≤1000000:=by
 have hk:=hg.k2;refine ⟨fun s hs=>?_,fun i=>?_,fun s hs=>?_⟩
 ·have:=hp.s s hs;have:=h.len;have:=hg.n1;omega
 ·have h1:=fO hg h (r:=p.r.take i) fun s hs=>(hp.s s (List.mem_of_mem_take hs)).1;have h2:=h1.size hg;exact ⟨by omega,fun x hx=>by have:=h1.len x hx;omega⟩
 ·unfold nxt;split
  ·simp
  ·have h1:=h.get (s - g.t).toNat;have h2:=h1.size hg;exact ⟨by omega,fun x hx=>by have:=h1.len x hx;omega⟩
set_option maxHeartbeats 2000000 in
theorem qm {lk lim:Nat}{H:Heap}(hlk:lk≤H.length)(g:Gm)(hl:g.ps.length≤1000000)(hr:∀p∈g.ps,p.r.length≤1000000):
  ∃v h',ah X A lk lim 83 [gV g] H=some (v,h')∧h'=H∧if chkE g=0 then ∃cs,v= .sl cs.length cs∧SC cs (setsM g) else v= .e0:=by
 have kc:=fun (L:Nat)=>check_code (lk:=lk) (lim:=L) (H:=H) g hl hr;refine dk [1,6] rfl A83 rfl rfl ?_;unfold KZ;by_cases hc:chkE g=0;case neg=>
  have h3:((chkE g) != 0)=true:=by simp [hc]
  obtain ⟨t,n,k,ps⟩:=g;simp only [gV,Gm.cells] at kc;generalize ah X A=C at kc ⊢;simp [Gm.cells,kc,hc,bm];exact ⟨.e0,H,⟨rfl,rfl⟩,rfl,rfl⟩
 have ok:=br hc;have ko:=fun (K:Nat) (hK:K≤H.length+1) (L:Nat) (cs:List AV) (S:Ss) (hS:SC cs S) (hok:SOk g S) (p:Pr) (hp:POk g p)=>
  CE (lk:=K) (lim:=L) (H:=H++[.cells cs]) (by simp;omega) g (.sl g.ps.length (psC g.ps)) hS (b:=H.length) (by simp) p.r (cD ok hok hp).1 ⟨by have:=ok.t1;omega,by have:=ok.t2;omega⟩ (by have:=hp.len;omega) (by rw [hok.len];have:=ok.n2;omega) (cD ok hok hp).2.1 (cD ok hok hp).2.2
 have ku:=fun (L:Nat) (G:Heap) (va vb:AV) (a b:List (List UInt8)) (ha:RV va a) (hb:RV vb b) h=>oG (lk:=lk) (lim:=L) (H:=G) ha hb h;rw [hc] at kc;obtain ⟨t,n,k,ps⟩:=g;have ok2:=ok;obtain ⟨t1,t2,n1,n2,k1,k2,l1,l2,okp⟩:=ok2;simp only at t1 t2 n1 n2 k1 k2 l1 l2 okp;obtain ⟨n,rfl⟩:=Int.eq_ofNat_of_zero_le (by omega:0≤n)
 simp only [gV,Gm.cells] at kc ko;have hro:n * 24≤aK:=by unfold aK;omega
 generalize ah X A=C at kc ko ku ⊢;simp [-e9,-ae,Gm.cells,hc];simp [-e9,Gm.cells,kc];rw [e9,se (l:=.tmp 12) (z:=[.e0]) (es:=1) (n:=n) rfl rfl hro];simp
 let g:Gm:=⟨t,n,k,ps⟩
 let bx:AV:=.box [I t,I n,I k,.sl ps.length (psC ps)]
 let hsV:AV:=.hs H.length n 0 n 1
 have hcl:=mF ok;have hS0:=SOk.start g;refine ax (σ:=Ss×List AV×Bool) (fun s=>[(1,bx),(3,hsV),(4,Bo s.2.2)]) (fun s=>H++[.cells s.2.1])
  (fun s=>SOk g s.1∧SC s.2.1 s.1∧cw (mT g) (n * 585 - szS s.1+1) s.1=setsM g∧(s.2.2=false→mT g s.1=s.1)) (fun s=>2 * (n * 585 - szS s.1)+if s.2.2=true then 1 else 0) ?_ (List.replicate n [],repl n [.e0],true)
  ⟨hS0,kV n,by
   have h1:szS (List.replicate n [])=0:=by simp [szS]
   simp only [h1];rfl,by simp⟩ (by simp [bx,hsV]) rfl
 rintro ⟨S,cs,more⟩ ⟨hS,hC,hcm,hm⟩;simp only at hS hC hcm hm;have hcn:cs.length=n:=by rw [hC.1,hS.len];rfl
 unfold GY;cases more with
 | false=>
  have h1:setsM g=S:=by
   rw [←hcm];unfold cw;rw [if_pos (hm rfl)]
  have hz:=gS H.length (H++[.cells cs]) 6 hC;have htk:cs.take n=cs:=List.take_of_length_le (by omega)
  simp [bx,hsV,bm,hcn,htk,hz];exact ⟨_,_,⟨rfl,rfl⟩,rfl,cs,by rw [hcn],by rw [h1];exact hC⟩
 | true=>
  simp [bx];refine ax (σ:=Nat×Ss×List AV×Bool) (fun s=>[(1,bx),(3,hsV),(4,Bo s.2.2.2),(16,.sl ps.length (psC ps)),(17,I ps.length),(18,I s.1)]) (fun s=>H++[.cells s.2.2.1])
   (fun s=>s.1≤ps.length∧s.2.1=(ps.take s.1).foldl (stS g) S∧SOk g s.2.1∧SC s.2.2.1 s.2.1∧((s.2.2.2=false∧s.2.1=S)∨(s.2.2.2=true∧szS S < szS s.2.1))) (fun s=>ps.length - s.1) ?_ (0,S,cs,false)
   ⟨Nat.zero_le _,rfl,hS,hC,.inl ⟨rfl,rfl⟩⟩ (by simp [bx,hsV,ab,find]) rfl
  rintro ⟨i,S2,cs2,more⟩ ⟨hi,hS2,hok,hC2,hmo⟩;simp only at hi hS2 hok hC2 hmo;have hcn2:cs2.length=n:=by rw [hC2.1,hok.len];rfl
  unfold GX;have w1:IntKind.i64.wrap ((i:Int)+1)=(i:Int)+1:=aw (by omega) (by omega)
  by_cases hil:i < ps.length;case neg=>
   obtain rfl:i=ps.length:=by omega
   rw [List.take_of_length_le (Nat.le_refl _)] at hS2;have hfo:mT g S=S2:=hS2.symm;have hle:=vY ok hok;simp only [Int.toNat_natCast] at hle;simp [bx,hsV,ao];rcases hmo with ⟨e1,e2⟩ | ⟨e1,e2⟩
   ·subst e2;exact ⟨S2,cs2,.inl ⟨⟨hok,hC2,hcm,hfo⟩,by omega,e1,rfl⟩⟩
   ·refine ⟨S2,cs2,.inr ⟨⟨hok,hC2,?_⟩,by omega,e1,rfl⟩⟩
    have hne:mT g S≠S:=fun e=>by rw [hfo] at e;rw [e] at e2;omega
    have h1:=dx hcl (n * 585 - szS S) S2 hok (by show n * 585 - szS S2 < _;omega)
    rw [←hcm]
    conv=>rhs;unfold cw
    rw [if_neg hne,hfo];exact h1.symm
  obtain ⟨p,hp⟩:∃p,ps[i]=p:=⟨_,rfl⟩;have pok:=okp p (hp▸List.getElem_mem hil);have hs:=bJ hil;have hll:=aU ps;have h2:i * 2+2≤2 * ps.length:=by omega
  rw [hp] at hs;simp only [Pr.cells] at hs;have hnext:(ps.take (i+1)).foldl (stS g) S=stS g S2 p:=by
   rw [List.take_succ_eq_append_getElem hil,List.foldl_append,←hS2,hp];rfl
  have hup:=vW hok pok;have hok3:=rJ ok hok pok;have ko1:=fun L=>ko (H.length+1) (Nat.le_refl _) L cs2 S2 hC2 hok p pok;have hov:=gR g S2 p.r;have hofok:=fO ok hok (r:=p.r) fun s hs=>(pok.s s hs).1;have hosz:=hofok.size ok;obtain ⟨pl,pr⟩:=p;obtain ⟨q1,q2,q3,q4⟩:=pok;simp only at q1 q2 q3 q4 hs ko1 hov hosz;obtain ⟨pl,rfl⟩:=Int.eq_ofNat_of_zero_le q2;have hpl:pl < n:=by omega
  obtain ⟨v,hv,hrv⟩:=hC2.get (j:=pl) (by rw [hok.len];exact hpl)
  have hplc:pl < cs2.length:=by omega
  have hvE:cs2[pl]=v:=by rw [List.getElem?_eq_getElem hplc] at hv;simpa using hv
  have hgsz:=(hok.get pl).size ok;have ku1:=fun L=>ku L (H++[.cells cs2]) v _ _ _ hrv hov (Nat.le_trans (Nat.add_le_add hgsz hosz) (by decide))
  have hpn1:pl+1≤n:=hpl;simp only [stS,Int.toNat_natCast] at hup hok3 hnext;have hC3:=lY hC2 (j:=pl) (v:=rowsV (uni (S2.getD pl []) (ofM g S2 pr))) (l:=uni (S2.getD pl []) (ofM g S2 pr)) (.inl rfl);have hgt:((S2.getD pl []).length:Int) < (uni (S2.getD pl []) (ofM g S2 pr)).length↔¬(uni (S2.getD pl []) (ofM g S2 pr)).length≤(S2.getD pl []).length:=by omega
  have hvl:slN v=(S2.getD pl []).length:=(kU (H:=H) hrv).2;generalize ofV g S2 pr=ov at ko1 hov ku1;generalize uni (S2.getD pl []) (ofM g S2 pr)=u at *;rw [hcn2] at ko1;simp [-a6,bx,hil,hll,hs,h2];rw [a6];have hset:List.take pl cs2++AV.sl u.length (ay u)::List.drop (pl+1) cs2=cs2.set pl (rowsV u):=by
   rw [List.set_eq_take_append_cons_drop,if_pos hplc]
  have hsh:aR lk H.length 0 (H++[.cells cs2]) H.length (cs2.set pl (rowsV u)) [AV.sl u.length (ay u)]=some (H++[.cells (cs2.set pl (rowsV u))]):=by
   unfold aR;rw [if_pos ⟨hlk,.inl (Nat.le_refl _),.inl (Nat.zero_le _)⟩,m8]
  obtain ⟨L,hL⟩:∃L,(S2.getD pl []).length=L:=⟨_,rfl⟩;rw [hL] at hup hvl;have fin:∀b:Bool,b=(more||decide (L < u.length))→(b=false∧S2.set pl u=S)∨(b=true∧szS S < szS (S2.set pl u)):=fun b hb=>by
   by_cases hgr:L < u.length
   ·have hb2:b=true:=by rw [hb];simp [hgr]
    have h3:szS S2 < szS (S2.set pl u):=by
     rcases hup.1 with e | e
     ·exact absurd (hup.2.1 e) (by omega)
     ·exact e
    rcases hmo with ⟨_,e⟩ | ⟨_,e⟩
    ·exact .inr ⟨hb2,by rw [←e];exact h3⟩
    ·exact .inr ⟨hb2,by omega⟩
   ·have h3:S2.set pl u=S2:=hup.2.2 (by omega)
    rw [h3];have hb2:b=more:=by rw [hb];simp [hgr]
    rw [hb2];exact hmo
  generalize S2.getD pl []=q at *;rcases aA hrv with rfl | rfl<;>rcases aA hov with rfl | rfl;all_goals
   try (obtain rfl:L=0:=hvl.symm)
   cases more with
   | true=>
    have hf:=fin true (by simp)
    have hf:szS S < szS (S2.set pl u):=by simpa using hf
    simp [aj,hsV,hpl,hcn2,hv,hvE,ko1,ku1,hL,hpn1,hset,hsh,w1,ao];exact ⟨i+1,S2.set pl u,cs2.set pl (rowsV u),⟨by omega,hnext.symm,hok3,hC3,hf⟩,by omega,by omega,rfl⟩
   | false=>
    have hf:=fin _ rfl;simp [aj,hsV,hpl,hcn2,hv,hvE,ko1,ku1,hL,hpn1,hset,hsh,w1,ao];simp at hf;rcases hf with ⟨e1,e2⟩ | ⟨e1,e2⟩
    ·exact ⟨i+1,S2.set pl u,cs2.set pl (rowsV u),.inl ⟨⟨by omega,hnext.symm,hok3,hC3,e2⟩,by omega,⟨by first | exact e1 | omega,by omega⟩,rfl⟩⟩
    ·exact ⟨i+1,S2.set pl u,cs2.set pl (rowsV u),.inr ⟨⟨by omega,hnext.symm,hok3,hC3,e2⟩,by omega,⟨by first | exact e1 | omega,by omega⟩,rfl⟩⟩
end Go.Proofs.YtkllbcjanneppaaGreat
