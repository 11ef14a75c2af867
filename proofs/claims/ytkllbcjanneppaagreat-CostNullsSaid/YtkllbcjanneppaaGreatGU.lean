import Derived.Test.YtkllbcjanneppaaGreatGE
import Derived.Test.YtkllbcjanneppaaGreatGB
import Derived.Test.YtkllbcjanneppaaGreatGT
set_option maxRecDepth 100000
set_option linter.unusedSimpArgs false
set_option linter.unusedVariables false
namespace Go.Proofs.YtkllbcjanneppaaGreat.Z
open Go Go.Hm
theorem idx51_code {lk lim:Nat}{H:Heap}{f:FuncId}{cap:List AV}(l:List Int)(P:Int→Bool)(hl:l.length≤1000000)(hc:cap.all aO=true)(hP:∀x∈l,ah X0 A lk H.length f (I x::cap) H=some (Bo (P x),H)):
  ah X0 A lk lim 97 [.sl l.length (ints l),.fn f cap] H=some (I (dP P l 0),H):=by
 refine aq [] rfl A97 rfl rfl ?_;unfold I3;simp;refine ax (σ:=Nat) (fun i=>[(0,.sl l.length (ints l)),(1,.fn f cap),(7,I l.length),(8,I i)]) (fun _=>H)
  (fun i=>i≤l.length∧dP P (l.drop i) i=dP P l 0) (fun i=>l.length - i) ?_ 0 (by simp) (by simp) rfl
 rintro i ⟨hi,hinv⟩;unfold B3;have w:IntKind.i64.wrap ((i:Int)+1)=(i:Int)+1:=aw (by omega) (by omega)
 by_cases hil:i < l.length
 ·obtain ⟨x,hx⟩:∃x,l[i]=x:=⟨_,rfl⟩;have hp:=hP x (hx▸List.getElem_mem hil);rw [List.drop_eq_getElem_cons hil,hx] at hinv;simp only [dP] at hinv;cases hpx:P x with
  | true=>
   rw [hpx] at hp hinv;rw [if_pos rfl] at hinv;rw [←hinv];generalize ah X0 A=C at hp ⊢;simp [-aO,eJ,hil,hx,hp,hc]
  | false=>
   rw [hpx] at hp hinv;rw [if_neg (by simp)] at hinv
   generalize ah X0 A=C at hp ⊢;simp [-aO,eJ,hil,hx,hp,hc,w,ao];exact ⟨i+1,⟨by omega,hinv⟩,by omega,by simp⟩
 ·obtain rfl:i=l.length:=by omega
  rw [List.drop_length] at hinv;simp only [dP] at hinv;rw [←hinv];simp
theorem has35_code {lk lim:Nat}{H:Heap}{f:FuncId}{cap:List AV}(l:List Int)(P:Int→Bool)(hl:l.length≤1000000)(hc:cap.all aO=true)(hP:∀x∈l,ah X0 A lk H.length f (I x::cap) H=some (Bo (P x),H)):
  ah X0 A lk lim 72 [.sl l.length (ints l),.fn f cap] H=some (Bo (l.any P),H):=by
 have k:=idx51_code (lim:=H.length) l P hl hc hP;have ha:=gv P l 0 (Int.le_refl _);refine aq [] rfl A72 rfl rfl ?_;unfold I0;generalize ah X0 A=C at k ⊢;simp [k,ha]
theorem idx50_code {lk lim:Nat}{H:Heap}{f:FuncId}{cap:List AV}(l:List Pr)(P:Pr→Bool)(hl:l.length≤1000000)(hc:cap.all aO=true)(hP:∀x∈l,ah X0 A lk H.length f (.agg x.cells::cap) H=some (Bo (P x),H)):
  ah X0 A lk lim 96 [.sl l.length (psC l),.fn f cap] H=some (I (dP P l 0),H):=by
 refine aq [] rfl A96 rfl rfl ?_;unfold IX;simp;refine ax (σ:=Nat) (fun i=>[(0,.sl l.length (psC l)),(1,.fn f cap),(7,I l.length),(8,I i)]) (fun _=>H)
  (fun i=>i≤l.length∧dP P (l.drop i) i=dP P l 0) (fun i=>l.length - i) ?_ 0 (by simp) (by simp) rfl
 rintro i ⟨hi,hinv⟩;unfold B2;have w:IntKind.i64.wrap ((i:Int)+1)=(i:Int)+1:=aw (by omega) (by omega)
 by_cases hil:i < l.length
 ·obtain ⟨x,hx⟩:∃x,l[i]=x:=⟨_,rfl⟩;have hp:=hP x (hx▸List.getElem_mem hil);have hs:=bJ hil;have hll:=aU l;have h2:i * 2+2≤2 * l.length:=by omega
  rw [hx] at hs;rw [List.drop_eq_getElem_cons hil,hx] at hinv;simp only [dP] at hinv;cases hpx:P x with
  | true=>
   rw [hpx] at hp hinv;rw [if_pos rfl] at hinv;rw [←hinv];generalize ah X0 A=C at hp ⊢;simp [-aO,eJ,kO,hil,hs,hll,h2,hp,hc]
  | false=>
   rw [hpx] at hp hinv;rw [if_neg (by simp)] at hinv
   generalize ah X0 A=C at hp ⊢;simp [-aO,eJ,kO,hil,hs,hll,h2,hp,hc,w,ao];exact ⟨i+1,⟨by omega,hinv⟩,by omega,by simp⟩
 ·obtain rfl:i=l.length:=by omega
  rw [List.drop_length] at hinv;simp only [dP] at hinv;rw [←hinv];simp
theorem has33_code {lk lim:Nat}{H:Heap}{f:FuncId}{cap:List AV}(l:List Pr)(P:Pr→Bool)(hl:l.length≤1000000)(hc:cap.all aO=true)(hP:∀x∈l,ah X0 A lk H.length f (.agg x.cells::cap) H=some (Bo (P x),H)):
  ah X0 A lk lim 70 [.sl l.length (psC l),.fn f cap] H=some (Bo (l.any P),H):=by
 have k:=idx50_code (lim:=H.length) l P hl hc hP;have ha:=gv P l 0 (Int.le_refl _);refine aq [] rfl A70 rfl rfl ?_;unfold IW;generalize ah X0 A=C at k ⊢;simp [k,ha]
theorem c34_code {lk lim:Nat}{H:Heap}(p:Pr):ah X0 A lk lim 71 [.agg p.cells] H=some (Bo (decide (8 < p.r.length)),H):=by
 refine aq [1] rfl A71 rfl rfl ?_;unfold IY;have h:decide ((8:Int) < p.r.length)=decide (8 < p.r.length):=by
  rw [Bool.eq_iff_iff];simp;omega
 simp [Pr.cells,h]
theorem c36_code {lk lim:Nat}{H:Heap}{g:Gm}{b:Nat}(hb:H[b]?=some (.cells g.cells))(hw:IntKind.i64.wrap (g.t+g.n)=g.t+g.n)(s:Int):ah X0 A lk lim 73 [I s,.hp b 4 0] H=some (Bo (cC g s),H):=by
 refine aq [] rfl A73 rfl rfl ?_;unfold IZ;unfold Gm.cells at hb;unfold cC;by_cases h:s < 0
 ·simp [h]
 ·simp [h,hb,hw]
theorem check_code {lk lim:Nat}{H:Heap}(g:Gm)(hl:g.ps.length≤1000000)(hr:∀p∈g.ps,p.r.length≤1000000):ah X0 A lk lim 48 [gV g] H=some (I (chkE g),H):=by
 have k1:=fun L=>has33_code (lk:=lk) (lim:=L) (H:=H++[.cells g.cells]) (f:=71) (cap:=[]) g.ps (fun p=>decide (8 < p.r.length)) hl rfl (fun p _=>c34_code p);have k2:=fun (L:Nat) (hw:IntKind.i64.wrap (g.t+g.n)=g.t+g.n) (p:Pr) (hp:p∈g.ps)=>has35_code (lk:=lk) (lim:=L) (H:=H++[.cells g.cells]) (f:=73) (cap:=[.hp H.length 4 0]) p.r (cC g) (hr p hp) rfl (fun s _=>c36_code (by simp) hw s)
 refine aq [4] rfl A48 rfl rfl ?_;unfold IU;obtain ⟨t,n,k,ps⟩:=g;simp only [Gm.cells] at hl hr k1 k2 ⊢;have e0:∀c:Bool,chkE ⟨t,n,k,ps⟩=chkE ⟨t,n,k,ps⟩:=fun _=>rfl;by_cases c1:8 < t
 ·have e:chkE ⟨t,n,k,ps⟩=3:=by unfold chkE;rw [if_pos (by simp only;omega)]
  rw [e];simp [Gm.cells,c1]
 by_cases c2:16 < n
 ·have e:chkE ⟨t,n,k,ps⟩=3:=by unfold chkE;rw [if_pos (by simp only;omega)]
  rw [e];simp [Gm.cells,c1,c2]
 by_cases c3:3 < k
 ·have e:chkE ⟨t,n,k,ps⟩=3:=by unfold chkE;rw [if_pos (by simp only;omega)]
  rw [e];simp [Gm.cells,c1,c2,c3]
 by_cases c4:64 < ps.length
 ·have e:chkE ⟨t,n,k,ps⟩=3:=by unfold chkE;rw [if_pos (by simp only;omega)]
  have c4':(64:Int) < ps.length:=by omega
  rw [e];simp [Gm.cells,c1,c2,c3,c4']
 have c4':¬(64:Int) < ps.length:=by omega
 have e1:chkE ⟨t,n,k,ps⟩=if (ps.any fun p=>decide (8 < p.r.length))=true then 3 else if t < 1∨n < 1∨k < 1∨ps.length < 1 then 2 else if ps.any (gP ⟨t,n,k,ps⟩)=true then 2 else 0:=by
  rw [chkE,if_neg (by simp only;omega)]
 rw [e1];cases c5:(ps.any fun p=>decide (8 < p.r.length)) with
 | true=>
  rw [c5] at k1;generalize ah X0 A=C at k1 ⊢;simp [Gm.cells,c1,c2,c3,c4',k1]
 | false=>
  rw [c5] at k1;rw [if_neg (show ¬(false=true) by simp)]
  by_cases c6:t < 1∨n < 1∨k < 1∨ps.length < 1
  ·have c6':=(r7 t n k ps.length).2 (by omega)
   rw [if_pos c6];generalize ah X0 A=C at k1 ⊢;simp [Gm.cells,c1,c2,c3,c4',k1,bI,c6']
   done
  ·have c6':¬_:=fun h=>c6 (by have:=(r7 t n k ps.length).1 h;omega)
   rw [if_neg c6];have k2:=fun L=>k2 L (aw (by omega) (by omega))
   obtain ⟨bb,hbb⟩:∃bb,ps.any (gP ⟨t,n,k,ps⟩)=bb:=⟨_,rfl⟩;rw [hbb];simp [Gm.cells,c1,c2,c3,c4',k1,bI,c6'];refine ax (σ:=Nat) (fun i=>[(1,.hp H.length 4 0),(39,.sl ps.length (psC ps)),(40,I ps.length),(41,I i)]) (fun _=>H++[.cells [I t,I n,I k,.sl ps.length (psC ps)]])
    (fun i=>i≤ps.length∧bb=(ps.drop i).any (gP ⟨t,n,k,ps⟩)) (fun i=>ps.length - i) ?_ 0 ⟨by omega,by rw [←hbb];rfl⟩ (by simp) rfl
   rintro i ⟨hi,hinv⟩;unfold B1;have w:IntKind.i64.wrap ((i:Int)+1)=(i:Int)+1:=aw (by omega) (by omega)
   by_cases hil:i < ps.length;case neg=>
    obtain rfl:i=ps.length:=by omega
    rw [List.drop_length] at hinv;have hinv:bb=false:=hinv;rw [hinv];simp
   obtain ⟨p,hp⟩:∃p,ps[i]=p:=⟨_,rfl⟩;have hpm:p∈ps:=hp▸List.getElem_mem hil;have hs:=bJ hil;have hll:=aU ps;have h2:i * 2+2≤2 * ps.length:=by omega
   rw [hp] at hs;simp only [Pr.cells] at hs;rw [List.drop_eq_getElem_cons hil,hp,List.any_cons] at hinv;have k3:=k2 H.length p hpm;generalize ah X0 A=C at k3 ⊢;simp [-a6,hil,hll,hs,h2];rw [a6];unfold gP at hinv;simp only at hinv;by_cases d1:p.l < 0
   ·rw [decide_eq_true d1] at hinv;simp only [Bool.true_or] at hinv;simp [aj,d1,hinv]
   rw [decide_eq_false d1] at hinv;by_cases d2:n≤p.l
   ·rw [decide_eq_true d2] at hinv;simp only [Bool.true_or,Bool.false_or] at hinv;simp [aj,d1,d2,hinv]
   rw [decide_eq_false d2] at hinv;cases d3:p.r.any (cC ⟨t,n,k,ps⟩) with
   | true=>
    rw [d3] at hinv k3;simp only [Bool.true_or,Bool.false_or] at hinv;simp [aj,d1,d2,k3,hinv]
   | false=>
    rw [d3] at hinv k3;simp only [Bool.false_or] at hinv;simp [aj,d1,d2,k3,w,ao];exact ⟨i+1,⟨by omega,hinv⟩,by omega,by simp⟩
theorem gof_code {lk lim:Nat}{H:Heap}(g:Gm)(left:Int)(hl:g.ps.length≤1000000)(hr:∀p∈g.ps,p.r.length≤1000000)(hlk:lk≤H.length):ah X0 A lk lim 53 [gV g,I left] H=some (lZ g left,H):=by
 have kc:=fun (L:Nat)=>check_code (lk:=lk) (lim:=L) (H:=H) g hl hr;refine aq [2,6] rfl A53 rfl rfl ?_;unfold I9;unfold lZ;by_cases hc:chkE g=0;case neg=>
  rw [if_neg hc];obtain ⟨t,n,k,ps⟩:=g;simp only [gV,Gm.cells] at kc;generalize ah X0 A=C at kc ⊢;simp [Gm.cells,kc,hc]
 have ok:=br hc;rw [if_pos hc];rw [hc] at kc;obtain ⟨t,n,k,ps⟩:=g;obtain ⟨t1,t2,n1,n2,k1,k2,l1,l2,okp⟩:=ok;simp only at t1 t2 n1 n2 k1 k2 l1 l2 okp;simp only [gV,Gm.cells] at kc;simp [Gm.cells,kc];refine ax (σ:=Nat) (fun i=>[(1,I left),(4,oV H (ofN ps left i)),(11,.sl ps.length (psC ps)),(12,I ps.length),(13,I i)]) (fun i=>oH H (ofN ps left i))
  (fun i=>i≤ps.length) (fun i=>ps.length - i) ?_ 0 (by simp) (by simp [ofN,oV]) (by simp [ofN,oH])
 intro i hi;unfold Ca;have w1:IntKind.i64.wrap ((i:Int)+1)=(i:Int)+1:=aw (by omega) (by omega)
 by_cases hil:i < ps.length;case neg=>
  obtain rfl:i=ps.length:=by omega
  have hon:=fH ps left ps.length;generalize ofN ps left ps.length=o at hon ⊢;by_cases ho:o=[]
  ·subst ho;simp [oV,oH,slvN]
  ·simp [oV,oH,slvN,ho]
 have hs:=bJ hil;have hll:=aU ps;have h2:i * 2+2≤2 * ps.length:=by omega
 have hnx:=oM ps left i hil;have hon:=fH ps left i;generalize ps[i]=p at hs hnx;obtain ⟨pl,pr⟩:=p;simp only [Pr.cells] at hs;simp only at hnx;have done:∀(E:Env) (H':Heap),E=[(1,I left),(4,oV H (ofN ps left (i+1))),(11,.sl ps.length (psC ps)),(12,I ps.length),(13,I ((i:Int)+1))]→H'=oH H (ofN ps left (i+1))→
  ∃i':Nat,i'≤ps.length∧ps.length - i' < ps.length - i∧E=[(1,I left),(4,oV H (ofN ps left i')),(11,.sl ps.length (psC ps)),(12,I ps.length),(13,I i')]∧H'=oH H (ofN ps left i'):=fun E H' h1 h2=>⟨i+1,by omega,by omega,by rw [h1];simp,h2⟩
 generalize ofN ps left (i+1)=o' at hnx done;generalize ofN ps left i=o at hnx hon ⊢;have hro1:8≤aK:=by unfold aK;omega
 have hro:(o.length+1) * 8≤aK:=by unfold aK;omega
 simp [-a6,hil,hs,hll,h2];rw [a6];by_cases hpl:pl=left
 ·rw [if_pos hpl] at hnx;by_cases ho:o=[]
  ·subst ho;simp [aj,oV,oH,hpl,w1,hro1,aM];rw [ao];refine done _ _ ?_ ?_
   ·simp [hnx,oV]
   ·simp [hnx,oH,nts]
  ·simp [aj,oV,oH,hpl,w1,hro,ho,aM,aR,dI,hlk];rw [ao];refine done _ _ ?_ ?_
   ·simp [hnx,oV,eD]
   ·simp [hnx,oH,nts,du]
 ·rw [if_neg hpl] at hnx;subst hnx;have hnr:eo 6 [(4,oV H o'),(11,.sl ps.length (psC ps)),(12,I ps.length),(13,I i)]=true:=by unfold oV;split<;>rfl
  simp [aj,hpl,w1,hnr];rw [ao];refine done _ _ ?_ ?_
  ·simp
  ·rfl
end Go.Proofs.YtkllbcjanneppaaGreat.Z

namespace Go.Proofs.YtkllbcjanneppaaGreat.Z
open Go Go.Hm

theorem JL (a b:List UInt8):ez .lss ⟨⟨a⟩⟩ ⟨⟨b⟩⟩=some (Bo (Op.bytesLess a b)):=by
 simp only [ez,eP]
theorem JM (a b:List UInt8):ez .gtr ⟨⟨a⟩⟩ ⟨⟨b⟩⟩=some (Bo (!(Op.bytesLess a b||a==b))):=by
 simp only [ez,eP]
theorem vf {lk lim:Nat}{H:Heap}(a:List UInt8):ah X0 A lk lim 121 [Sg a] H=some (Bo false,H):=by
 refine aq [] rfl ME rfl rfl ?_;unfold Hq;generalize ah X0 A=C;have:=r9 a a;simp [this]
def JN (a b:List UInt8):Int:=if Op.bytesLess a b=true then -1 else if a=b then 0 else 1
theorem DQ {lk lim:Nat}{H:Heap}(a b:List UInt8):ah X0 A lk lim 114 [Sg a,Sg b] H=some (I (JN a b),H):=by
 have k1:=fun L=>vf (lk:=lk) (lim:=L) (H:=H) a;have k2:=fun L=>vf (lk:=lk) (lim:=L) (H:=H) b;refine aq [] rfl MD rfl rfl ?_;unfold Hp JN;generalize ah X0 A=C at k1 k2 ⊢;have h1:=JL a b;have h2:=JM a b;by_cases he:a=b
 ·subst he;simp [fc] at h1 h2 ⊢;simp [k1,h1,h2]
 ·have heb:(a==b)=false:=by simp [he]
  rw [heb] at h2;cases hab:Op.bytesLess a b<;>rw [hab] at h1 h2<;>simp at h2<;>simp [k1,k2,h1,h2,he]
theorem qT (x:List UInt8)(p:List (List UInt8)):(ay (x::p)).tail=ay p:=rfl
theorem meet_code {lk lim:Nat}{H:Heap}(a b:List (List UInt8))(ha:a.length≤1000000)(hb:b.length≤1000000):
  ah X0 A lk lim 107 [rowsV a,rowsV b] H=some (.tup [Sg ((cf a b).getD []),Bo (cf a b).isSome],H):=by
 have kc:=fun L x y=>DQ (lk:=lk) (lim:=L) (H:=H) x y;refine aq [] rfl MC rfl rfl ?_;unfold Ho;generalize ah X0 A=C at kc ⊢;simp;refine ax (σ:=List (List UInt8)×List (List UInt8)) (fun s=>[(0,rowsV s.1),(1,rowsV s.2),(4,Sg [])]) (fun _=>H)
  (fun s=>s.1.length≤a.length∧s.2.length≤b.length∧cf a b=cf s.1 s.2) (fun s=>s.1.length+s.2.length) ?_ (a,b) (by simp) (by simp [ab,find]) rfl
 rintro ⟨p,q⟩ ⟨hp,hq,hinv⟩;simp only at hp hq hinv;unfold Cr;rw [hinv];cases p with
 | nil=>
  have:cf [] q=none:=by unfold cf;cases ([]:List (List UInt8)).length+q.length<;>rfl
  rw [this];simp
 | cons x p=>
  have hp2:¬((p.length:Int)+1≤0):=by omega
  have hp3:(0:Int) < (p.length:Int)+1:=by omega
  cases q with
  | nil=>
   have:cf (x::p) []=none:=by unfold cf;simp [kM]
   rw [this];simp [hp2,hp3]
  | cons y q=>
   have hq2:¬((q.length:Int)+1≤0):=by omega
   have hq3:(0:Int) < (q.length:Int)+1:=by omega
   have hx0:∀(p:List (List UInt8)) h,(ay (x::p))[0]'h=Sg x:=fun _ _=>rfl;have hy0:∀h,(ay (y::q))[0]'h=Sg y:=fun _=>rfl;have kxy:=fun L=>kc L x y;unfold JN at kxy;by_cases he:x=y
   ·subst he;have hm:cf (x::p) (x::q)=some x:=by unfold cf;simp [kM]
    rw [hm];simp [fc] at kxy;simp [hp3,hq3,hx0,hy0,kxy]
   ·by_cases hl:Op.bytesLess x y=true
    ·have hm:cf (x::p) (y::q)=cf p (y::q):=by unfold cf;rw [show (x::p).length+(y::q).length=(p.length+(y::q).length)+1 by simp;omega];simp [kM,he,hl]
     rw [if_pos hl] at kxy;have ht:(ay p).take p.length=ay p:=jS p _ (Nat.le_refl _);simp [hp3,hq3,hx0,hy0,kxy,bnd,show (1:Int)≤(p.length:Int)+1 by omega,qT,ht,ao]
     exact ⟨p,y::q,⟨by simp at hp;omega,hq,hm⟩,by simp,by simp⟩
    ·have hm:cf (x::p) (y::q)=cf (x::p) q:=by unfold cf;simp [kM,he,hl]
     rw [if_neg hl,if_neg he] at kxy;have ht:(ay q).take q.length=ay q:=jS q _ (Nat.le_refl _);simp [hp3,hq3,hx0,hy0,kxy,bnd,show (1:Int)≤(q.length:Int)+1 by omega,qT,ht,ao]
     exact ⟨x::p,q,⟨hp,by simp at hq;omega,hm⟩,by simp,by simp⟩
end Go.Proofs.YtkllbcjanneppaaGreat.Z

namespace Go.Proofs.YtkllbcjanneppaaGreat
open Go Go.Hm Go.RowKit Go.Shelf Go.Proofs

theorem pq {P:Program}{C:Orc}(hC:bB P C){f:FuncId}(hf:f < 1000){lk lim:Nat}{avs:List AV}{r:AV}{args:Array Value}{φ:Phi}{F:Nat→Nat→Prop}{w:World}(hF:∀k o,F k o→k < w.heap.size)
  (hr:il φ F [] w avs args.toList) (h:C lk lim f avs []=some (r,[])):
  Calls P f args w fun e w'=>Below w.heap.size w w'∧∃v φ' F',e= .returned v∧VRel φ' F' [] w' r v∧(∀k o,F' k o→k < w'.heap.size):=by
 obtain ⟨_,hc⟩:=hC _ _ _ _ _ _ _ h;have sr:SR φ F [] w:=⟨fun b cs h=>by simp at h,fun b es h=>by simp at h,fun b b' ⟨cs,h,_⟩=>by simp at h,fun b o ⟨cs,h,_⟩=>by simp at h,hF⟩
 have:=hc φ F w args.toList sr hr;rw [Nat.mod_eq_of_lt hf] at this;simp only [Array.toArray_toList] at this;refine this.mono fun e W' ⟨v,he,φ',F',hv,sr',_,hch,_⟩=>?_;exact ⟨⟨hch.os,hch.tape,hch.output,hch.size,fun k hk=>hch.block k hk fun ⟨b,⟨x,hx,_⟩,_⟩=>by simp at hx⟩,v,φ',F',he,hv,sr'.fsz⟩
theorem zS {W:World}{v:Value}{l:List (List UInt8)}(h:RowAt W v l):∃a,RV a l∧VRel id0 (kC W) [] W a v:=by
 rcases h with ⟨rfl,x,rfl⟩ | ⟨bk,o,c,rfl,hc,hb,hcell⟩
 ·exact ⟨.sl 0 [],.inl rfl,.one (.slnil x)⟩
 ·refine ⟨rowsV l,.inl rfl,.one (.sl bk o l.length c (ay l) (l.map fun x=>.string ⟨⟨x⟩⟩) hc (by simp [ay]) ?_ (fun i hi=>?_) (fun i v hv=>?_) (fun i a v ha hv=>?_))⟩
  ·exact bv.2 fun a ha=>by
    unfold ay at ha;obtain ⟨x,_,rfl⟩:=List.mem_map.1 ha;rfl
  ·refine hb fun e=>?_;subst e;simp [ay] at hi
  ·rw [List.getElem?_map] at hv;obtain ⟨x,hx,rfl⟩:=Option.map_eq_some_iff.1 hv;exact hcell i x hx
  ·unfold ay at ha;rw [List.getElem?_map] at ha hv;obtain ⟨x,hx,rfl⟩:=Option.map_eq_some_iff.1 ha;rw [hx] at hv;simp only [Option.map_some,Option.some.injEq] at hv;subst hv;exact .val _ rfl
theorem vg {W:World}{v:Value}{l:List (List UInt8)}(h:RowAt W v l):VRel id0 (kC W) [] W (rowsV l) v:=by
 obtain ⟨a,ha,hr⟩:=zS h;rcases ha with rfl | ⟨rfl,rfl⟩
 ·exact hr
 ·cases hr with
  | one hr=>cases hr with
   | e0 x=>exact .one (.slnil x)
theorem vh {φ:Phi}{F:Nat→Nat→Prop}{H:Heap}{w:World}{a b:AV}{u v:Value}(h:VRel φ F H w a u)(k:VRel φ F H w b v):il φ F H w [a,b] [u,v]:=
 ⟨rfl,fun i x y hx hy=>by
  match i with
  | 0=>simp only [List.getElem?_cons_zero,Option.some.injEq] at hx hy;subst hx;subst hy;exact h
  | 1=>simp only [List.getElem?_cons_succ,List.getElem?_cons_zero,Option.some.injEq] at hx hy;subst hx;subst hy;exact k
  | i+2=>simp at hx⟩
theorem Gn {P:Program}(hC:bB P (ah X0 A)):sR P 107:=fun W va vb a b ha hb hla hlb=>by
 refine (pq hC (by decide) (φ:=id0) (F:=kC W) (fun _ _ h=>h) (vh (vg ha) (vg hb)) (Z.meet_code (lk:=0) (lim:=0) a b hla hlb)).mono fun e W' ⟨hbl,v,φ',F',he,hv,_⟩=>⟨hbl,?_⟩
 rw [he];cases hv with
 | one h=>cases h
 | tup avs vs hl h=>
  match vs,hl with
  | [x,y],_=>
   have h0:=h 0 _ x rfl rfl;have h1:=h 1 _ y rfl rfl;cases h0 with
   | one h0=>
    cases h1 with
    | one h1=>rw [(CRel.inv_val h0).1,(CRel.inv_val h1).1]
def mkP (p:Int×List Int):Pr:=⟨p.1,p.2⟩
def toG (t n k:Int)(ps:List (Int×List Int)):Gm:=⟨t,n,k,ps.map mkP⟩
theorem qU:∀{cs:List AV} {r:List Int},jz cs=some r→cs=ints r
 | [],r,h=>by
  simp only [jz,Option.some.injEq] at h;subst h;rfl
 | v::cs,r,h=>by
  unfold jz at h;split at h
  ·rename_i e;cases e
  ·rename_i n q e;cases e;cases hq:jz cs with
   | none=>rw [hq] at h;cases h
   | some l=>
    rw [hq] at h;simp only [Option.some.injEq] at h;subst h;rw [qU hq];rfl
  ·cases h
theorem pt:∀{cs:List AV} {ps:List (Int×List Int)},fQ cs=some ps→cs=psC (ps.map mkP)
 | [],ps,h=>by
  simp only [fQ,Option.some.injEq] at h;subst h;rfl
 | [v],ps,h=>by
  unfold fQ at h;split at h
  ·rename_i e;cases e
  ·rename_i e;cases e
  ·cases h
 | v::u::cs,ps,h=>by
  unfold fQ at h;split at h
  ·rename_i e;cases e
  ·rename_i l n c2 r e;cases e;split at h
   ·rename_i x q hx hq;split at h
    ·rename_i hn;simp only [Option.some.injEq] at h;subst h;rw [pt hq,qU hx,←hn];rfl
    ·cases h
   ·cases h
  ·cases h
theorem DR {v:AV}{l:List (List UInt8)}(h:BP v=some l):RV v l:=by
 unfold BP at h;split at h
 ·simp only [Option.some.injEq] at h;exact .inr ⟨rfl,h.symm⟩
 ·rename_i n cs;split at h
  ·rename_i l' hl;split at h
   ·rename_i hn;simp only [Option.some.injEq] at h;subst h;obtain ⟨h1,h2⟩:=jP hl;refine .inl ?_;rw [←hn];congr 1;refine List.ext_getElem? fun j=>?_;by_cases hj:j < l'.length
    ·rw [h2 j l'[j] (by simp [hj]),qj hj]
    ·rw [List.getElem?_eq_none (by omega),List.getElem?_eq_none (by rw [aQ];omega)]
   ·cases h
  ·cases h
 ·cases h
theorem qV:∀{cs:List AV} {look:List (List (List UInt8))},oC cs=some look→cs.length=look.length∧∀(j:Nat) l,look[j]?=some l→∃v,cs[j]?=some v∧RV v l
 | [],look,h=>by
  simp only [oC,Option.some.injEq] at h;subst h;simp
 | v::r,look,h=>by
  unfold oC at h;split at h
  ·rename_i x q hx hq;simp only [Option.some.injEq] at h;subst h;obtain ⟨h1,h2⟩:=qV hq;refine ⟨by simp [h1],fun j l hj=>?_⟩
   cases j with
   | zero=>
    simp only [List.getElem?_cons_zero,Option.some.injEq] at hj;subst hj;exact ⟨v,rfl,DR hx⟩
   | succ j=>exact h2 j l (by simpa using hj)
  ·cases h
theorem Gp {t n k:Int}{ps:List (Int×List Int)}(h:okA t n k ps=true):chkE (toG t n k ps)=0:=by
 simp only [okA,Bool.and_eq_true,decide_eq_true_eq,List.all_eq_true] at h;obtain ⟨⟨h1,h2,h3,h4,h5,h6,h7,h8⟩,hp⟩:=h;have q1:¬((ps.map mkP).any fun p=>decide (8 < p.r.length))=true:=by
  rw [Bool.not_eq_true,List.any_eq_false];intro p hp';obtain ⟨q,hq,rfl⟩:=List.mem_map.1 hp';have h1:=(hp q hq).1.2;have:¬8 < (mkP q).r.length:=by show ¬8 < q.2.length;omega
  simp [this]
 have q2:¬(ps.map mkP).any (gP (toG t n k ps))=true:=by
  rw [Bool.not_eq_true,List.any_eq_false];intro p hp';obtain ⟨q,hq,rfl⟩:=List.mem_map.1 hp';have h1:=hp q hq;have h2:=h1.1.1;have:gP (toG t n k ps) (mkP q)=false:=by
   simp only [gP,Bool.or_eq_false_iff,decide_eq_false_iff_not,List.any_eq_false];refine ⟨⟨show ¬q.1 < 0 by omega,show ¬n≤q.1 by omega⟩,fun s hs=>?_⟩
   have h3:=h1.2 s hs;have:cC (toG t n k ps) s=false:=by
    simp only [cC,Bool.or_eq_false_iff,decide_eq_false_iff_not];exact ⟨by omega,show ¬t+n≤s by omega⟩
   simp [this]
  simp [this]
 unfold chkE;show (if 8 < t∨16 < n∨3 < k∨64 < (ps.map mkP).length then (3:Int) else if ((ps.map mkP).any fun p=>decide (8 < p.r.length))=true then 3 else if t < 1∨n < 1∨k < 1∨(ps.map mkP).length < 1 then 2 else
  if (ps.map mkP).any (gP (toG t n k ps))=true then 2 else 0)=0
 rw [if_neg (by rw [List.length_map];omega),if_neg q1,if_neg (by rw [List.length_map];omega),if_neg q2]
theorem Gq (ps:List (Int×List Int))(i:Nat):((ps.map mkP).getD i ⟨0,[]⟩).l=(ps.getD i (0,[])).1:=by
 rw [List.getD_eq_getElem?_getD,List.getD_eq_getElem?_getD,List.getElem?_map];cases ps[i]?<;>rfl
theorem zT (ps:List (Int×List Int))(left:Nat):cV ps left=ofN (ps.map mkP) left (ps.map mkP).length:=by
 unfold cV ofN;rw [List.length_map];congr 1;funext i;rw [Gq]
theorem xc {φ:Phi}{F:Nat→Nat→Prop}{H:Heap}{w:World}{n:Nat}{cs:List AV}{v:Value}(h:CRel φ F H w (.sl n cs) v):
  (n=0∧cs=[]∧∃x,v= .slice x 0 0)∨∃b o cap,∃vs:List Value,v= .slice (some ⟨b,o,none⟩) n cap∧n≤cap∧vs.length=cs.length∧(∀i,i < cs.length→F b (o+i))∧(∀(i:Nat) v,vs[i]?=some v→w.cell? ⟨b,o+i,none⟩=some v)∧
   ∀(i:Nat) a v,cs[i]?=some a→vs[i]?=some v→CRel φ F H w a v:=by
 cases h with
 | sl b o n cap cells vs hn hl hb hF hc hr=>exact .inr ⟨b,o,cap,vs,rfl,hn,hl,hF,hc,hr⟩
 | slnil x=>exact .inl ⟨rfl,rfl,x,rfl⟩
theorem DS {φ:Phi}{F:Nat→Nat→Prop}{H:Heap}{w:World}(hF:∀k o,F k o→k < w.heap.size){a:AV}{l:List (List UInt8)}{v:Value}(ha:RV a l)(h:CRel φ F H w a v):RowAt w v l:=by
 rcases ha with rfl | ⟨rfl,rfl⟩
 ·rcases xc h with ⟨h1,_,x,rfl⟩ | ⟨b,o,cap,vs,rfl,hn,hl,hFF,hc,hr⟩
  ·exact .inl ⟨List.eq_nil_of_length_eq_zero h1,x,rfl⟩
  ·rw [aQ] at hl hFF;refine .inr ⟨b,o,cap,rfl,hn,fun hne=>?_,fun j x hj=>?_⟩
   ·exact hF b (o+0) (hFF 0 (List.length_pos_iff.2 hne))
   ·have hjl:j < l.length:=(List.getElem?_eq_some_iff.1 hj).1;have hx:l[j]=x:=(List.getElem?_eq_some_iff.1 hj).2;have hv:vs[j]?=some (vs[j]'(by omega)):=List.getElem?_eq_getElem (by omega)
    have:=hr j _ _ (qj hjl) hv;rw [hc j _ hv,(CRel.inv_val this).1,hx]
 ·cases h with
  | e0 x=>exact .inl ⟨rfl,x,rfl⟩
theorem yj {φ:Phi}{F:Nat→Nat→Prop}{H:Heap}{w:World}{cs:List AV}{v:Value}(h:VRel φ F H w (.agg cs) v):∃vs:List Value,v= .agg vs.toArray∧CL φ F H w cs vs:=by
 cases h with
 | one h=>cases h
 | agg cs vs h=>exact ⟨vs,rfl,h⟩
theorem DT {C:Orc}(hC:bB Tryz.prog C)(hw:C=ah X0 A){φ:Phi}{F:Nat→Nat→Prop}{w:World}{t n k:Int}{ps:List (Int×List Int)}{gs:Value}(hk:okA t n k ps=true)(hF:∀k o,F k o→k < w.heap.size)
  (hg:CRel φ F [] w (.sl (ps.map mkP).length (psC (ps.map mkP))) gs) (W:World) (hb:Below w.heap.size w W) (left:Nat):
  Calls Tryz.prog 53 #[.agg #[.int .i64 t,.int .i64 n,.int .i64 k,gs],.int .i64 left] W fun e W'=>Below W.heap.size W W'∧∃v,e= .returned v∧sS W' v (cV ps left):=by
 subst hw;have hc:=Gp hk;have hok:=br hc;have sr:SR φ F [] w:=⟨fun b cs h=>by simp at h,fun b es h=>by simp at h,fun b b' ⟨cs,h,_⟩=>by simp at h,fun b o ⟨cs,h,_⟩=>by simp at h,hF⟩
 obtain ⟨e,s⟩:=grow sr (F':=F) hb (fun _ _ h=>h) (fun _ _ h=>.inl h);have hgV:VRel φ F [] W (gV (toG t n k ps)) (.agg #[.int .i64 t,.int .i64 n,.int .i64 k,gs]):=by
  refine .agg _ [.int .i64 t,.int .i64 n,.int .i64 k,gs] ⟨rfl,fun i a v ha hv=>?_⟩
  match i with
  | 0 | 1 | 2=>simp [Gm.cells,toG] at ha hv;subst ha;subst hv;exact .val _ rfl
  | 3=>simp [Gm.cells,toG] at ha hv;subst ha;subst hv;simpa using hg.mono e
  | i+4=>simp at hv
 refine (pq hC (by decide) s.fsz (vh hgV (.one (.val (.int .i64 left) rfl))) (Z.gof_code (lk:=0) (lim:=0) (H:=[]) (toG t n k ps) left (Nat.le_trans hok.l2 (by decide)) (fun p hp=>Nat.le_trans (hok.p p hp).len (by decide)) (Nat.le_refl _))).mono
  fun e W' ⟨hbl,v,φ',F',he,hv,hF'⟩=>⟨hbl,v,he,?_⟩
 unfold lZ at hv;rw [if_pos hc] at hv;rw [zT];simp only [toG] at hv;generalize ofN (ps.map mkP) left (ps.map mkP).length=o at hv ⊢;unfold slvN at hv;by_cases h0:o=[]
 ·rw [if_pos h0] at hv;cases hv with
  | one h=>cases h with
   | e0 x=>exact .inl ⟨h0,x,rfl⟩
 ·rw [if_neg h0] at hv;cases hv with
  | one h=>
   rcases xc h with ⟨h1,_,x,rfl⟩ | ⟨b,of,cap,vs,rfl,hn,hl,hFF,hcc,hr⟩
   ·exact .inl ⟨List.eq_nil_of_length_eq_zero h1,x,rfl⟩
   ·have hln:(nts o).length=o.length:=dI o;rw [hln] at hl hFF;refine .inr ⟨b,of,cap,rfl,hn,hF' b (of+0) (hFF 0 (List.length_pos_iff.2 h0)),fun j a hj=>?_⟩;have hjl:j < o.length:=(List.getElem?_eq_some_iff.1 hj).1;have hx:o[j]=a:=(List.getElem?_eq_some_iff.1 hj).2;have hv:vs[j]?=some (vs[j]'(by omega)):=List.getElem?_eq_getElem (by omega)
    have:=hr j (I a) _ (by simp [nts,hj]) hv
    rw [hcc j _ hv,(CRel.inv_val this).1]
theorem DU {φ:Phi}{F:Nat→Nat→Prop}{H:Heap}{w:World}(c:Option (Nat×Nat×Nat×List UInt8)):VRel φ F H w (mU c) (yi c):=by
 have hB:∀b:Bool,VRel φ F H w (Bo b) (.bool b):=fun b=>.one (.val _ rfl);have hA:∀(l a b:Nat) (x:List UInt8),VRel φ F H w (.agg [I l,I a,I b,Sg x]) (.agg #[.int .i64 l,.int .i64 a,.int .i64 b,.string ⟨⟨x⟩⟩]):=fun l a b x=>
  .agg _ [.int .i64 l,.int .i64 a,.int .i64 b,.string ⟨⟨x⟩⟩] ⟨rfl,fun i a v ha hv=>by
   match i with
   | 0 | 1 | 2 | 3=>simp at ha hv;subst ha;subst hv;exact .val _ rfl
   | i+4=>simp at hv⟩
 cases c with
 | none=>
  refine .tup _ [.agg #[.int .i64 0,.int .i64 0,.int .i64 0,.string ⟨⟨[]⟩⟩],.bool false] rfl ?_;intro i a v ha hv
  match i with
  | 0=>simp at ha hv;subst ha;subst hv;exact hA 0 0 0 []
  | 1=>simp at ha hv;subst ha;subst hv;exact hB _
  | i+2=>simp at hv
 | some c=>
  obtain ⟨l,a,b,x⟩:=c;refine .tup _ [.agg #[.int .i64 l,.int .i64 a,.int .i64 b,.string ⟨⟨x⟩⟩],.bool true] rfl ?_;intro i u v ha hv
  match i with
  | 0=>simp at ha hv;subst ha;subst hv;exact hA l a b x
  | 1=>simp at ha hv;subst ha;subst hv;exact hB _
  | i+2=>simp at hv
theorem zU {φ:Phi}{F:Nat→Nat→Prop}{H:Heap}{w:World}{a b:AV}{vs:List Value}(h:il φ F H w [a,b] vs):∃u v,vs=[u,v]∧VRel φ F H w a u∧VRel φ F H w b v:=by
 obtain ⟨hl,h⟩:=h
 match vs,hl with
 | [u,v],_=>exact ⟨u,v,rfl,h 0 _ _ rfl rfl,h 1 _ _ rfl rfl⟩
theorem vi {φ:Phi}{F:Nat→Nat→Prop}{H:Heap}{w:World}{a:AV}{v:Value}(h:CRel φ F H w a v)(hb:Hm.below 0 a=true):CRel φ F [] w a v:=by
 have:=h.shrink hb;simpa using this
theorem JO {φ:Phi}{F:Nat→Nat→Prop}{H:Heap}{w:World}{n:Nat}{cs:List AV}{v:Value}(h:CRel φ F H w (.sl n cs) v):Hm.below 0 (.sl n cs)=true:=by
 cases h with
 | sl b o n cap cells vs hn hl hb hF hc hr=>simp [Hm.below,hb]
 | slnil x=>rfl
theorem lz (hC:bB Tryz.prog (ah X0 A)):xB Tryz.prog 60 gN:=by
 refine ⟨⟨Tryz.f60,Tryz.func60,by decide,rfl⟩,?_⟩
 intro φ F H w avs r vs h sr ha;unfold gN at h;split at h;case h_2=>cases h
 rename_i t n k m cs lv;split at h;case h_2=>cases h
 rename_i ps look hps hlook;split at h;case isFalse=>cases h
 rename_i hcond;obtain ⟨hm,hll,hok,hbig⟩:=hcond;simp only [Option.some.injEq] at h;subst h;obtain ⟨u,v,rfl,hu,hv⟩:=zU ha;obtain ⟨us,rfl,hul,hur⟩:=yj hu;obtain ⟨ws,rfl,hwl,hwr⟩:=yj hv;obtain ⟨u0,u1,u2,gs,rfl⟩:∃u0 u1 u2 gs,us=[u0,u1,u2,gs]:=by
  match us,hul with
  | [u0,u1,u2,gs],_=>exact ⟨u0,u1,u2,gs,rfl⟩
 obtain ⟨lk,rfl⟩:∃lk,ws=[lk]:=by
  match ws,hwl with
  | [lk],_=>exact ⟨lk,rfl⟩
 have e0:=(CRel.inv_val (hur 0 _ u0 rfl rfl)).1;have e1:=(CRel.inv_val (hur 1 _ u1 rfl rfl)).1;have e2:=(CRel.inv_val (hur 2 _ u2 rfl rfl)).1;have hg:=hur 3 _ gs rfl rfl;have hlr:=hwr 0 _ lk rfl rfl;subst e0;subst e1;subst e2;have hcs:=pt hps;subst hcs;have hok2:=hok;simp only [okA,Bool.and_eq_true,decide_eq_true_eq] at hok2;obtain ⟨⟨t1,t2,n1,n2,k1,k2,l1,l2⟩,-⟩:=hok2;obtain ⟨n,rfl⟩:=Int.eq_ofNat_of_zero_le (by omega:0≤n)
 have hg0:=vi hg (JO hg);rw [show m=(ps.map mkP).length by rw [List.length_map];exact hm.symm] at hg0
 -- the table
 unfold t8 at hlook;split at hlook
 ·simp only [Option.some.injEq] at hlook;subst hlook;simp at hll;omega
 ·rename_i nl cl;split at hlook;case h_2=>cases hlook
  rename_i l hl;split at hlook;case isFalse=>cases hlook
  rename_i hnl;simp only [Option.some.injEq] at hlook;subst hlook;obtain ⟨hr1,hr2⟩:=qV hl;rcases xc hlr with ⟨h1,_,x,rfl⟩ | ⟨lb,lo,cap,vs,rfl,hn,hlv,hFF,hcc,hrr⟩
  ·omega
  ·have hat:LookAt w lb lo ps.length cap l:=⟨hll,by omega,sr.fsz lb (lo+0) (hFF 0 (by omega)),fun j x hj=>by
    have hjl:=(List.getElem?_eq_some_iff.1 hj).1;have hjx:=(List.getElem?_eq_some_iff.1 hj).2;refine ⟨by have:=List.all_eq_true.1 hbig x (List.mem_of_getElem? hj);simpa using this,?_⟩
    obtain ⟨av,h1,h2⟩:=hr2 j x hj;have hvj:vs[j]?=some (vs[j]'(by omega)):=List.getElem?_eq_getElem (by omega)
    exact ⟨_,hcc j _ hvj,DS sr.fsz h2 (hrr j av _ h1 hvj)⟩⟩
   have hcap:nl=ps.length:=by omega
   subst hcap;refine ((callsIn_wide (n:=9)).1 (pG (Gn hC) w lb lo cap l ps t k n gs hat (by omega) (by omega) fun W hb left _=>DT hC rfl hok sr.fsz hg0 W hb left)).mono ?_
   rintro e w' ⟨hb,rfl⟩;obtain ⟨e,s⟩:=grow sr (F':=F) hb (fun _ _ h=>h) (fun _ _ h=>.inl h);exact ⟨_,rfl,φ,F,DU _,s,e,Chg.of_below hb _,fun b hb=>.inl ⟨hb,rfl⟩,fun _ _ h=>.inl h⟩
 ·cases hlook
theorem vj (hC:bB Tryz.prog (ah X0 A)):xB Tryz.prog 60 gu:=
 ⟨(lz hC).1,fun φ F H w l r vs h sr ha=>(lz hC).2 φ F H w (l.map nrA) r vs h sr (BR ha)⟩
end Go.Proofs.YtkllbcjanneppaaGreat
