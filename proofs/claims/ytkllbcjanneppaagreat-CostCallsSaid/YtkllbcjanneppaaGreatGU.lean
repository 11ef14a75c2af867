import Derived.Test.YtkllbcjanneppaaGreatGB
import Derived.Test.YtkllbcjanneppaaGreatGT
set_option linter.all false
namespace Go.Proofs.YtkllbcjanneppaaGreat.Z
open Go Go.Hm

theorem MC (a b:List UInt8):eY .lss ⟨⟨a⟩⟩ ⟨⟨b⟩⟩=some (Bo (Op.bytesLess a b)):=by
 simp only[eY,fx]
theorem MD (a b:List UInt8):eY .gtr ⟨⟨a⟩⟩ ⟨⟨b⟩⟩=some (Bo (!(Op.bytesLess a b||a==b))):=by
 simp only[eY,fx]
theorem xw {lk lim:Nat}{H:Heap}(a:List UInt8):aj X0 A lk lim 121 [Sg a] H=some (Bo false,H):=by
 refine ar [] rfl PP rfl rfl ?_;unfold Kr;generalize aj X0 A=C;have:=uz a a;simp[this]
def ME (a b:List UInt8):Int:=if Op.bytesLess a b=true then -1 else if a=b then 0 else 1
theorem GA {lk lim:Nat}{H:Heap}(a b:List UInt8):aj X0 A lk lim 114 [Sg a,Sg b] H=some (I (ME a b),H):=by
 have k1:=fun L=>xw (lk:=lk) (lim:=L) (H:=H) a;have k2:=fun L=>xw (lk:=lk) (lim:=L) (H:=H) b;refine ar [] rfl PO rfl rfl ?_;unfold Kq ME;generalize aj X0 A=C at k1 k2 |-;have h1:=MC a b;have h2:=MD a b;by_cases he:a=b
 ·subst he;simp[fP]at h1 h2 |-;simp[k1,h1,h2]
 ·have heb:(a==b)=false:=by simp[he]
  rw[heb]at h2;cases hab:Op.bytesLess a b<;>rw[hab]at h1 h2<;>simp at h2<;>simp[k1,k2,h1,h2,he]
theorem te (x:List UInt8)(p:List (List UInt8)):(ay (x::p)).tail=ay p:=rfl
theorem meet_code {lk lim:Nat}{H:Heap}(a b:List (List UInt8))(ha:a.length<=1000000)(hb:b.length<=1000000):
  aj X0 A lk lim 107 [rowsV a,rowsV b] H=some (.tup [Sg ((bK a b).getD []),Bo (bK a b).isSome],H):=by
 have kc:=fun L x y=>GA (lk:=lk) (lim:=L) (H:=H) x y;refine ar [] rfl PN rfl rfl ?_;unfold Kp;generalize aj X0 A=C at kc |-;simp;refine ax (σ:=List (List UInt8)×List (List UInt8)) (fun s=>[(0,rowsV s.1),(1,rowsV s.2),(4,Sg [])]) (fun _=>H)
  (fun s=>s.1.length<=a.length/\s.2.length<=b.length/\bK a b=bK s.1 s.2) (fun s=>s.1.length+s.2.length) ?_ (a,b) (by simp) (by simp[ab,find]) rfl
 rintro⟨p,q⟩ ⟨hp,hq,hinv⟩;simp only at hp hq hinv;unfold EU;rw[hinv];cases p with
 | nil=>
  have:bK [] q=none:=by unfold bK;cases ([]:List (List UInt8)).length+q.length<;>rfl
  rw[this];simp
 | cons x p=>
  have hp2:¬((p.length:Int)+1<=0):=by omega
  have hp3:(0:Int)<(p.length:Int)+1:=by omega
  cases q with
  | nil=>
   have:bK (x::p) []=none:=by unfold bK;simp[e9]
   rw[this];simp[hp2,hp3]
  | cons y q=>
   have hq2:¬((q.length:Int)+1<=0):=by omega
   have hq3:(0:Int)<(q.length:Int)+1:=by omega
   have hx0:∀(p:List (List UInt8)) h,(ay (x::p))[0]'h=Sg x:=fun _ _=>rfl;have hy0:∀h,(ay (y::q))[0]'h=Sg y:=fun _=>rfl;have kxy:=fun L=>kc L x y;unfold ME at kxy;by_cases he:x=y
   ·subst he;have hm:bK (x::p) (x::q)=some x:=by unfold bK;simp[e9]
    rw[hm];simp[fP]at kxy;simp[hp3,hq3,hx0,hy0,kxy]
   ·by_cases hl:Op.bytesLess x y=true
    ·have hm:bK (x::p) (y::q)=bK p (y::q):=by unfold bK;rw[show (x::p).length+(y::q).length=(p.length+(y::q).length)+1 by simp;omega];simp[e9,he,hl]
     rw[if_pos hl]at kxy;have ht:(ay p).take p.length=ay p:=lz p _ (Nat.le_refl _);simp[hp3,hq3,hx0,hy0,kxy,bnd,show (1:Int)<=(p.length:Int)+1 by omega,te,ht,ao]
     exact⟨p,y::q,⟨by simp at hp;omega,hq,hm⟩,by simp,by simp⟩
    ·have hm:bK (x::p) (y::q)=bK (x::p) q:=by unfold bK;simp[e9,he,hl]
     rw[if_neg hl,if_neg he]at kxy;have ht:(ay q).take q.length=ay q:=lz q _ (Nat.le_refl _);simp[hp3,hq3,hx0,hy0,kxy,bnd,show (1:Int)<=(q.length:Int)+1 by omega,te,ht,ao]
     exact⟨x::p,q,⟨hp,by simp at hq;omega,hm⟩,by simp,by simp⟩
end Go.Proofs.YtkllbcjanneppaaGreat.Z

namespace Go.Proofs.YtkllbcjanneppaaGreat
open Go Go.Hm Go.RowKit Go.Shelf Go.Proofs

theorem ry {P:Program}{C:Orc}(hC:bI P C){f:FuncId}(hf:f<1000){lk lim:Nat}{avs:List AV}{r:AV}{args:Array Value}{φ:Phi}{F:Nat->Nat->Prop}{w:World}(hF:∀k o,F k o->k<w.heap.size)
  (hr:jb φ F [] w avs args.toList) (h:C lk lim f avs []=some (r,[])):
  Calls P f args w fun e w'=>Below w.heap.size w w'/\∃v φ' F',e= .returned v/\VRel φ' F' [] w' r v/\(∀k o,F' k o->k<w'.heap.size):=by
 obtain⟨_,hc⟩:=hC _ _ _ _ _ _ _ h;have sr:SR φ F [] w:=⟨fun b cs h=>by simp at h,fun b es h=>by simp at h,fun b b' ⟨cs,h,_⟩=>by simp at h,fun b o ⟨cs,h,_⟩=>by simp at h,hF⟩
 have:=hc φ F w args.toList sr hr;rw[Nat.mod_eq_of_lt hf]at this;simp only[Array.toArray_toList]at this;refine this.mono fun e W' ⟨v,he,φ',F',hv,sr',_,hch,_⟩=>?_;exact⟨⟨hch.os,hch.tape,hch.output,hch.size,fun k hk=>hch.block k hk fun⟨b,⟨x,hx,_⟩,_⟩=>by simp at hx⟩,v,φ',F',he,hv,sr'.fsz⟩
theorem Cw {W:World}{v:Value}{l:List (List UInt8)}(h:RowAt W v l):∃a,RV a l/\VRel id0 (lZ W) [] W a v:=by
 rcases h with⟨rfl,x,rfl⟩ | ⟨bk,o,c,rfl,hc,hb,hcell⟩
 ·exact⟨.sl 0 [],.inl rfl,.one (.slnil x)⟩
 ·refine⟨rowsV l,.inl rfl,.one (.sl bk o l.length c (ay l) (l.map fun x=>.string ⟨⟨x⟩⟩) hc (by simp[ay]) ?_ (fun i hi=>?_) (fun i v hv=>?_) (fun i a v ha hv=>?_))⟩
  ·exact bD.2 fun a ha=>by
    unfold ay at ha;obtain⟨x,_,rfl⟩:=List.mem_map.1 ha;rfl
  ·refine hb fun e=>?_;subst e;simp[ay]at hi
  ·rw[List.getElem?_map]at hv;obtain⟨x,hx,rfl⟩:=Option.map_eq_some_iff.1 hv;exact hcell i x hx
  ·unfold ay at ha;rw[List.getElem?_map]at ha hv;obtain⟨x,hx,rfl⟩:=Option.map_eq_some_iff.1 ha;rw[hx]at hv;simp only[Option.map_some,RZ]at hv;subst hv;exact .val _ rfl
theorem xy {W:World}{v:Value}{l:List (List UInt8)}(h:RowAt W v l):VRel id0 (lZ W) [] W (rowsV l) v:=by
 obtain⟨a,ha,hr⟩:=Cw h;rcases ha with rfl | ⟨rfl,rfl⟩
 ·exact hr
 ·cases hr with
  | one hr=>cases hr with
   | e0 x=>exact .one (.slnil x)
theorem xz {φ:Phi}{F:Nat->Nat->Prop}{H:Heap}{w:World}{a b:AV}{u v:Value}(h:VRel φ F H w a u)(k:VRel φ F H w b v):jb φ F H w [a,b] [u,v]:=
 ⟨rfl,fun i x y hx hy=>by
  match i with
  | 0=>simp only[List.getElem?_cons_zero,RZ]at hx hy;subst hx;subst hy;exact h
  | 1=>simp only[List.getElem?_cons_succ,List.getElem?_cons_zero,RZ]at hx hy;subst hx;subst hy;exact k
  | i+2=>simp at hx⟩
theorem Jk {P:Program}(hC:bI P (aj X0 A)):u3 P 107:=fun W va vb a b ha hb hla hlb=>by
 refine(ry hC (by decide) (φ:=id0) (F:=lZ W) (fun _ _ h=>h) (xz (xy ha) (xy hb)) (Z.meet_code (lk:=0) (lim:=0) a b hla hlb)).mono fun e W' ⟨hbl,v,φ',F',he,hv,_⟩=>⟨hbl,?_⟩
 rw[he];cases hv with
 | one h=>cases h
 | tup avs vs hl h=>
  match vs,hl with
  | [x,y],_=>
   have h0:=h 0 _ x rfl rfl;have h1:=h 1 _ y rfl rfl;cases h0 with
   | one h0=>
    cases h1 with
    | one h1=>rw[(CRel.inv_val h0).1,(CRel.inv_val h1).1]
def mkP (p:Int×List Int):Pr:=⟨p.1,p.2⟩
def toG (t n k:Int)(ps:List (Int×List Int)):Gm:=⟨t,n,k,ps.map mkP⟩
theorem tf:∀{cs:List AV} {r:List Int},kY cs=some r->cs=ints r
 | [],r,h=>by
  simp only[kY,RZ]at h;subst h;rfl
 | v::cs,r,h=>by
  unfold kY at h;split at h
  ·rename_i e;cases e
  ·rename_i n q e;cases e;cases hq:kY cs with
   | none=>rw[hq]at h;cases h
   | some l=>
    rw[hq]at h;simp only[RZ]at h;subst h;rw[tf hq];rfl
  ·cases h
theorem rz:∀{cs:List AV} {ps:List (Int×List Int)},gQ cs=some ps->cs=psC (ps.map mkP)
 | [],ps,h=>by
  simp only[gQ,RZ]at h;subst h;rfl
 | [v],ps,h=>by
  unfold gQ at h;split at h
  ·rename_i e;cases e
  ·rename_i e;cases e
  ·cases h
 | v::u::cs,ps,h=>by
  unfold gQ at h;split at h
  ·rename_i e;cases e
  ·rename_i l n c2 r e;cases e;split at h
   ·rename_i x q hx hq;split at h
    ·rename_i hn;simp only[RZ]at h;subst h;rw[rz hq,tf hx,<-hn];rfl
    ·cases h
   ·cases h
  ·cases h
theorem GB {v:AV}{l:List (List UInt8)}(h:Ej v=some l):RV v l:=by
 unfold Ej at h;split at h
 ·simp only[RZ]at h;exact .inr ⟨rfl,h.symm⟩
 ·rename_i n cs;split at h
  ·rename_i l' hl;split at h
   ·rename_i hn;simp only[RZ]at h;subst h;obtain⟨h1,h2⟩:=lw hl;refine .inl ?_;rw[<-hn];congr 1;refine List.ext_getElem? fun j=>?_;by_cases hj:j<l'.length
    ·rw[h2 j l'[j] (by simp[hj]),sB hj]
    ·rw[List.getElem?_eq_none (by omega),List.getElem?_eq_none (by rw[aW];omega)]
   ·cases h
  ·cases h
 ·cases h
theorem tg:∀{cs:List AV} {look:List (List (List UInt8))},qD cs=some look->cs.length=look.length/\∀(j:Nat) l,look[j]?=some l->∃v,cs[j]?=some v/\RV v l
 | [],look,h=>by
  simp only[qD,RZ]at h;subst h;simp
 | v::r,look,h=>by
  unfold qD at h;split at h
  ·rename_i x q hx hq;simp only[RZ]at h;subst h;obtain⟨h1,h2⟩:=tg hq;refine⟨by simp[h1],fun j l hj=>?_⟩
   cases j with
   | zero=>
    simp only[List.getElem?_cons_zero,RZ]at hj;subst hj;exact⟨v,rfl,GB hx⟩
   | succ j=>exact h2 j l (by simpa using hj)
  ·cases h
theorem Jl {t n k:Int}{ps:List (Int×List Int)}(h:okA t n k ps=true):chkE (toG t n k ps)=0:=by
 simp only[okA,Bool.and_eq_true,decide_eq_true_eq,List.all_eq_true]at h;obtain⟨⟨h1,h2,h3,h4,h5,h6,h7,h8⟩,hp⟩:=h;have q1:¬((ps.map mkP).any fun p=>decide (8<p.r.length))=true:=by
  rw[Bool.not_eq_true,List.any_eq_false];intro p hp';obtain⟨q,hq,rfl⟩:=List.mem_map.1 hp';have h1:=(hp q hq).1.2;have:¬8<(mkP q).r.length:=by show ¬8<q.2.length;omega
  simp[this]
 have q2:¬(ps.map mkP).any (jz (toG t n k ps))=true:=by
  rw[Bool.not_eq_true,List.any_eq_false];intro p hp';obtain⟨q,hq,rfl⟩:=List.mem_map.1 hp';have h1:=hp q hq;have h2:=h1.1.1;have:jz (toG t n k ps) (mkP q)=false:=by
   simp only[jz,Bool.or_eq_false_iff,decide_eq_false_iff_not,List.any_eq_false];refine⟨⟨show ¬q.1<0 by omega,show ¬n<=q.1 by omega⟩,fun s hs=>?_⟩
   have h3:=h1.2 s hs;have:du (toG t n k ps) s=false:=by
    simp only[du,Bool.or_eq_false_iff,decide_eq_false_iff_not];exact⟨by omega,show ¬t+n<=s by omega⟩
   simp[this]
  simp[this]
 unfold chkE;show (if 8<t\/16<n\/3<k\/64<(ps.map mkP).length then (3:Int) else if ((ps.map mkP).any fun p=>decide (8<p.r.length))=true then 3 else if t<1\/n<1\/k<1\/(ps.map mkP).length<1 then 2 else
  if (ps.map mkP).any (jz (toG t n k ps))=true then 2 else 0)=0
 rw[if_neg (by rw[List.length_map];omega),if_neg q1,if_neg (by rw[List.length_map];omega),if_neg q2]
theorem Jn (ps:List (Int×List Int))(i:Nat):((ps.map mkP).getD i ⟨0,[]⟩).l=(ps.getD i (0,[])).1:=by
 rw[R3,R3,List.getElem?_map];cases ps[i]?<;>rfl
theorem Cy (ps:List (Int×List Int))(left:Nat):cg ps left=ofN (ps.map mkP) left (ps.map mkP).length:=by
 unfold cg ofN;rw[List.length_map];congr 1;funext i;rw[Jn]
theorem zj {φ:Phi}{F:Nat->Nat->Prop}{H:Heap}{w:World}{n:Nat}{cs:List AV}{v:Value}(h:CRel φ F H w (.sl n cs) v):
  (n=0/\cs=[]/\∃x,v= .slice x 0 0)\/∃b o cap,∃vs:List Value,v= .slice (some ⟨b,o,none⟩) n cap/\n<=cap/\vs.length=cs.length/\(∀i,i<cs.length->F b (o+i))/\(∀(i:Nat) v,vs[i]?=some v->w.cell? ⟨b,o+i,none⟩=some v)/\
   ∀(i:Nat) a v,cs[i]?=some a->vs[i]?=some v->CRel φ F H w a v:=by
 cases h with
 | sl b o n cap cells vs hn hl hb hF hc hr=>exact .inr ⟨b,o,cap,vs,rfl,hn,hl,hF,hc,hr⟩
 | slnil x=>exact .inl ⟨rfl,rfl,x,rfl⟩
theorem GC {φ:Phi}{F:Nat->Nat->Prop}{H:Heap}{w:World}(hF:∀k o,F k o->k<w.heap.size){a:AV}{l:List (List UInt8)}{v:Value}(ha:RV a l)(h:CRel φ F H w a v):RowAt w v l:=by
 rcases ha with rfl | ⟨rfl,rfl⟩
 ·rcases zj h with⟨h1,_,x,rfl⟩ | ⟨b,o,cap,vs,rfl,hn,hl,hFF,hc,hr⟩
  ·exact .inl ⟨List.eq_nil_of_length_eq_zero h1,x,rfl⟩
  ·rw[aW]at hl hFF;refine .inr ⟨b,o,cap,rfl,hn,fun hne=>?_,fun j x hj=>?_⟩
   ·exact hF b (o+0) (hFF 0 (List.length_pos_iff.2 hne))
   ·have hjl:j<l.length:=(List.getElem?_eq_some_iff.1 hj).1;have hx:l[j]=x:=(List.getElem?_eq_some_iff.1 hj).2;have hv:vs[j]?=some (vs[j]'(by omega)):=R4 (by omega)
    have:=hr j _ _ (sB hjl) hv;rw[hc j _ hv,(CRel.inv_val this).1,hx]
 ·cases h with
  | e0 x=>exact .inl ⟨rfl,x,rfl⟩
theorem AL {φ:Phi}{F:Nat->Nat->Prop}{H:Heap}{w:World}{cs:List AV}{v:Value}(h:VRel φ F H w (.agg cs) v):∃vs:List Value,v= .agg vs.toArray/\CL φ F H w cs vs:=by
 cases h with
 | one h=>cases h
 | agg cs vs h=>exact⟨vs,rfl,h⟩
theorem GD {C:Orc}(hC:bI Tryz.prog C)(hw:C=aj X0 A){φ:Phi}{F:Nat->Nat->Prop}{w:World}{t n k:Int}{ps:List (Int×List Int)}{gs:Value}(hk:okA t n k ps=true)(hF:∀k o,F k o->k<w.heap.size)
  (hg:CRel φ F [] w (.sl (ps.map mkP).length (psC (ps.map mkP))) gs) (W:World) (hb:Below w.heap.size w W) (left:Nat):
  Calls Tryz.prog 53 #[.agg #[.int .i64 t,.int .i64 n,.int .i64 k,gs],.int .i64 left] W fun e W'=>Below W.heap.size W W'/\∃v,e= .returned v/\u4 W' v (cg ps left):=by
 subst hw;have hc:=Jl hk;have hok:=br hc;have sr:SR φ F [] w:=⟨fun b cs h=>by simp at h,fun b es h=>by simp at h,fun b b' ⟨cs,h,_⟩=>by simp at h,fun b o ⟨cs,h,_⟩=>by simp at h,hF⟩
 obtain⟨e,s⟩:=grow sr (F':=F) hb (fun _ _ h=>h) (fun _ _ h=>.inl h);have hgV:VRel φ F [] W (gV (toG t n k ps)) (.agg #[.int .i64 t,.int .i64 n,.int .i64 k,gs]):=by
  refine .agg _ [.int .i64 t,.int .i64 n,.int .i64 k,gs] ⟨rfl,fun i a v ha hv=>?_⟩
  match i with
  | 0 | 1 | 2=>simp[Gm.cells,toG]at ha hv;subst ha;subst hv;exact .val _ rfl
  | 3=>simp[Gm.cells,toG]at ha hv;subst ha;subst hv;simpa using hg.mono e
  | i+4=>simp at hv
 refine(ry hC (by decide) s.fsz (xz hgV (.one (.val (.int .i64 left) rfl))) (mC (Y:=X0) (lk:=0) (lim:=0) (H:=[]) (toG t n k ps) left (Nat.le_trans hok.l2 (by decide)) (fun p hp=>Nat.le_trans (hok.p p hp).len (by decide)) (Nat.le_refl _))).mono
  fun e W' ⟨hbl,v,φ',F',he,hv,hF'⟩=>⟨hbl,v,he,?_⟩
 unfold nL at hv;rw[if_pos hc]at hv;rw[Cy];simp only[toG]at hv;generalize ofN (ps.map mkP) left (ps.map mkP).length=o at hv |-;unfold slvN at hv;by_cases h0:o=[]
 ·rw[if_pos h0]at hv;cases hv with
  | one h=>cases h with
   | e0 x=>exact .inl ⟨h0,x,rfl⟩
 ·rw[if_neg h0]at hv;cases hv with
  | one h=>
   rcases zj h with⟨h1,_,x,rfl⟩ | ⟨b,of,cap,vs,rfl,hn,hl,hFF,hcc,hr⟩
   ·exact .inl ⟨List.eq_nil_of_length_eq_zero h1,x,rfl⟩
   ·have hln:(nts o).length=o.length:=dW o;rw[hln]at hl hFF;refine .inr ⟨b,of,cap,rfl,hn,hF' b (of+0) (hFF 0 (List.length_pos_iff.2 h0)),fun j a hj=>?_⟩;have hjl:j<o.length:=(List.getElem?_eq_some_iff.1 hj).1;have hx:o[j]=a:=(List.getElem?_eq_some_iff.1 hj).2;have hv:vs[j]?=some (vs[j]'(by omega)):=R4 (by omega)
    have:=hr j (I a) _ (by simp[nts,hj]) hv
    rw[hcc j _ hv,(CRel.inv_val this).1]
theorem GF {φ:Phi}{F:Nat->Nat->Prop}{H:Heap}{w:World}(c:Option (Nat×Nat×Nat×List UInt8)):VRel φ F H w (oP c) (AK c):=by
 have hB:∀b:Bool,VRel φ F H w (Bo b) (.bool b):=fun b=>.one (.val _ rfl);have hA:∀(l a b:Nat) (x:List UInt8),VRel φ F H w (.agg [I l,I a,I b,Sg x]) (.agg #[.int .i64 l,.int .i64 a,.int .i64 b,.string ⟨⟨x⟩⟩]):=fun l a b x=>
  .agg _ [.int .i64 l,.int .i64 a,.int .i64 b,.string ⟨⟨x⟩⟩] ⟨rfl,fun i a v ha hv=>by
   match i with
   | 0 | 1 | 2 | 3=>simp at ha hv;subst ha;subst hv;exact .val _ rfl
   | i+4=>simp at hv⟩
 cases c with
 | none=>
  refine .tup _ [.agg #[.int .i64 0,.int .i64 0,.int .i64 0,.string ⟨⟨[]⟩⟩],.bool false] rfl ?_;intro i a v ha hv
  match i with
  | 0=>simp at ha hv;subst ha;subst hv;exact hA 0 0 0 []
  | 1=>simp at ha hv;subst ha;subst hv;exact hB _
  | i+2=>simp at hv
 | some c=>
  obtain⟨l,a,b,x⟩:=c;refine .tup _ [.agg #[.int .i64 l,.int .i64 a,.int .i64 b,.string ⟨⟨x⟩⟩],.bool true] rfl ?_;intro i u v ha hv
  match i with
  | 0=>simp at ha hv;subst ha;subst hv;exact hA l a b x
  | 1=>simp at ha hv;subst ha;subst hv;exact hB _
  | i+2=>simp at hv
theorem Cz {φ:Phi}{F:Nat->Nat->Prop}{H:Heap}{w:World}{a b:AV}{vs:List Value}(h:jb φ F H w [a,b] vs):∃u v,vs=[u,v]/\VRel φ F H w a u/\VRel φ F H w b v:=by
 obtain⟨hl,h⟩:=h
 match vs,hl with
 | [u,v],_=>exact⟨u,v,rfl,h 0 _ _ rfl rfl,h 1 _ _ rfl rfl⟩
theorem xA {φ:Phi}{F:Nat->Nat->Prop}{H:Heap}{w:World}{a:AV}{v:Value}(h:CRel φ F H w a v)(hb:Hm.below 0 a=true):CRel φ F [] w a v:=by
 have:=h.shrink hb;simpa using this
theorem MF {φ:Phi}{F:Nat->Nat->Prop}{H:Heap}{w:World}{n:Nat}{cs:List AV}{v:Value}(h:CRel φ F H w (.sl n cs) v):Hm.below 0 (.sl n cs)=true:=by
 cases h with
 | sl b o n cap cells vs hn hl hb hF hc hr=>simp[Hm.below,hb]
 | slnil x=>rfl
set_option maxRecDepth 100000 in
theorem m5 (hC:bI Tryz.prog (aj X0 A)):zR Tryz.prog 60 iL:=by
 refine⟨⟨Tryz.f60,Tryz.func60,by decide,rfl⟩,?_⟩
 intro φ F H w avs r vs h sr ha;unfold iL at h;split at h;case h_2=>cases h
 rename_i t n k m cs lv;split at h;case h_2=>cases h
 rename_i ps look hps hlook;split at h;case isFalse=>cases h
 rename_i hcond;obtain⟨hm,hll,hok,hbig⟩:=hcond;simp only[RZ]at h;subst h;obtain⟨u,v,rfl,hu,hv⟩:=Cz ha;obtain⟨us,rfl,hul,hur⟩:=AL hu;obtain⟨ws,rfl,hwl,hwr⟩:=AL hv;obtain⟨u0,u1,u2,gs,rfl⟩:∃u0 u1 u2 gs,us=[u0,u1,u2,gs]:=by
  match us,hul with
  | [u0,u1,u2,gs],_=>exact⟨u0,u1,u2,gs,rfl⟩
 obtain⟨lk,rfl⟩:∃lk,ws=[lk]:=by
  match ws,hwl with
  | [lk],_=>exact⟨lk,rfl⟩
 have e0:=(CRel.inv_val (hur 0 _ u0 rfl rfl)).1;have e1:=(CRel.inv_val (hur 1 _ u1 rfl rfl)).1;have e2:=(CRel.inv_val (hur 2 _ u2 rfl rfl)).1;have hg:=hur 3 _ gs rfl rfl;have hlr:=hwr 0 _ lk rfl rfl;subst e0;subst e1;subst e2;have hcs:=rz hps;subst hcs;have hok2:=hok;simp only[okA,Bool.and_eq_true,decide_eq_true_eq]at hok2;obtain⟨⟨t1,t2,n1,n2,k1,k2,l1,l2⟩,-⟩:=hok2;obtain⟨n,rfl⟩:=Int.eq_ofNat_of_zero_le (by omega:0<=n)
 have hg0:=xA hg (MF hg);rw[show m=(ps.map mkP).length by rw[List.length_map];exact hm.symm]at hg0
 unfold wl at hlook;split at hlook
 ·simp only[RZ]at hlook;subst hlook;simp at hll;omega
 ·rename_i nl cl;split at hlook;case h_2=>cases hlook
  rename_i l hl;split at hlook;case isFalse=>cases hlook
  rename_i hnl;simp only[RZ]at hlook;subst hlook;obtain⟨hr1,hr2⟩:=tg hl;rcases zj hlr with⟨h1,_,x,rfl⟩ | ⟨lb,lo,cap,vs,rfl,hn,hlv,hFF,hcc,hrr⟩
  ·omega
  ·have hat:LookAt w lb lo ps.length cap l:=⟨hll,by omega,sr.fsz lb (lo+0) (hFF 0 (by omega)),fun j x hj=>by
    have hjl:=(List.getElem?_eq_some_iff.1 hj).1;have hjx:=(List.getElem?_eq_some_iff.1 hj).2;refine⟨by have:=List.all_eq_true.1 hbig x (List.mem_of_getElem? hj);simpa using this,?_⟩
    obtain⟨av,h1,h2⟩:=hr2 j x hj;have hvj:vs[j]?=some (vs[j]'(by omega)):=R4 (by omega)
    exact⟨_,hcc j _ hvj,GC sr.fsz h2 (hrr j av _ h1 hvj)⟩⟩
   have hcap:nl=ps.length:=by omega
   subst hcap;refine((callsIn_wide (n:=9)).1 (rH (Jk hC) w lb lo cap l ps t k n gs hat (by omega) (by omega) fun W hb left _=>GD hC rfl hok sr.fsz hg0 W hb left)).mono ?_
   rintro e w' ⟨hb,rfl⟩;obtain⟨e,s⟩:=grow sr (F':=F) hb (fun _ _ h=>h) (fun _ _ h=>.inl h);exact⟨_,rfl,φ,F,GF _,s,e,Chg.of_below hb _,fun b hb=>.inl ⟨hb,rfl⟩,fun _ _ h=>.inl h⟩
 ·cases hlook
theorem xB (hC:bI Tryz.prog (aj X0 A)):zR Tryz.prog 60 fw:=
 ⟨(m5 hC).1,fun φ F H w l r vs h sr ha=>(m5 hC).2 φ F H w (l.map nrA) r vs h sr (El ha)⟩
end Go.Proofs.YtkllbcjanneppaaGreat
