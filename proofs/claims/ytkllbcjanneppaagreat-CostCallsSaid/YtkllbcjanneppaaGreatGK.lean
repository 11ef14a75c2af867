import Derived.Test.YtkllbcjanneppaaGreatGF
import Derived.Test.YtkllbcjanneppaaGreatGH
import Derived.Test.YtkllbcjanneppaaGreatGB
set_option maxRecDepth 20000
set_option linter.all false
namespace Go.Proofs.YtkllbcjanneppaaGreat
open Go Go.Hm

structure KR (C:Orc)(g:Gm)(F:AV):Prop where
 first:∀K M (h:Heap) (r:List Int),K<=h.length->r.length<=8->(∀x∈r,0<=x/\x<g.t+g.n)->C K M 68 [gV g,F,.sl r.length (ints r)] h=some (rV (ofM g (setsM g) r),h)
 cat:∀K M (h:Heap) va vb a b,K<=h.length->RV va a->RV vb b->ROk g a->FOk g b->C K M 67 [I g.k,va,vb] h=some (rV (cat g.k.toNat a b),h)
 uni:∀K M (h:Heap) va vb a b,K<=h.length->RV va a->RV vb b->FOk g a->FOk g b->C K M 91 [va,vb] h=some (rV (uni a b),h)
theorem Mb {g:Gm}(hc:chkE g=0)(hl:g.ps.length<=1000000)(hr:∀p∈g.ps,p.r.length<=1000000){Fc:List AV}(hF:SC Fc (setsM g)):KR (aj X A) g (.sl Fc.length Fc):=by
 have ok:=br hc;have hso:=aJ ok;refine { first:=fun K M h r hK hr8 hrs=>?_,cat:=fun K M h va vb a b hK ha hb ra rb=>?_,uni:=fun K M h va vb a b hK ha hb ra rb=>?_ }
 ·have hb:r.any (du g)=false:=by
   rw[List.any_eq_false];intro s hs;have:=hrs s hs;simp only[du,Bool.or_eq_true,decide_eq_true_eq,not_or];omega
  have ho:OfOk g (setsM g) r:=⟨hc,by rw[hso.len];have:=ok.n1;omega,hb⟩
  have:=sJ (lk:=K) (lim:=M) (H:=h) hK g hl hr hF r (by omega) (by rw[hso.len];have:=ok.n2;omega) fun _=>⟨fun i=>?_,fun s hs=>?_⟩
  ·rw[if_pos ho]at this;exact this
  ·have h1:=eD ok hso (r:=r.take i) fun s hs=>(hrs s (List.mem_of_mem_take hs)).1;have h2:=h1.size ok;exact⟨by omega,fun x hx=>by have:=h1.len x hx;have:=ok.k2;omega⟩
  ·unfold nxt;split
   ·simp
   ·have h1:=hso.get (s-g.t).toNat;have h2:=h1.size ok;exact⟨by omega,fun x hx=>by have:=h1.len x hx;have:=ok.k2;omega⟩
 ·have h1:=ra.size ok;have h2:=rb.size ok;exact j3 hK g.k ha hb (by omega) (by omega) (fun x hx=>by have:=ra.len x hx;have:=ok.k2;omega) (mG ok rb)
 ·have h1:=ra.size ok;have h2:=rb.size ok;exact ow hK ha hb (by omega) (by omega)
structure T1 where
 k:Nat
 S:Ss
 cs:List AV
 more:Bool
structure J1 (g:Gm)(S0:Ss)(rest:List Pl)(R:Ss)(S:Ss)(cs:List AV)(more:Bool):Prop where
 ok:TOk g S
 sc:SC cs S
 rem:rest.foldl (stF g (setsM g)) S=R
 more:(more=false/\S=S0)\/(more=true/\szS S0<szS S)
def iS (H:Heap)(g:Gm)(nf:Nat)(Fc:List AV)(n:Nat)(more:Bool)(t:Env):Env:=(1,.box g.cells)::(3,.sl nf Fc)::(4,.hs H.length n 0 n 1)::(5,Bo more)::t
def qP (H:Heap)(g:Gm)(nf:Nat)(Fc:List AV)(n i:Nat)(p:Pr)(s:T1):Env:=iS H g nf Fc n s.more [(6,I i),(7,.box p.cells),(8,I s.k)]
def nN (H:Heap)(g:Gm)(nf:Nat)(Fc:List AV)(n:Nat)(more:Bool)(i j:Nat)(p:Pr)(t:Env):Env:=iS H g nf Fc n more ((6,I i)::(7,.box [I p.l,.sl p.r.length (ints p.r)])::(8,I j)::t)
theorem OE {C:Orc}{lk:Nat}{H:Heap}(hlk:lk<=H.length){g:Gm}{nf:Nat}{Fc:List AV}{p:Pr}(pok:POk g p){more:Bool}{n i j m:Nat}{cs:List AV}{Q:Ex->Kt}{E:Env}{sf:List Int}{ov:AV}{o:List (List UInt8)}(hjl:j<p.r.length)
  (hE:ab [1,3,4,5,6,7,8,9] E=nN H g nf Fc n more i j p [(9,I m)]) (hsf:p.r.drop (j+1)=sf) (hov:RV ov o)
  (kf:∀K M,K<=H.length+1->C K M 68 [gV g,.sl nf Fc,.sl sf.length (ints sf)] (H++[.cells cs])=some (ov,H++[.cells cs]))
  (hQ:∀E',ab [1,3,4,5,6,7,8,9,10] E'=nN H g nf Fc n more i j p [(9,I m),(10,ov)]->Q .nrm E' (H++[.cells cs])):
  WB ⟨C,lk,H.length,[1,7]⟩ (AC.regD [1,3,4,5,6,7,8,9] 0
   [{ dst:=some 55,grd:=none,op:=AOp.ldA (some 1) 4 (AO.tmp 1) },
    { dst:=some 56,grd:=none,op:=AOp.mv (AO.tmp 3) },
    { dst:=some 57,grd:=none,op:=AOp.fldA 1 (AO.tmp 7) },
    { dst:=some 58,grd:=none,op:=AOp.ld1 (some 7) (AO.tmp 57) },
    { dst:=some 59,grd:=none,op:=AOp.mv (AO.tmp 8) },
    { dst:=some 60,grd:=none,op:=AOp.bini BinOp.add (AO.tmp 59) (AO.con (AV.val (Value.int IntKind.i64 1))) },
    { dst:=some 61,grd:=none,op:=AOp.slC 1 (AO.tmp 58) (some (AO.tmp 60)) none },
    { dst:=some 62,grd:=none,op:=AOp.call 68 [AO.tmp 55,AO.tmp 56,AO.tmp 61],fl:=true },
    { dst:=some 10,grd:=none,op:=AOp.mv (AO.tmp 62) }]) Q E (H++[.cells cs]):=by
 have w2:IntKind.i64.wrap ((j:Int)+1)=(j:Int)+1:=by have:=pok.len;exact au (by omega) (by omega)
 have hjr:(j:Int)+1<=p.r.length:=by omega
 have hj0:(0:Int)<=(j:Int)+1:=by omega
 have hsl2:AV.sl (p.r.length-(j+1)) (List.take (p.r.length-(j+1)) (List.drop (j+1) (ints p.r)))= .sl sf.length (ints sf):=by
  rw[<-hsf,List.length_drop,List.take_of_length_le (by simp)];simp[ints,List.map_drop]
 have hcl:(g.cells).length=4:=rfl;have ht4:List.take 4 g.cells=g.cells:=rfl;have hbg:∀X,belowL X g.cells=true:=fun X=>by simp[Gm.cells,belowL,Hm.below]
 have hK1:lk<=H.length+1:=by omega
 rw[aB rfl,hE];unfold nN iS;unfold nN iS at hQ;rcases aC hov with rfl | rfl;all_goals
  simp[hcl,ht4,hbg,w2,bnd,hjr,hj0,hsl2,kf,hK1];exact hQ _ rfl
theorem OG {C:Orc}{lk:Nat}{H:Heap}(hlk:lk<=H.length){g:Gm}{nf:Nat}{Fc:List AV}{p:Pr}{more:Bool}{n i j m l:Nat}{cs:List AV}{Q:Ex->Kt}{E:Env}{ov vm vl cv uv:AV}{o Sm Sl c u:List (List UInt8)}(hl:p.l=(l:Int))
  (hE:ab [1,3,4,5,6,7,8,9,10] E=nN H g nf Fc n more i j p [(9,I m),(10,ov)]) (hov:RV ov o) (hcv:RV cv c) (huv:RV uv u) (hcn:cs.length=n) (hm:m<n) (hln:l<n)
  (hvm:cs[m]?=some vm) (hrm:RV vm Sm) (hvl:cs[l]?=some vl) (hrl:RV vl Sl)
  (kc:∀K M,K<=H.length+1->C K M 67 [I g.k,ov,vl] (H++[.cells cs])=some (cv,H++[.cells cs]))
  (ku:∀K M,K<=H.length+1->C K M 91 [vm,cv] (H++[.cells cs])=some (uv,H++[.cells cs]))
  (hQ:∀E',ab [1,3,4,5,6,7,8,9,11] E'=nN H g nf Fc n more i j p [(9,I m),(11,uv)]->Q .nrm E' (H++[.cells cs])):
  WB ⟨C,lk,H.length,[1,7]⟩ (AC.regD [1,3,4,5,6,7,8,9,10] 0
   [⟨some 63,none,.mv (.tmp 4),0,false⟩,⟨some 64,none,.mv (.tmp 9),0,false⟩,⟨some 65,none,.ixA 1 (.tmp 63) (.tmp 64),0,false⟩,⟨some 66,none,.ld1 none (.tmp 65),0,false⟩,⟨some 67,none,.fldA 2 (.tmp 1),0,false⟩,⟨some 68,none,.ld1 (some 1) (.tmp 67),0,false⟩,⟨some 69,none,.mv (.tmp 10),0,false⟩,⟨some 70,none,.mv (.tmp 4),0,false⟩,⟨some 71,none,.fldA 0 (.tmp 7),0,false⟩,⟨some 72,none,.ld1 (some 7) (.tmp 71),0,false⟩,⟨some 73,none,.ixA 1 (.tmp 70) (.tmp 72),0,false⟩,⟨some 74,none,.ld1 none (.tmp 73),0,false⟩,⟨some 75,none,.call 67 [(.tmp 68),(.tmp 69),(.tmp 74)],0,false⟩,⟨some 76,none,.call 91 [(.tmp 66),(.tmp 75)],0,true⟩,⟨some 11,none,.mv (.tmp 76),0,false⟩]) Q E (H++[.cells cs]):=by
 have hc2:∀h:2<g.cells.length,(g.cells)[2]=I g.k:=fun _=>rfl;have hcl:(g.cells).length=4:=rfl;have hvmE:∀h,cs[m]'h=vm:=fun h=>by rw[R4 h]at hvm;simpa using hvm
 have hvlE:∀h,cs[l]'h=vl:=fun h=>by rw[R4 h]at hvl;simpa using hvl
 have hK1:lk<=H.length+1:=by omega
 rw[aB rfl,hE];unfold nN iS;unfold nN iS at hQ;rw[hl]at hQ |-;rcases aC hov with rfl | rfl<;>rcases aC hrm with rfl | rfl<;>rcases aC hrl with rfl | rfl<;>rcases aC hcv with rfl | rfl<;>rcases aC huv with rfl | rfl;all_goals
  simp[hcl,hc2,hcn,hm,hln,hvm,hvmE,hvl,hvlE,kc,ku,hK1];exact hQ _ rfl
theorem OH {C:Orc}{lk:Nat}{H:Heap}(hlk:lk<=H.length){g:Gm}{nf:Nat}{Fc:List AV}{p:Pr}{more:Bool}{n i j m:Nat}{cs:List AV}{Q:Ex->Kt}{E:Env}{vm uv:AV}{Sm u:List (List UInt8)}
  (hE:ab [1,3,4,5,6,7,8,9,11] E=nN H g nf Fc n more i j p [(9,I m),(11,uv)]) (huv:RV uv u) (hcn:cs.length=n) (hm:m<n)
  (hvm:cs[m]?=some vm) (hrm:RV vm Sm)
  (hQ:∀E',ab [1,3,4,5,6,7,8] E'=nN H g nf Fc n (more||decide (Sm.length<u.length)) i j p []->Q .nrm E' (H++[.cells (cs.set m uv)])):
  WB ⟨C,lk,H.length,[1,7]⟩ (.seq (.regN [1,3,4,5,6,7,8,9,11] [⟨some 77,none,.mv (.tmp 5),0,false⟩,⟨some 78,none,.mv (.tmp 77),0,false⟩,⟨some 79,some (78,false),.mv (.tmp 11),0,false⟩,⟨some 80,some (78,false),.len false (.tmp 79),0,false⟩,⟨some 81,some (78,false),.mv (.tmp 4),0,false⟩,⟨some 82,some (78,false),.mv (.tmp 9),0,false⟩,⟨some 83,some (78,false),.ixA 1 (.tmp 81) (.tmp 82),0,false⟩,⟨some 84,some (78,false),.ld1 none (.tmp 83),0,false⟩,⟨some 85,some (78,false),.len false (.tmp 84),0,false⟩,⟨some 86,some (78,false),.bini .gtr (.tmp 80) (.tmp 85),0,false⟩,⟨some 87,none,.pick (.tmp 78) (.con (.val (.bool true))) (.tmp 86),0,false⟩,⟨some 5,none,.mv (.tmp 87),0,false⟩])
   (.regN [1,3,4,5,6,7,8,9,11] [⟨some 88,none,.mv (.tmp 4),0,false⟩,⟨some 89,none,.mv (.tmp 9),0,false⟩,⟨some 90,none,.mv (.tmp 11),0,false⟩,⟨some 91,none,.ixA 1 (.tmp 88) (.tmp 89),0,false⟩,⟨none,none,.st none 1 (.tmp 91) (.tmp 90),0,false⟩])) Q E (H++[.cells cs]):=by
 have hvmE:∀h,cs[m]'h=vm:=fun h=>by rw[R4 h]at hvm;simpa using hvm
 have hmc:m<cs.length:=by omega
 have hm1:m+1<=n:=hm;have hset:List.take m cs++uv::List.drop (m+1) cs=cs.set m uv:=by rw[List.set_eq_take_append_cons_drop,if_pos hmc]
 have hsh:aR lk H.length 0 (H++[.cells cs]) H.length (cs.set m uv) [uv]=some (H++[.cells (cs.set m uv)]):=by
  unfold aR;rw[if_pos ⟨hlk,.inl (Nat.le_refl _),.inl (Nat.zero_le _)⟩,ph]
 rw[ai,ae,hE];unfold nN iS;unfold nN iS at hQ;cases more with
 | true=>
  rcases aC huv with rfl | rfl;all_goals
   simp[-ae,-aE];rw[ae];simp[-aE,hm];rw[aE];simp[-aE,hcn,hm1,an,hset,hsh];exact hQ _ rfl
 | false=>
  rcases huv with rfl | ⟨rfl,rfl⟩<;>rcases hrm with rfl | ⟨rfl,rfl⟩;all_goals
   simp[-ae,-aE,hm,hcn,hvm,hvmE];rw[ae];simp[-aE,hm];rw[aE];simp[-aE,hcn,hm1,an,hset,hsh];refine hQ _ ?_;simp
set_option maxHeartbeats 2000000 in
theorem OI {C:Orc}{lk:Nat}{H:Heap}(hlk:lk<=H.length){g:Gm}(hg:GOk g){nf:Nat}{Fc:List AV}(k:KR C g (.sl nf Fc)){S0 R:Ss}{p:Pr}(hp:p∈g.ps){n i:Nat}(hn:g.n.toNat=n){Q:Ex->Kt}
  (hQ:∀s:T1,∀e,J1 g S0 [] R s.S s.cs s.more->ab [1,3,4,5,6] e=iS H g nf Fc n s.more [(6,I i)]->Q (.exit 4) e (H++[.cells s.cs])) (s:T1) (hs:s.k<=p.r.length/\J1 g S0 (fR g.t p.l.toNat (p.r.drop s.k)) R s.S s.cs s.more):
  WB ⟨C,lk,H.length,[1,7]⟩ Aa (Rnd [1,3,4,5,6,7,8] (qP H g nf Fc n i p) (fun s=>H++[.cells s.cs]) (fun s=>s.k<=p.r.length/\J1 g S0 (fR g.t p.l.toNat (p.r.drop s.k)) R s.S s.cs s.more) (fun s=>p.r.length-s.k) s Q) (qP H g nf Fc n i p s) (H++[.cells s.cs]):=by
 have hQ2:=hQ s;obtain⟨j,S,cs,more⟩:=s;obtain⟨hj,hJ⟩:=hs;simp only at hj hJ hQ2;have pok:=hg.p p hp;unfold Aa;by_cases hjl:j<p.r.length;case neg=>
  obtain rfl:j=p.r.length:=by omega
  rw[List.drop_length]at hJ;simp[-ak,-af,-ae,qP,iS,Pr.cells];rw[ae];simp[-ak,-af];rw[af rfl];simp;exact hQ2 _ hJ rfl
 have hjl2:(j:Int)<p.r.length:=by omega
 obtain⟨sy,hsy⟩:∃sy,p.r[j]=sy:=⟨_,rfl⟩;have hq2:p.r[j]?=some sy:=by rw[R4 hjl,hsy]
 have hsok:=pok.s sy (hsy▸List.getElem_mem hjl);have hd:=List.drop_eq_getElem_cons hjl;rw[hsy]at hd;have hc0:∀h:0<g.cells.length,(g.cells)[0]=I g.t:=fun _=>rfl;have hc2:∀h:2<g.cells.length,(g.cells)[2]=I g.k:=fun _=>rfl;have hcl:(g.cells).length=4:=rfl;have ht4:List.take 4 g.cells=g.cells:=rfl;have hwr:IntKind.i64.wrap (sy-g.t)=sy-g.t:=by have:=hg.t1;have:=hg.t2;have:=hg.n1;have:=hg.n2;exact au (by omega) (by omega)
 have w2:IntKind.i64.wrap ((j:Int)+1)=(j:Int)+1:=by have:=pok.len;exact au (by omega) (by omega)
 simp[-aE,-ae,-aB,-ak,-af,qP,iS,Pr.cells];rw[ae];simp[-aE,-ae,-aB,-ak,-af,hjl2];rw[ak rfl,aA,ah,ai,ap,ai,aB rfl];simp[-aE,-ae,-aB,-ak,-af,hjl,hq2,hsy,hc0,hcl,hwr];rw[ae];simp[-aE,-ae,-aB,-ak,-af];by_cases hst:sy-g.t<0
 ·rw[decide_eq_true hst,ak rfl];simp[w2];rw[ao];refine⟨⟨j+1,S,cs,more⟩,⟨hjl,hJ.ok,hJ.sc,?_,hJ.more⟩,by show p.r.length-(j+1)<p.r.length-j;omega,rfl,rfl⟩
  rw[<-hJ.rem,hd,fR,if_pos (by omega)]
 obtain⟨m,hm⟩:∃m:Nat,sy-g.t=(m:Int):=Int.eq_ofNat_of_zero_le (by omega)
 obtain⟨l,hlE⟩:∃l:Nat,p.l=(l:Int):=Int.eq_ofNat_of_zero_le pok.l0;have hlt:p.l.toNat=l:=by omega
 have hcn:cs.length=n:=by rw[hJ.sc.1,hJ.ok.len,hn]
 have hmn:m<n:=by omega
 have hln:l<n:=by have:=pok.l1;omega
 obtain⟨sf,hsf⟩:∃sf,p.r.drop (j+1)=sf:=⟨_,rfl⟩;have hsfs:∀x∈sf,0<=x/\x<g.t+g.n:=fun x hx=>pok.s x (by rw[<-hsf]at hx;exact List.mem_of_mem_drop hx)
 have hsf8:sf.length<=8:=by rw[<-hsf,List.length_drop];have:=pok.len;omega
 obtain⟨vm,hvm,hrm⟩:=hJ.sc.get (j:=m) (by rw[<-hJ.sc.1,hcn];exact hmn)
 obtain⟨vl,hvl,hrl⟩:=hJ.sc.get (j:=l) (by rw[<-hJ.sc.1,hcn];exact hln)
 have hofok:=eD hg (aJ hg) (r:=sf) fun x hx=>(hsfs x hx).1;have hov:=dE (ofM g (setsM g) sf);have hcv:=dE (cat g.k.toNat (ofM g (setsM g) sf) (S.getD l []));have huv:=dE (uni (S.getD m []) (cat g.k.toNat (ofM g (setsM g) sf) (S.getD l [])));have kf:=fun (K M:Nat) (hK:K<=H.length+1)=>k.first K M (H++[.cells cs]) sf (by simpa using hK) hsf8 hsfs
 have kc:=fun (K M:Nat) (hK:K<=H.length+1)=>k.cat K M (H++[.cells cs]) _ _ _ _ (by simpa using hK) hov hrl hofok (hJ.ok.get l)
 have ku:=fun (K M:Nat) (hK:K<=H.length+1)=>k.uni K M (H++[.cells cs]) _ _ _ _ (by simpa using hK) hrm hcv (hJ.ok.get m) (o6 hg hofok (hJ.ok.get l))
 have hplm:(⟨l,m,sf⟩:Pl)∈pls g:=by
  have:=wH hp hlt hjl (by rw[hsy];omega)
  rw[hsy,hsf,hm]at this;exact this
 have pk:=d7 hg _ hplm;have hnew:J1 g S0 (fR g.t p.l.toNat (p.r.drop (j+1))) R (stF g (setsM g) S ⟨l,m,sf⟩) (cs.set m (rV (uni (S.getD m []) (cat g.k.toNat (ofM g (setsM g) sf) (S.getD l []))))) (more||decide ((S.getD m []).length<(uni (S.getD m []) (cat g.k.toNat (ofM g (setsM g) sf) (S.getD l []))).length)):=by
  refine⟨qw hg (aJ hg) hJ.ok pk,nK hJ.sc huv,?_,?_⟩
  ·rw[<-hJ.rem,hd,fR,if_neg (by omega),List.foldl_cons,hm,hsf,hlt,Int.toNat_natCast]
  ·have hup:=ug (F:=setsM g) hJ.ok pk;dsimp only at hup;by_cases hgr:(S.getD m []).length<(uni (S.getD m []) (cat g.k.toNat (ofM g (setsM g) sf) (S.getD l []))).length
   ·have h3:szS S<szS (stF g (setsM g) S ⟨l,m,sf⟩):=by
     rcases hup.1 with e | e
     ·exact absurd (hup.2.1 e) (by omega)
     ·exact e
    refine .inr ⟨by simp only[decide_eq_true hgr,Bool.or_true],?_⟩
    rcases hJ.more with⟨_,e⟩ | ⟨_,e⟩
    ·rw[<-e];exact h3
    ·omega
   ·rw[hup.2.2 (by omega),decide_eq_false hgr,Bool.or_false]
    exact hJ.more
 rw[decide_eq_false hst,af rfl,aA,ah,ai];refine OE (more:=more) (n:=n) (i:=i) (m:=m) hlk pok hjl (by rw[hm];rfl) hsf hov kf ?_
 intro E1 hE1;rw[ah,ai];refine OG hlk hlE hE1 hov hcv huv hcn hmn hln hvm hrm hvl hrl kc ku ?_;intro E2 hE2;rw[ah];refine OH hlk hE2 huv hcn hmn hvm hrm ?_;intro E3 hE3;generalize cs.set m (rV (uni (S.getD m []) (cat g.k.toNat (ofM g (setsM g) sf) (S.getD l []))))=cs2 at *;generalize (more||decide ((S.getD m []).length<(uni (S.getD m []) (cat g.k.toNat (ofM g (setsM g) sf) (S.getD l []))).length))=more2 at *;generalize stF g (setsM g) S ⟨l,m,sf⟩=S2 at *;show WB _ _ _ _ _;rw[ae,hE3];simp[nN,iS,w2];rw[ao];exact⟨⟨j+1,S2,cs2,more2⟩,⟨hjl,hnew⟩,by show p.r.length-(j+1)<p.r.length-j;omega,rfl,rfl⟩

set_option maxHeartbeats 2000000 in
theorem yR {lk lim:Nat}{H:Heap}(hlk:lk<=H.length)(g:Gm)(hl:g.ps.length<=1000000)(hr:∀p∈g.ps,p.r.length<=1000000):
  ∃v h',aj X A lk lim 66 [gV g] H=some (v,h')/\h'=H/\if chkE g=0 then ∃cs,v= .sl cs.length cs/\SC cs (cM g) else v= .e0:=by
 have kc:=fun (M:Nat)=>bN (lk:=lk) (lim:=M) (H:=H) g hl hr;refine dD [1,7] rfl A66 rfl rfl ?_;unfold Nw;have hcl:(g.cells).length=4:=rfl;have ht4:List.take 4 g.cells=g.cells:=rfl;by_cases hc:chkE g=0;case neg=>
  generalize chkE g=e at kc hc |-;have h3:(e != 0)=true:=by simpa using hc
  generalize aj X A=C at kc |-;simp[-ak,-af,-ae];rw[ae];simp[-ak,-af,-ae,hcl];rw[ae];simp[-ak,-af,-ae,hcl,ht4,kc,h3];rw[ak rfl];simp[bt,hc];exact⟨.e0,H,⟨rfl,rfl⟩,rfl,rfl⟩
 have ok:=br hc;simp only[hc,if_true];rw[hc]at kc;have hn1:=ok.n1;have hn2:=ok.n2;have hl2:=ok.l2;obtain⟨n,hn⟩:∃n:Nat,g.n=(n:Int):=Int.eq_ofNat_of_zero_le (by omega)
 have hnn:g.n.toNat=n:=by omega
 obtain⟨v,h',kf,hh,hv⟩:=qO (lk:=lk) (lim:=H.length) (H:=H) hlk g hl hr;rw[hh]at kf;rw[if_pos hc]at hv;obtain⟨Fc,rfl,hF⟩:=hv;have kk:=Mb hc hl hr hF;have hc1:∀h:1<g.cells.length,(g.cells)[1]=I n:=fun _=>by rw[<-hn];rfl
 have hc3:∀h:3<g.cells.length,(g.cells)[3]= .sl g.ps.length (psC g.ps):=fun _=>rfl;have hro:n*24<=aM:=by unfold aM;omega
 generalize aj X A=C at kc kf kk |-;simp[-ak,-af,-ae];rw[ae];simp[-ak,-af,-ae,hcl];rw[ae];simp[-ak,-af,-ae,hcl,ht4,kc];rw[af rfl,aA,ah,ai,ae];simp[-ak,-af,-ae,-aE,hcl,ht4,kf];rw[ae];simp[-ak,-af,-ae,-aE,-fN,hcl,hc1];rw[fN,uB (l:=.tmp 18) (z:=[.e0]) (es:=1) (n:=n) rfl rfl hro];simp[-ak,-af,-ae,-aE];rw[ae];have hn0:0<n:=by omega
 have hS0:=nK (mA n) (j:=0) (v:=rowsV [[255]]) (l:=[[255]]) (.inl rfl);have hset:(repl n [AV.e0]).set 0 (rowsV [[255]])=an (repl n [AV.e0]) 0 [.sl 1 [Sg [255]]]:=by
  obtain⟨m,rfl⟩:∃m,n=m+1:=⟨n-1,by omega⟩
  have:repl (m+1) [AV.e0]= .e0::repl m [AV.e0]:=rfl;rw[this];simp[an];rfl
 have hst0:cE g=(List.replicate n []).set 0 [[255]]:=by unfold cE;rw[hn,Int.toNat_natCast]
 rw[hset,<-hst0]at hS0;have hrl:(repl n [AV.e0]).length=n:=by simp[repl]
 have hn1':1<=n:=hn0;have hb1:dF [.val (.int .u8 255)]=some [255]:=rfl;simp[-ak,-af,-ae,-aE,hn0,hb1];rw[aE];have hsg:AV.sl 1 [AV.val (.string ⟨#[255]⟩)]= .sl 1 [Sg [255]]:=rfl;simp[-ak,-af,-ae,-aE,aR,hlk,hsg,hrl,hn1'];generalize an (repl n [AV.e0]) 0 [.sl 1 [Sg [255]]]=cs at *;rw[ae];simp[-ak,-af,-ae,-aE];have hcl2:=oj ok (aJ ok);have hsz0:szS (cE g)<=n*585:=by have:=qx ok (TOk.start ok);rw[hnn]at this;exact this
 refine ax (σ:=Ss×List AV×Bool) (fun s=>[(1,.box g.cells),(3,.sl Fc.length Fc),(4,.hs H.length n 0 n 1),(5,Bo s.2.2)]) (fun s=>H++[.cells s.2.1])
  (fun s=>TOk g s.1/\SC s.2.1 s.1/\cH (qu g (setsM g)) (n*585-szS s.1+1) s.1=cM g/\(s.2.2=false->qu g (setsM g) s.1=s.1)) (fun s=>2*(n*585-szS s.1)+if s.2.2=true then 1 else 0) ?_ (cE g,cs,true)
  ⟨TOk.start ok,hS0,by
   have h1:=dL hcl2 (n*585+1) (cE g) (TOk.start ok) (by show g.n.toNat*585-_<_;rw[hnn];omega)
   unfold cM;rw[hnn,h1,hnn],by simp⟩ rfl rfl
 rintro⟨S,cs,more⟩ ⟨hS,hC,hcm,hm⟩;simp only at hS hC hcm hm;have hcn:cs.length=n:=by rw[hC.1,hS.len,hnn]
 unfold JQ;cases more with
 | false=>
  have h1:cM g=S:=by
   rw[<-hcm];unfold cH;rw[if_pos (hm rfl)]
  have hz:=iR H.length (H++[.cells cs]) 6 hC;have htk:cs.take n=cs:=List.take_of_length_le (by omega)
  simp[-ak,-af,-ae];rw[ae];simp[-ak,-af];rw[af rfl];simp[bt,hcn,htk,hz];exact⟨_,_,⟨rfl,rfl⟩,rfl,cs,by rw[hcn],by rw[h1];exact hC⟩
 | true=>
  simp[-ak,-af,-ae];rw[ae];simp[-ak,-af,-ae];rw[ak rfl,aA,ah,ap,ai,ae];simp[-ak,-af,-ae];rw[ae];simp[-ak,-af,-ae];have hR:(pls g).foldl (stF g (setsM g)) S=qu g (setsM g) S:=rfl;refine ax (σ:=Nat×Ss×List AV×Bool) (fun s=>iS H g Fc.length Fc n s.2.2.2 [(6,I s.1)]) (fun s=>H++[.cells s.2.2.1])
   (fun s=>s.1<=g.ps.length/\J1 g S ((g.ps.drop s.1).flatMap fun p=>fR g.t p.l.toNat p.r) (qu g (setsM g) S) s.2.1 s.2.2.1 s.2.2.2) (fun s=>g.ps.length-s.1) ?_ (0,S,cs,false)
   ⟨Nat.zero_le _,hS,hC,hR,.inl ⟨rfl,rfl⟩⟩ (by simp[iS,ab,find]) rfl
  rintro⟨i,S2,cs2,more⟩ ⟨hi,hJ⟩;simp only at hi hJ;unfold JP;by_cases hil:i<g.ps.length;case neg=>
   obtain rfl:i=g.ps.length:=by omega
   rw[List.drop_length,List.flatMap_nil]at hJ;have hfo:qu g (setsM g) S=S2:=hJ.rem.symm;have hle:=qx ok hJ.ok;rw[hnn]at hle;simp[-ak,-af,-ae,iS,hcl];rw[ae];simp[-ak,-af,hcl,hc3];rw[af rfl];simp[ao];rcases hJ.more with⟨e1,e2⟩ | ⟨e1,e2⟩
   ·rw[e2]at hfo;exact⟨S,cs2,.inl ⟨⟨hS,e2▸hJ.sc,hcm,hfo⟩,by omega,e1,rfl⟩⟩
   ·refine⟨S2,cs2,.inr ⟨⟨hJ.ok,hJ.sc,?_⟩,by omega,e1,rfl⟩⟩
    have hne:qu g (setsM g) S≠S:=fun e=>by rw[hfo]at e;rw[e]at e2;omega
    have h1:=dL hcl2 (n*585-szS S) S2 hJ.ok (by show g.n.toNat*585-szS S2<_;rw[hnn];omega)
    rw[<-hcm]
    conv=>rhs;unfold cH
    rw[if_neg hne,hfo];rw[hnn]at h1;exact h1.symm
  obtain⟨p,hp⟩:∃p,g.ps[i]=p:=⟨_,rfl⟩;have hpm:p∈g.ps:=hp▸List.getElem_mem hil;have hs:=cd hil;have hll:=aY g.ps;have h2:i*2+2<=2*g.ps.length:=by omega
  rw[hp]at hs;simp only[Pr.cells]at hs;have hil2:(i:Int)<g.ps.length:=by omega
  have w1:IntKind.i64.wrap ((i:Int)+1)=(i:Int)+1:=au (by omega) (by omega)
  rw[List.drop_eq_getElem_cons hil,hp,List.flatMap_cons]at hJ;have hrem:=hJ.rem;rw[List.foldl_append]at hrem;obtain⟨R1,hR1⟩:∃R1,(fR g.t p.l.toNat p.r).foldl (stF g (setsM g)) S2=R1:=⟨_,rfl⟩;rw[hR1]at hrem;have main:∀E,ab [1,3,4,5,6,7,8] E=qP H g Fc.length Fc n i p ⟨0,S2,cs2,more⟩->∀Q:Ex->Kt,(∀s:T1,∀e,J1 g S [] R1 s.S s.cs s.more->ab [1,3,4,5,6] e=iS H g Fc.length Fc n s.more [(6,I i)]->Q (.exit 4) e (H++[.cells s.cs]))->
    WB ⟨C,lk,H.length,[1,7]⟩ (.loop [1,3,4,5,6,7,8] Aa) Q E (H++[.cells cs2]):=by
   intro E hE Q hQ;refine ax (σ:=T1) (qP H g Fc.length Fc n i p) (fun s=>H++[.cells s.cs]) (fun s=>s.k<=p.r.length/\J1 g S (fR g.t p.l.toNat (p.r.drop s.k)) R1 s.S s.cs s.more) (fun s=>p.r.length-s.k) ?_ ⟨0,S2,cs2,more⟩ ?_ hE ?_
   ·intro s hs;exact OI (i:=i) (S0:=S) (R:=R1) (n:=n) (nf:=Fc.length) hlk ok kk hpm hnn hQ s hs
   ·exact⟨Nat.zero_le _,hJ.ok,hJ.sc,hR1,hJ.more⟩
   ·rfl

  simp[-ak,-af,-ae,-bd,iS,hcl];rw[ae];simp[-ak,-af,-ae,-bd,hcl,hc3,hil2];rw[ak rfl,aA,ah,ai,ap,ai,ae];simp[-ak,-af,-ae,-bd,hcl,hc3,hil,hs,hll,h2];rw[bd];simp[-ak,-af,-ae,an];rw[ae];simp[-ak,-af,-ae];refine main _ (by simp[qP,iS,Pr.cells]) _ ?_
  rintro⟨k3,S3,cs3,more3⟩ e hJ3 he;simp only at hJ3 he;rw[aG,if_pos rfl];show WB _ _ _ _ _;rw[ae,he];simp[iS,w1];rw[ao];have e3:S3=R1:=hJ3.rem;exact⟨(i+1,S3,cs3,more3),⟨hil,hJ3.ok,hJ3.sc,by show List.foldl _ S3 _=_;rw[e3];exact hrem,hJ3.more⟩,by show g.ps.length-(i+1)<g.ps.length-i;omega,rfl,rfl⟩

def cQ (g:Gm)(p:Pr):List (List UInt8):=cat g.k.toNat (ofM g (setsM g) p.r) ((cM g).getD p.l.toNat [])
def aK (g:Gm):Ss:=g.ps.map (cQ g)
theorem pp {g:Gm}(hg:GOk g){p:Pr}(hp:p∈g.ps):FOk g (cQ g p):=
 o6 hg (eD hg (aJ hg) fun s hs=>((hg.p p hp).s s hs).1) ((eV hg).get _)
theorem fA (g:Gm):(aK g).length=g.ps.length:=by simp[aK]
theorem jE {g:Gm}(hg:GOk g){l:List (List UInt8)}(h:l∈aK g):l.length<=1000000:=by
 obtain⟨p,hp,rfl⟩:=List.mem_map.1 h;exact Nat.le_trans ((pp hg hp).size hg) (by decide)
theorem Aj {cs:List AV}{S:Ss}(h:SC cs S){v:AV}{l:List (List UInt8)}(hv:RV v l):SC (cs++[v]) (S++[l]):=by
 refine⟨by simp[h.1],fun j u hu=>?_⟩
 by_cases hj:j<cs.length
 ·rw[List.getElem?_append_left hj]at hu;have:=h.2 j u hu
  rwa [R3,List.getElem?_append_left (by rw[<-h.1];exact hj),<-R3]
 ·rw[List.getElem?_append_right (by omega)]at hu
  have hj2:j-cs.length=0:=by
   rcases Nat.eq_zero_or_pos (j-cs.length) with h0 | h0
   ·exact h0
   ·rw[List.getElem?_eq_none (by simp;omega)]at hu;cases hu
  rw[hj2]at hu;simp only[List.getElem?_cons_zero,RZ]at hu;subst hu;rw[R3,List.getElem?_append_right (by rw[<-h.1];omega),<-h.1,hj2]
  exact hv
def tbV (H:Heap)(cs:List AV):AV:=if cs=[] then .e0 else .hs H.length cs.length 0 cs.length 1
def tbH (H:Heap)(cs:List AV):Heap:=if cs=[] then H else H++[.cells cs]
theorem Ak (H:Heap)(cs:List AV):H.length<=(tbH H cs).length:=by
 unfold tbH;split<;>simp
theorem yT {lk lim:Nat}{H:Heap}(hlk:lk<=H.length)(g:Gm)(hc:chkE g=0):
  ∃v h',aj X A lk lim 59 [gV g] H=some (v,h')/\h'=H/\∃cs,v= .agg [.sl cs.length cs]/\SC cs (aK g):=by
 have ok:=br hc;have hl:g.ps.length<=1000000:=Nat.le_trans ok.l2 (by decide)
 have hr:∀p∈g.ps,p.r.length<=1000000:=fun p hp=>Nat.le_trans (ok.p p hp).len (by decide)
 obtain⟨v1,g1,k1,e1,h1⟩:=sD (lim:=H.length) hlk g hl hr;rw[if_pos hc]at h1;obtain⟨Fc,rfl,hF⟩:=h1;rw[e1]at k1;obtain⟨v2,g2,k2,e2,h2⟩:=yH (lim:=H.length) hlk g hl hr;rw[if_pos hc]at h2;obtain⟨Gc,rfl,hG⟩:=h2;rw[e2]at k2;have ko:=fun (K L:Nat) (cs:List AV) (hK:K<=(tbH H cs).length) (p:Pr) (hp:p∈g.ps)=>
  sE (lk:=K) (lim:=L) (H:=tbH H cs) hK g hl hr hF p.r (hr p hp) (by rw[(aJ ok).len];have:=ok.n2;omega)
   fun _=>⟨(cP ok (aJ ok) (ok.p p hp)).2.1,(cP ok (aJ ok) (ok.p p hp)).2.2⟩
 have kc:=fun (L:Nat) (cs:List AV) (va vb:AV) (a b:List (List UInt8)) (ha:RV va a) (hb:RV vb b) h3 h4 h5 h6=>mw (lk:=lk) (lim:=L) (H:=tbH H cs) (Nat.le_trans hlk (Ak H cs)) g.k ha hb h3 h4 h5 h6;refine dD [1,2,6] rfl A59 rfl rfl ?_;unfold NW;have hll:∀{p:Pr},p∈g.ps->(cQ g p).length<=1000000:=fun hp=>jE ok (List.mem_map.2 ⟨_,hp,rfl⟩);have hoo:∀p∈g.ps,OfOk g (setsM g) p.r:=fun p hp=>⟨hc,by rw[(aJ ok).len];have:=ok.n1;omega,by
  rw[List.any_eq_false];intro s hs;have:=(ok.p p hp).s s hs;simp only[du,Bool.or_eq_true,decide_eq_true_eq,not_or];omega⟩
 have kcc:∀(L:Nat) (cs:List AV) (p:Pr) (hp:p∈g.ps) (vb:AV),RV vb ((cM g).getD p.l.toNat [])->aj X A lk L 85 [I g.k,ofV g (setsM g) p.r,vb] (tbH H cs)=some (catV g.k.toNat (ofM g (setsM g) p.r) ((cM g).getD p.l.toNat []),tbH H cs):=fun L cs p hp vb hv=>
  kc L cs _ _ _ _ (iQ ..) hv (by
   have:=(cP ok (aJ ok) (ok.p p hp)).2.1 p.r.length;rw[List.take_length]at this;exact this.1) (Nat.le_trans (((eV ok).get _).size ok) (by decide)) (by
   have:=(cP ok (aJ ok) (ok.p p hp)).2.1 p.r.length;rw[List.take_length]at this;exact this.2) (mG ok ((eV ok).get _))
 have hGl:Gc.length=g.n.toNat:=by rw[hG.1,(eV ok).len]
 have hGg:∀p∈g.ps,∃v,Gc[p.l.toNat]?=some v/\RV v ((cM g).getD p.l.toNat []):=fun p hp=>hG.get (by rw[(eV ok).len];have:=(ok.p p hp).l1;have:=(ok.p p hp).l0;omega)
 have hlk2:(aK g).length=g.ps.length:=fA g;have hlg:∀(i:Nat) (h:i<g.ps.length),(aK g)[i]?=some (cQ g g.ps[i]):=fun i h=>by simp[aK,h]
 have kof:∀(K L:Nat) (cs:List AV),K<=(tbH H cs).length->∀(p:Pr),p∈g.ps->aj X A K L 86 [gV g,.sl Fc.length Fc,.sl p.r.length (ints p.r)] (tbH H cs)=some (ofV g (setsM g) p.r,tbH H cs):=fun K L cs hK p hp=>by
  have:=ko K L cs hK p hp
  rwa [if_pos (hoo p hp)]at this
 have hcv:∀p,RV (catV g.k.toNat (ofM g (setsM g) p.r) ((cM g).getD p.l.toNat [])) (cQ g p):=fun p=>RV.cat _ _ _;generalize aK g=M at hlk2 hlg |-;generalize hlp:(fun p:Pr=>cQ g p)=LP at *;clear ko kc hoo hll hG;obtain⟨t,n,k,ps⟩:=g;obtain⟨t1,t2,n1,n2,k1',k2',l1,l2,okp⟩:=ok;simp only at t1 t2 n1 n2 k1' k2' l1 l2 okp hGl hGg hlk2 hlg;simp only[gV,Gm.cells]at k1 k2 kof kcc;generalize aj X A=C at k1 k2 kof kcc |-;simp[k1,k2,Gm.cells]
 let bx:AV:=.box [I t,I n,I k,.sl ps.length (psC ps)]
 refine ax (σ:=Nat×List AV) (fun s=>[(1,bx),(2,.box [tbV H s.2]),(3,.sl Fc.length Fc),(4,.sl Gc.length Gc),(12,.sl ps.length (psC ps)),(13,I ps.length),(14,I s.1)]) (fun s=>tbH H s.2)
  (fun s=>s.1<=ps.length/\SC s.2 (M.take s.1)) (fun s=>ps.length-s.1) ?_ (0,[]) ⟨Nat.zero_le _,rfl,fun j v h=>by simp at h⟩ (by simp[bx,tbV]) (by simp[tbH])
 rintro⟨i,cs⟩ ⟨hi,hcs⟩;simp only at hi hcs;have hcl:cs.length=i:=by rw[hcs.1];simp;omega
 unfold J3;have w1:IntKind.i64.wrap ((i:Int)+1)=(i:Int)+1:=au (by omega) (by omega)
 have hro1:24<=aM:=by unfold aM;omega
 have hro:(cs.length+1)*24<=aM:=by unfold aM;omega
 by_cases hil:i<ps.length;case neg=>
  obtain rfl:i=ps.length:=by omega
  rw[List.take_of_length_le (by omega)]at hcs
  have h0:¬cs=[]:=fun e=>by subst e;simp at hcl;omega
  have hfz:=fun d=>(iR H.length (H++[.cells cs]) d hcs).1;have hbl:=(iR H.length (H++[.cells cs]) 0 hcs).2;simp[bx,tbV,tbH,h0];simp[bt,hbl,hfz];exact⟨_,_,⟨rfl,rfl⟩,rfl,cs,rfl,hcs⟩
 have hs:=cd hil;have hll:=aY ps;have h2:i*2+2<=2*ps.length:=by omega
 have hpm:=List.getElem_mem hil;have hMi:=hlg i hil;obtain⟨v,hv1,hv2⟩:=hGg _ hpm;have hco:=fun K L hK=>kof K L cs hK _ hpm;have hcc:=fun L=>kcc L cs _ hpm v hv2;have hr2:=hcv ps[i];have ho2:=iQ ⟨t,n,k,ps⟩ (setsM ⟨t,n,k,ps⟩) ps[i].r;have hpl0:=(okp _ hpm).l0;generalize ofV ⟨t,n,k,ps⟩ (setsM ⟨t,n,k,ps⟩) ps[i].r=O at hco hcc ho2;generalize catV k.toNat (ofM ⟨t,n,k,ps⟩ (setsM ⟨t,n,k,ps⟩) ps[i].r) ((cM ⟨t,n,k,ps⟩).getD ps[i].l.toNat [])=R at hcc hr2;generalize ofM ⟨t,n,k,ps⟩ (setsM ⟨t,n,k,ps⟩) ps[i].r=oL at ho2;generalize (cM ⟨t,n,k,ps⟩).getD ps[i].l.toNat []=vL at hv2;generalize cQ ⟨t,n,k,ps⟩ ps[i]=rL at hr2 hMi;generalize ps[i]=p at hs hco hv1 hpl0 hpm;obtain⟨pl,pr⟩:=p;simp only[Pr.cells]at hs hv1 hpl0 hco;obtain⟨pl,rfl⟩:=Int.eq_ofNat_of_zero_le hpl0;simp only[Int.toNat_natCast]at hv1;have hpn:pl<Gc.length:=(List.getElem?_eq_some_iff.1 hv1).1;have done:∀(E:Env) (H':Heap),E=[(1,bx),(2,.box [tbV H (cs++[R])]),(3,.sl Fc.length Fc),(4,.sl Gc.length Gc),(12,.sl ps.length (psC ps)),(13,I ps.length),(14,I ((i:Int)+1))]->H'=tbH H (cs++[R])->
  ∃s:Nat×List AV,(s.1<=ps.length/\SC s.2 (M.take s.1))/\ps.length-s.1<ps.length-i/\E=[(1,bx),(2,.box [tbV H s.2]),(3,.sl Fc.length Fc),(4,.sl Gc.length Gc),(12,.sl ps.length (psC ps)),(13,I ps.length),(14,I s.1)]/\H'=tbH H s.2:=fun E H' h1 h2=>
   ⟨(i+1,cs++[R]),⟨by simp only;omega,by
    simp only;rw[List.take_add_one,hMi];exact Aj hcs hr2⟩,by simp only;omega,by rw[h1];simp,h2⟩
 have hR:=aC hr2;clear hMi hcs hr2 kof kcc hlg hGg;have hvE:∀h,Gc[pl]'h=v:=fun h=>(List.getElem?_eq_some_iff.1 hv1).2;by_cases h0:cs=[]
 ·subst h0;simp only[tbV,tbH,if_true]at hco hcc;rcases aC ho2 with rfl | rfl<;>rcases aC hv2 with rfl | rfl<;>rcases hR with rfl | rfl;all_goals
   simp[bx,hil,hs,hll,h2,an,hco,hvE,hpn,tbV,tbH,hcc,aN,hro1,dG,w1];rw[ao];refine done _ _ ?_ ?_
   ·simp[bx,tbV]
   ·simp[tbH]
 ·simp only[tbV,tbH,if_neg h0]at hco hcc;rcases aC ho2 with rfl | rfl<;>rcases aC hv2 with rfl | rfl<;>rcases hR with rfl | rfl;all_goals
   simp[bx,hil,hs,hll,h2,an,hco,hvE,hpn,tbV,tbH,h0,hcc,aN,hro,dG,cS,eh,aR,hlk,w1];rw[ao];refine done _ _ ?_ ?_
   ·simp[bx,tbV]
   ·simp[tbH]

def unP (p:Pr):Int×List Int:=(p.l,p.r)
def confM (g:Gm):Option (Nat×Nat×Nat×List UInt8):=en (g.ps.map unP) (aK g) g.n.toNat 0
theorem IT {v:AV}{l:List (List UInt8)}(h:RV v l):Ej v=some l:=by
 rcases h with rfl | ⟨rfl,rfl⟩
 ·simp[Ej,qI]
 ·rfl
theorem wL:∀{cs:List AV} {S:Ss},SC cs S->qD cs=some S
 | [],S,h=>by rw[List.eq_nil_of_length_eq_zero (l:=S) h.1.symm];rfl
 | v::cs,[],h=>by have:=h.1;simp at this
 | v::cs,l::S,h=>by
  have h0:RV v l:=h.2 0 v rfl;have hs:SC cs S:=⟨by have:=h.1;simpa using this,fun j u hu=>h.2 (j+1) u (by simpa using hu)⟩
  simp only[qD,IT h0,wL hs]
theorem FH (r:List Int):kY (ints r)=some r:=qC r
theorem sK:∀ps:List Pr,gQ (psC ps)=some (ps.map unP)
 | []=>rfl
 | p::ps=>by
  show gQ (I p.l:: .sl p.r.length (ints p.r)::psC ps)=_;simp only[gQ,FH,sK ps,if_true];rfl
theorem Mc {g:Gm}(hg:GOk g):okA g.t g.n g.k (g.ps.map unP)=true:=by
 simp only[okA,Bool.and_eq_true,decide_eq_true_eq,List.all_eq_true,List.length_map,List.mem_map];refine⟨⟨hg.t1,hg.t2,hg.n1,hg.n2,hg.k1,hg.k2,hg.l1,hg.l2⟩,?_⟩;rintro q ⟨p,hp,rfl⟩;have h:=hg.p p hp;exact⟨⟨⟨h.l0,h.l1⟩,h.len⟩,h.s⟩
theorem FI:∀ps:List Pr,(psC ps).map nr0=psC ps
 | []=>rfl
 | p::ps=>by
  show I p.l:: .sl p.r.length (ints p.r)::(psC ps).map nr0=I p.l:: .sl p.r.length (ints p.r)::psC ps;rw[FI ps]
theorem Md (g:Gm):nrA (gV g)=gV g:=by
 show AV.agg [I g.t,I g.n,I g.k,.sl g.ps.length ((psC g.ps).map nr0)]=_;rw[FI];rfl
theorem IU {lk lim:Nat}{H:Heap}{g:Gm}(hc:chkE g=0){cs:List AV}(hs:SC cs (aK g)):aj X A lk lim 60 [gV g,.agg [.sl cs.length cs]] H=some (oP (confM g),H):=by
 have ok:=br hc;have h:fw [gV g,.agg [.sl cs.length cs]] H=some (oP (confM g)):=by
  show iL [nrA (gV g),nrA (.agg [.sl cs.length cs])] H=_;rw[Md];have hl:wl (.sl cs.length cs)=some (aK g):=by
   simp only[wl,wL hs];rw[if_pos hs.1.symm]
  show (match gQ (psC g.ps),wl (.sl cs.length cs) with
   | some ps,some look=>if ps.length=g.ps.length/\look.length=ps.length/\okA g.t g.n g.k ps=true/\look.all (fun l=>decide (l.length<=1000000))=true then some (oP (en ps look g.n.toNat 0)) else none
   | _,_=>none)=_
  rw[sK,hl];simp only;rw[if_pos ⟨by simp,by rw[fA];simp,Mc ok,List.all_eq_true.2 fun l h=>decide_eq_true (jE ok h)⟩]
  rfl
 exact eB (yh h)
def cfV:Option (Nat×Nat×Nat×List UInt8)->AV
 | none=>.agg [I 0,I 0,I 0,Sg []]
 | some (l,a,b,x)=>.agg [I l,I a,I b,Sg x]
def cy (g:Gm)(v:AV):Prop:=
 if chkE g=0 then (match confM g with
  | some c=>v= .tup [.agg [.e0],cfV (some c),I 9]
  | none=>∃cs,v= .tup [.agg [.sl cs.length cs],cfV none,I 0]/\SC cs (aK g))
 else v= .tup [.agg [.e0],cfV none,I (chkE g)]
theorem yU {lk lim:Nat}{H:Heap}(hlk:lk<=H.length)(g:Gm)(hl:g.ps.length<=1000000)(hr:∀p∈g.ps,p.r.length<=1000000):
  ∃v h',aj X A lk lim 43 [gV g] H=some (v,h')/\h'=H/\cy g v:=by
 have kc:=fun (L:Nat)=>ck (lk:=lk) (lim:=L) (H:=H) g hl hr;refine dD [1,2,3,6] rfl A43 rfl rfl ?_;unfold NV;by_cases hc:chkE g=0;case neg=>
  have fin:cy g (.tup [.agg [.e0],cfV none,I (chkE g)]):=by unfold cy;rw[if_neg hc]
  generalize cy g=Q at fin |-;generalize chkE g=e at kc hc fin;have hc2:(e != 0)=true:=by simpa using hc
  obtain⟨t,n,k,ps⟩:=g;simp only[gV,Gm.cells]at kc;generalize aj X A=C at kc |-;simp[Gm.cells,kc,hc2,hc,bt,an];exact⟨_,_,⟨rfl,rfl⟩,rfl,fin⟩
 rw[hc]at kc;obtain⟨v,h',kt,e1,cs,rfl,hs⟩:=yT (lim:=H.length) hlk g hc;rw[e1]at kt;have kf:=IU (lk:=lk) (lim:=H.length) (H:=H) hc hs;have fin:match confM g with
  | some c=>cy g (.tup [.agg [.e0],cfV (some c),I 9])
  | none=>cy g (.tup [.agg [.sl cs.length cs],cfV none,I 0]):=by
  cases hm:confM g with
  | none=>simp only;unfold cy;rw[if_pos hc,hm];exact⟨cs,rfl,hs⟩
  | some c=>simp only;unfold cy;rw[if_pos hc,hm]
 generalize cy g=Q at fin |-;generalize confM g=r at kf fin;obtain⟨t,n,k,ps⟩:=g;simp only[gV,Gm.cells]at kc kt kf;generalize aj X A=C at kc kt kf |-;cases r with
 | none=>
  simp only[oP]at kf fin;simp[Gm.cells,kc,kt,kf,bt,an];exact⟨_,_,⟨rfl,rfl⟩,rfl,fin⟩
 | some c=>
  obtain⟨l,a,b,x⟩:=c;simp only[oP]at kf fin;simp[Gm.cells,kc,kt,kf,bt,an];exact⟨_,_,⟨rfl,rfl⟩,rfl,fin⟩

def fX (g:Gm):Int:=if chkE g=0 then (match confM g with
 | some _=>9
 | none=>0) else chkE g
def jF (g:Gm):Option (Nat×Nat×Nat×List UInt8):=if chkE g=0 then confM g else none
def TV (tv:AV)(S:Ss):Prop:=(tv= .e0/\S=[])\/∃cs,tv= .sl cs.length cs/\SC cs S
def eW (g:Gm):Ss:=if fX g=0 then aK g else []
theorem oz {lk lim:Nat}{H:Heap}(hlk:lk<=H.length)(g:Gm)(hl:g.ps.length<=1000000)(hr:∀p∈g.ps,p.r.length<=1000000):
  ∃tv,aj X A lk lim 43 [gV g] H=some (.tup [.agg [tv],cfV (jF g),I (fX g)],H)/\TV tv (eW g):=by
 obtain⟨v,h',h,rfl,hb⟩:=yU (lim:=lim) hlk g hl hr;rw[h];unfold cy at hb;unfold eW fX jF;by_cases hc:chkE g=0
 ·rw[if_pos hc]at hb |-;rw[if_pos hc];cases hm:confM g with
  | none=>
   rw[hm]at hb;obtain⟨cs,rfl,hs⟩:=hb;exact⟨_,rfl,.inr ⟨cs,rfl,hs⟩⟩
  | some c=>
   rw[hm]at hb;simp only at hb;subst hb;exact⟨_,rfl,.inl ⟨rfl,rfl⟩⟩
 ·rw[if_neg hc]at hb |-;subst hb;rw[if_neg hc,if_neg hc];exact⟨_,rfl,.inl ⟨rfl,rfl⟩⟩
theorem RX (c:Option (Nat×Nat×Nat×List UInt8)):∃(l a b:Nat) (x:List UInt8),cfV c= .agg [I l,I a,I b,Sg x]:=by
 cases c with
 | none=>exact⟨0,0,0,[],rfl⟩
 | some c=>obtain⟨l,a,b,x⟩:=c;exact⟨l,a,b,x,rfl⟩

def kK (S:Ss)(row:List UInt8):List Nat->Int
 | []=>-1
 | i::r=>if ct (S.getD i []) row=true then i else kK S row r
def qQ (g:Gm)(S:Ss)(left:Int)(row:List UInt8):Int:=
 if S.length≠g.ps.length then -1 else if chkE g≠0 then -1 else kK S row (ofN g.ps left g.ps.length)
theorem Me {ps:List Pr}{left:Int}{i:Nat}(h:i∈ofN ps left ps.length):i<ps.length:=(d9.1 h).1
theorem TV.len {tv:AV}{S:Ss}(h:TV tv S):tv= .e0/\S.length=0\/∃cs,tv= .sl cs.length cs/\cs.length=S.length:=by
 rcases h with⟨rfl,rfl⟩ | ⟨cs,rfl,hs⟩
 ·exact .inl ⟨rfl,rfl⟩
 ·exact .inr ⟨cs,rfl,hs.1⟩
theorem uF {lk lim:Nat}{H:Heap}(hlk:lk<=H.length)(g:Gm)(hl:g.ps.length<=1000000)(hr:∀p∈g.ps,p.r.length<=1000000){tv:AV}{S:Ss}(hT:TV tv S)(hS:∀l∈S,l.length<=1000000000)(left:Int)(row:List UInt8):
  aj X A lk lim 63 [gV g,.agg [tv],I left,Sg row] H=some (I (qQ g S left row),H):=by
 have ko:=fun (L:Nat)=>mC (lk:=lk) (lim:=L) (H:=H) g left hl hr hlk;have kh:=fun (L:Nat) (v:AV) (l:List (List UInt8)) (hv:RV v l) (h:l.length<=1000000000)=>Ff (lk:=lk) (lim:=L) (H:=H) hv row h;refine ar [4,5] rfl A63 rfl rfl ?_;unfold Oc qQ;unfold nL at ko;have hlt:∀j∈ofN g.ps left g.ps.length,j<g.ps.length:=fun j hj=>Me hj;have hol:(ofN g.ps left g.ps.length).length<=1000000:=Nat.le_trans (j1 ..) hl;generalize ofN g.ps left g.ps.length=o at ko hlt hol |-;obtain⟨q,hq,hqlt,hql,hqv⟩:∃q:List Nat,(if chkE g=0 then slvN o else .e0)=slvN q/\(∀j∈q,j<g.ps.length)/\q.length<=1000000/\(if chkE g≠0 then -1 else kK S row o)=kK S row q:=by
  by_cases hc:chkE g=0
  ·exact⟨o,by rw[if_pos hc],hlt,hol,by rw[if_neg (by omega)]⟩
  ·exact⟨[],by rw[if_neg hc];rfl,by simp,by simp,by rw[if_pos hc];rfl⟩
 rw[hq]at ko;rw[hqv];clear hq hqv hlt hol;obtain⟨t,n,k,ps⟩:=g;simp only[gV,Gm.cells]at ko hqlt |-;by_cases hn:S.length=ps.length;case neg=>
  rw[if_pos hn];generalize aj X A=C;rcases hT.len with⟨rfl,h0⟩ | ⟨cs,rfl,h0⟩
  ·have h1:¬0=ps.length:=by rw[h0]at hn;exact hn
   have h2:(((0:Nat):Int) != (ps.length:Int))=true:=by rw[bne_iff_ne];omega
   have h3:((0:Int) != (ps.length:Int))=true:=by rw[bne_iff_ne];omega
   have h4:¬(0:Int)=ps.length:=by omega
   have h5:¬ps=[]:=fun e=>by subst e;exact h1 rfl
   simp[h2,h3,h4,h5]
  ·have h1:¬(cs.length:Int)=ps.length:=by omega
   have h2:((cs.length:Int) != (ps.length:Int))=true:=by rw[bne_iff_ne];exact h1
   simp[h2,h1]
 rw[show (if S.length≠ps.length then (-1:Int) else kK S row q)=kK S row q from if_neg (fun h=>h hn)];generalize aj X A=C at ko kh |-;obtain⟨R,hR⟩:∃R,kK S row q=R:=⟨_,rfl⟩;rw[hR];have main:∀L E,ab [3,5,20,21,22] E=[(3,Sg row),(5,.box [tv]),(20,slvN q),(21,I q.length),(22,I 0)]->WB ⟨C,lk,L,[4,5]⟩ (.block 0 (.loop [3,5,20,21,22] EK)) (Fol ⟨C,lk,L,[4,5]⟩ (.seq (.regN [] [⟨some 8,none,.mv (.con (.val (.int .i64 (-1)))),0,false⟩]) .ret) (oO [.tmp 8] true H (I R,H))) E H:=by
  intro L E hE;rw[ap];refine ax (σ:=Nat) (fun i=>[(3,Sg row),(5,.box [tv]),(20,slvN q),(21,I q.length),(22,I i)]) (fun _=>H) (fun i=>i<=q.length/\kK S row (q.drop i)=R) (fun i=>q.length-i) ?_ 0 ⟨Nat.zero_le _,hR⟩ hE rfl;rintro i ⟨hi,hinv⟩;unfold EK;have w1:IntKind.i64.wrap ((i:Int)+1)=(i:Int)+1:=au (by omega) (by omega)
  by_cases hil:i<q.length;case neg=>
   obtain rfl:i=q.length:=by omega
   rw[List.drop_length]at hinv;simp only[kK]at hinv;subst hinv;by_cases hq0:q=[]
   ·simp[slvN,hq0]
   ·simp[slvN,hq0]
  have hq0:¬q=[]:=fun e=>by subst e;simp at hil
  have hsl:slvN q= .sl q.length (nts q):=by unfold slvN;rw[if_neg hq0]
  rw[List.drop_eq_getElem_cons hil]at hinv;have hjl:=hqlt _ (List.getElem_mem hil);generalize hj:q[i]=j at hinv hjl;simp only[kK]at hinv;rcases hT with⟨rfl,rfl⟩ | ⟨cs,rfl,hs⟩
  ·simp at hn;omega
  obtain⟨v,hv1,hv2⟩:=hs.get (j:=j) (by omega)
  have kv:=fun L=>kh L v _ hv2 (hS _ (by rw[R3,R4 (by omega)];exact List.getElem_mem _))
  have hcl:j<cs.length:=by rw[hs.1];omega
  have hvE:∀h,cs[j]'h=v:=fun h=>(List.getElem?_eq_some_iff.1 hv1).2;rw[hsl];generalize S.getD j []=vl at hv2 kv hinv;cases hh:ct vl row with
  | true=>
   rw[hh]at kv;rw[if_pos hh]at hinv;rcases aC hv2 with rfl | rfl;all_goals
    simp[hil,hj,hvE,hcl,kv,<-hinv]
  | false=>
   rw[hh]at kv;rw[if_neg (by rw[hh];simp)]at hinv
   rcases aC hv2 with rfl | rfl;all_goals
    simp[hil,hj,hvE,hcl,kv,w1,ao];exact⟨i+1,⟨by omega,hinv⟩,by omega,by simp⟩
 rcases hT.len with⟨rfl,h0⟩ | ⟨cs,rfl,h0⟩
 ·have h5:ps=[]:=List.eq_nil_of_length_eq_zero (by omega)
  subst h5;have h6:q=[]:=by
   cases q with
   | nil=>rfl
   | cons j q=>have:=hqlt j (by simp);simp at this
  subst h6;have h7:slvN []= .e0:=rfl;rw[h7]at ko main;simp only[List.length_nil]at ko main;simp[-ap,ko];refine main _ _ ?_;simp
 ·have h1:cs.length=ps.length:=by omega
  have hh:∀L E,ab [3,5,20,21,22] E=[(3,Sg row),(5,.box [.sl ps.length cs]),(20,slvN q),(21,I q.length),(22,I 0)]->_:=fun L E hE=>main L E (by rw[h1];exact hE)
  clear main;by_cases hq0:q=[]
  ·have h7:slvN q= .e0:=if_pos hq0;have h8:q.length=0:=by rw[hq0];rfl
   rw[h7]at ko hh;rw[h8]at hh;simp[-ap,h1,ko];refine hh _ _ ?_;simp
  ·have h7:slvN q= .sl q.length (nts q):=if_neg hq0;rw[h7]at ko hh;simp[-ap,h1,ko];refine hh _ _ ?_;simp

theorem lA:∀(k:Nat) (a b:List (List UInt8)) (x:List UInt8),e9 k a b=some x->x∈a/\x∈b
 | 0,a,b,x,h=>by simp[e9]at h
 | k+1,[],b,x,h=>by simp[e9]at h
 | k+1,y::a,[],x,h=>by simp[e9]at h
 | k+1,y::a,z::b,x,h=>by
  unfold e9 at h;split at h
  ·rename_i e;simp only[RZ]at h;subst h;subst e;exact⟨List.mem_cons_self ..,List.mem_cons_self ..⟩
  ·split at h
   ·have:=lA k _ _ x h;exact⟨List.mem_cons_of_mem _ this.1,this.2⟩
   ·have:=lA k _ _ x h;exact⟨this.1,List.mem_cons_of_mem _ this.2⟩
theorem lB:∀(k:Nat) (a b:List (List UInt8)),Up a->Up b->a.length+b.length<=k->e9 k a b=none->∀x∈a,x∉b
 | 0,a,b,_,_,hk,_=>fun x hx=>by
  have:a=[]:=List.eq_nil_of_length_eq_zero (by omega)
  subst this;simp at hx
 | k+1,[],b,_,_,_,_=>fun x hx=>by simp at hx
 | k+1,y::a,[],_,_,_,_=>fun x _ hx=>by simp at hx
 | k+1,y::a,z::b,ha,hb,hk,h=>by
  have ha2:=List.pairwise_cons.1 ha;have hb2:=List.pairwise_cons.1 hb;unfold e9 at h;split at h
  ·cases h
  ·rename_i hne;split at h
   ·rename_i hl;have ih:=lB k _ _ ha2.2 hb (by simp at hk |-;omega) h
    intro x hx hxb;rcases List.mem_cons.1 hx with rfl | hx
    ·rcases List.mem_cons.1 hxb with rfl | hxb
     ·exact hne rfl
     ·have h2:=fq hl;rw[hb2.1 x hxb]at h2;cases h2
    ·exact ih x hx hxb
   ·rename_i hl;have hzl:Op.bytesLess z y=true:=by
     rcases fQ y z with h1 | h1 | h1
     ·exact absurd h1 hl
     ·exact absurd h1 hne
     ·exact h1
    have ih:=lB k _ _ ha hb2.2 (by simp at hk |-;omega) h
    intro x hx hxb;rcases List.mem_cons.1 hxb with rfl | hxb
    ·rcases List.mem_cons.1 hx with rfl | hx
     ·exact hne rfl
     ·have h2:=fq hzl;rw[ha2.1 x hx]at h2;cases h2
    ·exact ih x hx hxb
theorem yV {a b:List (List UInt8)}{x:List UInt8}(h:bK a b=some x):x∈a/\x∈b:=lA _ _ _ _ h
theorem yW {a b:List (List UInt8)}(ha:Up a)(hb:Up b)(h:bK a b=none):∀x∈a,x∉b:=lB _ _ _ ha hb (Nat.le_refl _) h
theorem qR {look:Ss}{a:Nat}:∀{l:List Nat} {b:Nat} {x:List UInt8},eP look a l=some (b,x)->b∈l/\bK (look.getD a []) (look.getD b [])=some x
 | [],b,x,h=>by simp[eP]at h
 | c::l,b,x,h=>by
  unfold eP at h;split at h
  ·rename_i y hy;simp only[RZ,R0]at h;obtain⟨rfl,rfl⟩:=h;exact⟨List.mem_cons_self ..,hy⟩
  ·have:=qR h;exact⟨List.mem_cons_of_mem _ this.1,this.2⟩
theorem qS {look:Ss}{a:Nat}:∀{l:List Nat},eP look a l=none->∀b∈l,bK (look.getD a []) (look.getD b [])=none
 | [],h,b,hb=>by simp at hb
 | c::l,h,b,hb=>by
  unfold eP at h;split at h
  ·cases h
  ·rename_i hy;rcases List.mem_cons.1 hb with rfl | hb
   ·exact hy
   ·exact qS h b hb
theorem oA {look:Ss}:∀{l:List Nat} {a b:Nat} {x:List UInt8},l.Pairwise (· < ·)->bM look l=some (a,b,x)->a∈l/\b∈l/\a<b/\bK (look.getD a []) (look.getD b [])=some x
 | [],a,b,x,_,h=>by simp[bM]at h
 | c::l,a,b,x,hp,h=>by
  have hp2:=List.pairwise_cons.1 hp;unfold bM at h;split at h
  ·rename_i b' x' hy;simp only[RZ,R0]at h;obtain⟨rfl,rfl,rfl⟩:=h;have:=qR hy;exact⟨List.mem_cons_self ..,List.mem_cons_of_mem _ this.1,hp2.1 _ this.1,this.2⟩
  ·have:=oA hp2.2 h;exact⟨List.mem_cons_of_mem _ this.1,List.mem_cons_of_mem _ this.2.1,this.2.2⟩
theorem oB {look:Ss}:∀{l:List Nat},bM look l=none->l.Pairwise fun a b=>bK (look.getD a []) (look.getD b [])=none
 | [],_=>List.Pairwise.nil
 | c::l,h=>by
  unfold bM at h;split at h
  ·cases h
  ·rename_i hy;exact List.pairwise_cons.2 ⟨qS hy,oB h⟩
theorem qT {ps:List (Int×List Int)}{look:Ss}:∀{k left:Nat} {l a b:Nat} {x:List UInt8},en ps look k left=some (l,a,b,x)->left<=l/\l<left+k/\bM look (cg ps l)=some (a,b,x)
 | 0,left,l,a,b,x,h=>by simp[en]at h
 | k+1,left,l,a,b,x,h=>by
  unfold en at h;split at h
  ·rename_i a' b' x' hy;simp only[RZ,R0]at h;obtain⟨rfl,rfl,rfl,rfl⟩:=h;exact⟨Nat.le_refl _,by omega,hy⟩
  ·have:=qT h;exact⟨by omega,by omega,this.2.2⟩
theorem qU {ps:List (Int×List Int)}{look:Ss}:∀{k left:Nat},en ps look k left=none->∀l,left<=l->l<left+k->bM look (cg ps l)=none
 | 0,left,h,l,h1,h2=>by omega
 | k+1,left,h,l,h1,h2=>by
  unfold en at h;split at h
  ·cases h
  ·rename_i hy;by_cases he:l=left
   ·subst he;exact hy
   ·exact qU h l (by omega) (by omega)
theorem mK (ps:List (Int×List Int))(left:Nat):(cg ps left).Pairwise (· < ·):=by
 unfold cg;exact List.Pairwise.filter _ List.pairwise_lt_range

theorem IW (ps:List Pr)(i:Nat):((ps.map unP).getD i (0,[])).1=(ps.getD i ⟨0,[]⟩).l:=by
 rw[R3,R3,List.getElem?_map];cases ps[i]?<;>rfl
theorem mL (ps:List Pr)(left:Nat):cg (ps.map unP) left=ofN ps left ps.length:=by
 unfold cg ofN;rw[List.length_map];congr 1;funext i;rw[IW]
theorem fY (g:Gm){i:Nat}(h:i<g.ps.length):(aK g).getD i []=cQ g g.ps[i]:=by
 rw[R3];simp[aK,h]
theorem B6 {g:Gm}(hg:GOk g){l a b:Nat}{x:List UInt8}(h:confM g=some (l,a,b,x)):
  a<b/\∃(ha:a<g.ps.length) (hb:b<g.ps.length),g.ps[a].l=l/\g.ps[b].l=l/\x∈cQ g g.ps[a]/\x∈cQ g g.ps[b]:=by
 obtain⟨_,_,h3⟩:=qT h;obtain⟨h4,h5,h6,h7⟩:=oA (mK _ _) h3;rw[mL]at h4 h5;obtain⟨ha,hla⟩:=d9.1 h4;obtain⟨hb,hlb⟩:=d9.1 h5;obtain⟨m1,m2⟩:=yV h7;rw[fY g ha]at m1;rw[fY g hb]at m2;exact⟨h6,ha,hb,hla,hlb,m1,m2⟩
theorem j4 {g:Gm}(hg:GOk g):confM g=none↔∀(a b:Nat) (ha:a<g.ps.length) (hb:b<g.ps.length),a<b->g.ps[a].l=g.ps[b].l->∀x∈cQ g g.ps[a],x∉cQ g g.ps[b]:=by
 constructor
 ·intro h a b ha hb hab hl x hx;have hp:=hg.p _ (List.getElem_mem ha);have h1:=oB (qU h g.ps[a].l.toNat (Nat.zero_le _) (by have:=hp.l0;have:=hp.l1;omega))
  rw[mL]at h1;have hto:((g.ps[a].l.toNat:Nat):Int)=g.ps[a].l:=Int.toNat_of_nonneg hp.l0;rw[hto]at h1;have m1:a∈ofN g.ps g.ps[a].l g.ps.length:=d9.2 ⟨ha,rfl⟩;have m2:b∈ofN g.ps g.ps[a].l g.ps.length:=d9.2 ⟨hb,hl.symm⟩;have hs:(ofN g.ps g.ps[a].l g.ps.length).Pairwise (· < ·):=by
   have:=mK (g.ps.map unP) g.ps[a].l.toNat
   rwa [mL,hto]at this
  have key:∀(l:List Nat),l.Pairwise (· < ·)->l.Pairwise (fun a b=>bK ((aK g).getD a []) ((aK g).getD b [])=none)->a∈l->b∈l->bK ((aK g).getD a []) ((aK g).getD b [])=none:=by
   intro l;induction l with
   | nil=>intro _ _ h;simp at h
   | cons c l ih=>
    intro h1 h2 h3 h4;have h1:=List.pairwise_cons.1 h1;have h2:=List.pairwise_cons.1 h2;rcases List.mem_cons.1 h3 with e3 | e3
    ·rcases List.mem_cons.1 h4 with e4 | e4
     ·omega
     ·rw[e3];exact h2.1 _ e4
    ·rcases List.mem_cons.1 h4 with e4 | e4
     ·have:=h1.1 _ e3;omega
     ·exact ih h1.2 h2.2 e3 e4
  have hm:=key _ hs h1 m1 m2;rw[fY g ha,fY g hb]at hm;exact yW (pp hg (List.getElem_mem ha)).up (pp hg (List.getElem_mem hb)).up hm x hx
 ·intro h;cases hc:confM g with
  | none=>rfl
  | some c=>
   obtain⟨l,a,b,x⟩:=c;obtain⟨h1,ha,hb,h2,h3,h4,h5⟩:=B6 hg hc;exact absurd h5 (h a b ha hb h1 (by rw[h2,h3]) x h4)

def cnd (g:Gm)(left:Int)(row:List UInt8)(j:Nat):Bool:=decide ((g.ps.getD j ⟨0,[]⟩).l=left)&&ct ((aK g).getD j []) row
section
variable {g h:Gm}(hg:GOk g)(hh:GOk h)(ht:h.t=g.t)(hp:h.ps=g.ps)(hk:g.k<=h.k)
include hg hh ht hp hk
end
theorem ip {g:Gm}(hc:chkE g=0):fX g=0↔confM g=none:=by
 unfold fX;rw[if_pos hc];cases confM g<;>simp
end Go.Proofs.YtkllbcjanneppaaGreat
