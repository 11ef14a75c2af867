import Derived.Test.YtkllbcjanneppaaGreatGF
import Derived.Test.YtkllbcjanneppaaGreatGH
set_option maxRecDepth 20000
set_option linter.unusedSimpArgs false
set_option linter.unusedVariables false
namespace Go.Proofs.YtkllbcjanneppaaGreat
open Go Go.Hm

structure KR (C:Orc)(g:Gm)(F:AV):Prop where
 first:∀K M (h:Heap) (r:List Int),K<=h.length->r.length<=8->(∀x∈r,0<=x/\x < g.t+g.n)->C K M 68 [gV g,F,.sl r.length (ints r)] h=some (rV (ofM g (setsM g) r),h)
 cat:∀K M (h:Heap) va vb a b,K<=h.length->RV va a->RV vb b->ROk g a->FOk g b->C K M 67 [I g.k,va,vb] h=some (rV (cat g.k.toNat a b),h)
 uni:∀K M (h:Heap) va vb a b,K<=h.length->RV va a->RV vb b->FOk g a->FOk g b->C K M 91 [va,vb] h=some (rV (uni a b),h)
theorem Mb {g:Gm}(hc:chkE g=0)(hl:g.ps.length<=1000000)(hr:∀p∈g.ps,p.r.length<=1000000){Fc:List AV}(hF:SC Fc (setsM g)):KR (aj X A) g (.sl Fc.length Fc):=by
 have ok:=br hc;have hso:=aJ ok;refine { first:=fun K M h r hK hr8 hrs=>?_,cat:=fun K M h va vb a b hK ha hb ra rb=>?_,uni:=fun K M h va vb a b hK ha hb ra rb=>?_ }
 ·have hb:r.any (du g)=false:=by
   rw [List.any_eq_false];intro s hs;have:=hrs s hs;simp only [du,Bool.or_eq_true,decide_eq_true_eq,not_or];omega
  have ho:OfOk g (setsM g) r:=⟨hc,by rw [hso.len];have:=ok.n1;omega,hb⟩
  have:=sJ (lk:=K) (lim:=M) (H:=h) hK g hl hr hF r (by omega) (by rw [hso.len];have:=ok.n2;omega) fun _=>⟨fun i=>?_,fun s hs=>?_⟩
  ·rw [if_pos ho] at this;exact this
  ·have h1:=eD ok hso (r:=r.take i) fun s hs=>(hrs s (List.mem_of_mem_take hs)).1;have h2:=h1.size ok;exact ⟨by omega,fun x hx=>by have:=h1.len x hx;have:=ok.k2;omega⟩
  ·unfold nxt;split
   ·simp
   ·have h1:=hso.get (s - g.t).toNat;have h2:=h1.size ok;exact ⟨by omega,fun x hx=>by have:=h1.len x hx;have:=ok.k2;omega⟩
 ·have h1:=ra.size ok;have h2:=rb.size ok;exact j3 hK g.k ha hb (by omega) (by omega) (fun x hx=>by have:=ra.len x hx;have:=ok.k2;omega) (mG ok rb)
 ·have h1:=ra.size ok;have h2:=rb.size ok;exact ow hK ha hb (by omega) (by omega)
structure T1 where
 k:Nat
 S:Ss
 cs:List AV
 more:Bool
structure J1 (g:Gm)(S0:Ss)(rest:List Pl)(R:Ss)(S:Ss)(cs:List AV)(more:Bool):Prop where
 ok:TOk g S
 sc:SC cs S
 rem:rest.foldl (stF g (setsM g)) S=R
 more:(more=false/\S=S0)\/(more=true/\szS S0 < szS S)
def iS (H:Heap)(g:Gm)(nf:Nat)(Fc:List AV)(n:Nat)(more:Bool)(t:Env):Env:=(1,.box g.cells)::(3,.sl nf Fc)::(4,.hs H.length n 0 n 1)::(5,Bo more)::t
def qP (H:Heap)(g:Gm)(nf:Nat)(Fc:List AV)(n i:Nat)(p:Pr)(s:T1):Env:=iS H g nf Fc n s.more [(6,I i),(7,.box p.cells),(8,I s.k)]
def nN (H:Heap)(g:Gm)(nf:Nat)(Fc:List AV)(n:Nat)(more:Bool)(i j:Nat)(p:Pr)(t:Env):Env:=iS H g nf Fc n more ((6,I i)::(7,.box [I p.l,.sl p.r.length (ints p.r)])::(8,I j)::t)
theorem OE {C:Orc}{lk:Nat}{H:Heap}(hlk:lk<=H.length){g:Gm}{nf:Nat}{Fc:List AV}{p:Pr}(pok:POk g p){more:Bool}{n i j m:Nat}{cs:List AV}{Q:Ex->Kt}{E:Env}{sf:List Int}{ov:AV}{o:List (List UInt8)}(hjl:j < p.r.length)
  (hE:ab [1,3,4,5,6,7,8,9] E=nN H g nf Fc n more i j p [(9,I m)]) (hsf:p.r.drop (j+1)=sf) (hov:RV ov o)
  (kf:∀K M,K<=H.length+1->C K M 68 [gV g,.sl nf Fc,.sl sf.length (ints sf)] (H++[.cells cs])=some (ov,H++[.cells cs]))
  (hQ:∀E',ab [1,3,4,5,6,7,8,9,10] E'=nN H g nf Fc n more i j p [(9,I m),(10,ov)]->Q .nrm E' (H++[.cells cs])):
  WB ⟨C,lk,H.length,[1,7]⟩ (AC.regD [1,3,4,5,6,7,8,9] 0
   [{ dst:=some 55,grd:=none,op:=AOp.ldA (some 1) 4 (AO.tmp 1) },
    { dst:=some 56,grd:=none,op:=AOp.mv (AO.tmp 3) },
    { dst:=some 57,grd:=none,op:=AOp.fldA 1 (AO.tmp 7) },
    { dst:=some 58,grd:=none,op:=AOp.ld1 (some 7) (AO.tmp 57) },
    { dst:=some 59,grd:=none,op:=AOp.mv (AO.tmp 8) },
    { dst:=some 60,grd:=none,op:=AOp.bini BinOp.add (AO.tmp 59) (AO.con (AV.val (Value.int IntKind.i64 1))) },
    { dst:=some 61,grd:=none,op:=AOp.slC 1 (AO.tmp 58) (some (AO.tmp 60)) none },
    { dst:=some 62,grd:=none,op:=AOp.call 68 [AO.tmp 55,AO.tmp 56,AO.tmp 61],fl:=true },
    { dst:=some 10,grd:=none,op:=AOp.mv (AO.tmp 62) }]) Q E (H++[.cells cs]):=by
 have w2:IntKind.i64.wrap ((j:Int)+1)=(j:Int)+1:=by have:=pok.len;exact au (by omega) (by omega)
 have hjr:(j:Int)+1<=p.r.length:=by omega
 have hj0:(0:Int)<=(j:Int)+1:=by omega
 have hsl2:AV.sl (p.r.length - (j+1)) (List.take (p.r.length - (j+1)) (List.drop (j+1) (ints p.r)))= .sl sf.length (ints sf):=by
  rw [<-hsf,List.length_drop,List.take_of_length_le (by simp)];simp [ints,List.map_drop]
 have hcl:(g.cells).length=4:=rfl;have ht4:List.take 4 g.cells=g.cells:=rfl;have hbg:∀X,belowL X g.cells=true:=fun X=>by simp [Gm.cells,belowL,Hm.below]
 have hK1:lk<=H.length+1:=by omega
 rw [aB rfl,hE];unfold nN iS;unfold nN iS at hQ;rcases aC hov with rfl | rfl;all_goals
  simp [hcl,ht4,hbg,w2,bnd,hjr,hj0,hsl2,kf,hK1];exact hQ _ rfl
theorem OG {C:Orc}{lk:Nat}{H:Heap}(hlk:lk<=H.length){g:Gm}{nf:Nat}{Fc:List AV}{p:Pr}{more:Bool}{n i j m l:Nat}{cs:List AV}{Q:Ex->Kt}{E:Env}{ov vm vl cv uv:AV}{o Sm Sl c u:List (List UInt8)}(hl:p.l=(l:Int))
  (hE:ab [1,3,4,5,6,7,8,9,10] E=nN H g nf Fc n more i j p [(9,I m),(10,ov)]) (hov:RV ov o) (hcv:RV cv c) (huv:RV uv u) (hcn:cs.length=n) (hm:m < n) (hln:l < n)
  (hvm:cs[m]?=some vm) (hrm:RV vm Sm) (hvl:cs[l]?=some vl) (hrl:RV vl Sl)
  (kc:∀K M,K<=H.length+1->C K M 67 [I g.k,ov,vl] (H++[.cells cs])=some (cv,H++[.cells cs]))
  (ku:∀K M,K<=H.length+1->C K M 91 [vm,cv] (H++[.cells cs])=some (uv,H++[.cells cs]))
  (hQ:∀E',ab [1,3,4,5,6,7,8,9,11] E'=nN H g nf Fc n more i j p [(9,I m),(11,uv)]->Q .nrm E' (H++[.cells cs])):
  WB ⟨C,lk,H.length,[1,7]⟩ (AC.regD [1,3,4,5,6,7,8,9,10] 0
   [⟨some 63,none,.mv (.tmp 4),0,false⟩,⟨some 64,none,.mv (.tmp 9),0,false⟩,⟨some 65,none,.ixA 1 (.tmp 63) (.tmp 64),0,false⟩,⟨some 66,none,.ld1 none (.tmp 65),0,false⟩,⟨some 67,none,.fldA 2 (.tmp 1),0,false⟩,⟨some 68,none,.ld1 (some 1) (.tmp 67),0,false⟩,⟨some 69,none,.mv (.tmp 10),0,false⟩,⟨some 70,none,.mv (.tmp 4),0,false⟩,⟨some 71,none,.fldA 0 (.tmp 7),0,false⟩,⟨some 72,none,.ld1 (some 7) (.tmp 71),0,false⟩,⟨some 73,none,.ixA 1 (.tmp 70) (.tmp 72),0,false⟩,⟨some 74,none,.ld1 none (.tmp 73),0,false⟩,⟨some 75,none,.call 67 [(.tmp 68),(.tmp 69),(.tmp 74)],0,false⟩,⟨some 76,none,.call 91 [(.tmp 66),(.tmp 75)],0,true⟩,⟨some 11,none,.mv (.tmp 76),0,false⟩]) Q E (H++[.cells cs]):=by
 have hc2:∀h:2 < g.cells.length,(g.cells)[2]=I g.k:=fun _=>rfl;have hcl:(g.cells).length=4:=rfl;have hvmE:∀h,cs[m]'h=vm:=fun h=>by rw [List.getElem?_eq_getElem h] at hvm;simpa using hvm
 have hvlE:∀h,cs[l]'h=vl:=fun h=>by rw [List.getElem?_eq_getElem h] at hvl;simpa using hvl
 have hK1:lk<=H.length+1:=by omega
 rw [aB rfl,hE];unfold nN iS;unfold nN iS at hQ;rw [hl] at hQ |-;rcases aC hov with rfl | rfl<;>rcases aC hrm with rfl | rfl<;>rcases aC hrl with rfl | rfl<;>rcases aC hcv with rfl | rfl<;>rcases aC huv with rfl | rfl;all_goals
  simp [hcl,hc2,hcn,hm,hln,hvm,hvmE,hvl,hvlE,kc,ku,hK1];exact hQ _ rfl
theorem OH {C:Orc}{lk:Nat}{H:Heap}(hlk:lk<=H.length){g:Gm}{nf:Nat}{Fc:List AV}{p:Pr}{more:Bool}{n i j m:Nat}{cs:List AV}{Q:Ex->Kt}{E:Env}{vm uv:AV}{Sm u:List (List UInt8)}
  (hE:ab [1,3,4,5,6,7,8,9,11] E=nN H g nf Fc n more i j p [(9,I m),(11,uv)]) (huv:RV uv u) (hcn:cs.length=n) (hm:m < n)
  (hvm:cs[m]?=some vm) (hrm:RV vm Sm)
  (hQ:∀E',ab [1,3,4,5,6,7,8] E'=nN H g nf Fc n (more||decide (Sm.length < u.length)) i j p []->Q .nrm E' (H++[.cells (cs.set m uv)])):
  WB ⟨C,lk,H.length,[1,7]⟩ (.seq (.regN [1,3,4,5,6,7,8,9,11] [⟨some 77,none,.mv (.tmp 5),0,false⟩,⟨some 78,none,.mv (.tmp 77),0,false⟩,⟨some 79,some (78,false),.mv (.tmp 11),0,false⟩,⟨some 80,some (78,false),.len false (.tmp 79),0,false⟩,⟨some 81,some (78,false),.mv (.tmp 4),0,false⟩,⟨some 82,some (78,false),.mv (.tmp 9),0,false⟩,⟨some 83,some (78,false),.ixA 1 (.tmp 81) (.tmp 82),0,false⟩,⟨some 84,some (78,false),.ld1 none (.tmp 83),0,false⟩,⟨some 85,some (78,false),.len false (.tmp 84),0,false⟩,⟨some 86,some (78,false),.bini .gtr (.tmp 80) (.tmp 85),0,false⟩,⟨some 87,none,.pick (.tmp 78) (.con (.val (.bool true))) (.tmp 86),0,false⟩,⟨some 5,none,.mv (.tmp 87),0,false⟩])
   (.regN [1,3,4,5,6,7,8,9,11] [⟨some 88,none,.mv (.tmp 4),0,false⟩,⟨some 89,none,.mv (.tmp 9),0,false⟩,⟨some 90,none,.mv (.tmp 11),0,false⟩,⟨some 91,none,.ixA 1 (.tmp 88) (.tmp 89),0,false⟩,⟨none,none,.st none 1 (.tmp 91) (.tmp 90),0,false⟩])) Q E (H++[.cells cs]):=by
 have hvmE:∀h,cs[m]'h=vm:=fun h=>by rw [List.getElem?_eq_getElem h] at hvm;simpa using hvm
 have hmc:m < cs.length:=by omega
 have hm1:m+1<=n:=hm;have hset:List.take m cs++uv::List.drop (m+1) cs=cs.set m uv:=by rw [List.set_eq_take_append_cons_drop,if_pos hmc]
 have hsh:aR lk H.length 0 (H++[.cells cs]) H.length (cs.set m uv) [uv]=some (H++[.cells (cs.set m uv)]):=by
  unfold aR;rw [if_pos ⟨hlk,.inl (Nat.le_refl _),.inl (Nat.zero_le _)⟩,ph]
 rw [ai,ae,hE];unfold nN iS;unfold nN iS at hQ;cases more with
 | true=>
  rcases aC huv with rfl | rfl;all_goals
   simp [-ae,-aE];rw [ae];simp [-aE,hm];rw [aE];simp [-aE,hcn,hm1,an,hset,hsh];exact hQ _ rfl
 | false=>
  rcases huv with rfl | ⟨rfl,rfl⟩<;>rcases hrm with rfl | ⟨rfl,rfl⟩;all_goals
   simp [-ae,-aE,hm,hcn,hvm,hvmE];rw [ae];simp [-aE,hm];rw [aE];simp [-aE,hcn,hm1,an,hset,hsh];refine hQ _ ?_;simp
set_option maxHeartbeats 2000000 in
theorem OI {C:Orc}{lk:Nat}{H:Heap}(hlk:lk<=H.length){g:Gm}(hg:GOk g){nf:Nat}{Fc:List AV}(k:KR C g (.sl nf Fc)){S0 R:Ss}{p:Pr}(hp:p∈g.ps){n i:Nat}(hn:g.n.toNat=n){Q:Ex->Kt}
  (hQ:∀s:T1,∀e,J1 g S0 [] R s.S s.cs s.more->ab [1,3,4,5,6] e=iS H g nf Fc n s.more [(6,I i)]->Q (.exit 4) e (H++[.cells s.cs])) (s:T1) (hs:s.k<=p.r.length/\J1 g S0 (fR g.t p.l.toNat (p.r.drop s.k)) R s.S s.cs s.more):
  WB ⟨C,lk,H.length,[1,7]⟩ Aa (Rnd [1,3,4,5,6,7,8] (qP H g nf Fc n i p) (fun s=>H++[.cells s.cs]) (fun s=>s.k<=p.r.length/\J1 g S0 (fR g.t p.l.toNat (p.r.drop s.k)) R s.S s.cs s.more) (fun s=>p.r.length - s.k) s Q) (qP H g nf Fc n i p s) (H++[.cells s.cs]):=by
 have hQ2:=hQ s;obtain ⟨j,S,cs,more⟩:=s;obtain ⟨hj,hJ⟩:=hs;simp only at hj hJ hQ2;have pok:=hg.p p hp;unfold Aa;by_cases hjl:j < p.r.length;case neg=>
  obtain rfl:j=p.r.length:=by omega
  rw [List.drop_length] at hJ;simp [-ak,-af,-ae,qP,iS,Pr.cells];rw [ae];simp [-ak,-af];rw [af rfl];simp;exact hQ2 _ hJ rfl
 have hjl2:(j:Int) < p.r.length:=by omega
 obtain ⟨sy,hsy⟩:∃sy,p.r[j]=sy:=⟨_,rfl⟩;have hq2:p.r[j]?=some sy:=by rw [List.getElem?_eq_getElem hjl,hsy]
 have hsok:=pok.s sy (hsy▸List.getElem_mem hjl);have hd:=List.drop_eq_getElem_cons hjl;rw [hsy] at hd;have hc0:∀h:0 < g.cells.length,(g.cells)[0]=I g.t:=fun _=>rfl;have hc2:∀h:2 < g.cells.length,(g.cells)[2]=I g.k:=fun _=>rfl;have hcl:(g.cells).length=4:=rfl;have ht4:List.take 4 g.cells=g.cells:=rfl;have hwr:IntKind.i64.wrap (sy - g.t)=sy - g.t:=by have:=hg.t1;have:=hg.t2;have:=hg.n1;have:=hg.n2;exact au (by omega) (by omega)
 have w2:IntKind.i64.wrap ((j:Int)+1)=(j:Int)+1:=by have:=pok.len;exact au (by omega) (by omega)
 simp [-aE,-ae,-aB,-ak,-af,qP,iS,Pr.cells];rw [ae];simp [-aE,-ae,-aB,-ak,-af,hjl2];rw [ak rfl,aA,ah,ai,ap,ai,aB rfl];simp [-aE,-ae,-aB,-ak,-af,hjl,hq2,hsy,hc0,hcl,hwr];rw [ae];simp [-aE,-ae,-aB,-ak,-af];by_cases hst:sy - g.t < 0
 ·rw [decide_eq_true hst,ak rfl];simp [w2];rw [ao];refine ⟨⟨j+1,S,cs,more⟩,⟨hjl,hJ.ok,hJ.sc,?_,hJ.more⟩,by show p.r.length - (j+1) < p.r.length - j;omega,rfl,rfl⟩
  rw [<-hJ.rem,hd,fR,if_pos (by omega)]
 obtain ⟨m,hm⟩:∃m:Nat,sy - g.t=(m:Int):=Int.eq_ofNat_of_zero_le (by omega)
 obtain ⟨l,hlE⟩:∃l:Nat,p.l=(l:Int):=Int.eq_ofNat_of_zero_le pok.l0;have hlt:p.l.toNat=l:=by omega
 have hcn:cs.length=n:=by rw [hJ.sc.1,hJ.ok.len,hn]
 have hmn:m < n:=by omega
 have hln:l < n:=by have:=pok.l1;omega
 obtain ⟨sf,hsf⟩:∃sf,p.r.drop (j+1)=sf:=⟨_,rfl⟩;have hsfs:∀x∈sf,0<=x/\x < g.t+g.n:=fun x hx=>pok.s x (by rw [<-hsf] at hx;exact List.mem_of_mem_drop hx)
 have hsf8:sf.length<=8:=by rw [<-hsf,List.length_drop];have:=pok.len;omega
 obtain ⟨vm,hvm,hrm⟩:=hJ.sc.get (j:=m) (by rw [<-hJ.sc.1,hcn];exact hmn)
 obtain ⟨vl,hvl,hrl⟩:=hJ.sc.get (j:=l) (by rw [<-hJ.sc.1,hcn];exact hln)
 have hofok:=eD hg (aJ hg) (r:=sf) fun x hx=>(hsfs x hx).1;have hov:=dE (ofM g (setsM g) sf);have hcv:=dE (cat g.k.toNat (ofM g (setsM g) sf) (S.getD l []));have huv:=dE (uni (S.getD m []) (cat g.k.toNat (ofM g (setsM g) sf) (S.getD l [])));have kf:=fun (K M:Nat) (hK:K<=H.length+1)=>k.first K M (H++[.cells cs]) sf (by simpa using hK) hsf8 hsfs
 have kc:=fun (K M:Nat) (hK:K<=H.length+1)=>k.cat K M (H++[.cells cs]) _ _ _ _ (by simpa using hK) hov hrl hofok (hJ.ok.get l)
 have ku:=fun (K M:Nat) (hK:K<=H.length+1)=>k.uni K M (H++[.cells cs]) _ _ _ _ (by simpa using hK) hrm hcv (hJ.ok.get m) (o6 hg hofok (hJ.ok.get l))
 have hplm:(⟨l,m,sf⟩:Pl)∈pls g:=by
  have:=wH hp hlt hjl (by rw [hsy];omega)
  rw [hsy,hsf,hm] at this;exact this
 have pk:=d7 hg _ hplm;have hnew:J1 g S0 (fR g.t p.l.toNat (p.r.drop (j+1))) R (stF g (setsM g) S ⟨l,m,sf⟩) (cs.set m (rV (uni (S.getD m []) (cat g.k.toNat (ofM g (setsM g) sf) (S.getD l []))))) (more||decide ((S.getD m []).length < (uni (S.getD m []) (cat g.k.toNat (ofM g (setsM g) sf) (S.getD l []))).length)):=by
  refine ⟨qw hg (aJ hg) hJ.ok pk,nK hJ.sc huv,?_,?_⟩
  ·rw [<-hJ.rem,hd,fR,if_neg (by omega),List.foldl_cons,hm,hsf,hlt,Int.toNat_natCast]
  ·have hup:=ug (F:=setsM g) hJ.ok pk;dsimp only at hup;by_cases hgr:(S.getD m []).length < (uni (S.getD m []) (cat g.k.toNat (ofM g (setsM g) sf) (S.getD l []))).length
   ·have h3:szS S < szS (stF g (setsM g) S ⟨l,m,sf⟩):=by
     rcases hup.1 with e | e
     ·exact absurd (hup.2.1 e) (by omega)
     ·exact e
    refine .inr ⟨by simp only [decide_eq_true hgr,Bool.or_true],?_⟩
    rcases hJ.more with ⟨_,e⟩ | ⟨_,e⟩
    ·rw [<-e];exact h3
    ·omega
   ·rw [hup.2.2 (by omega),decide_eq_false hgr,Bool.or_false]
    exact hJ.more
 rw [decide_eq_false hst,af rfl,aA,ah,ai];refine OE (more:=more) (n:=n) (i:=i) (m:=m) hlk pok hjl (by rw [hm];rfl) hsf hov kf ?_
 intro E1 hE1;rw [ah,ai];refine OG hlk hlE hE1 hov hcv huv hcn hmn hln hvm hrm hvl hrl kc ku ?_;intro E2 hE2;rw [ah];refine OH hlk hE2 huv hcn hmn hvm hrm ?_;intro E3 hE3;generalize cs.set m (rV (uni (S.getD m []) (cat g.k.toNat (ofM g (setsM g) sf) (S.getD l []))))=cs2 at *;generalize (more||decide ((S.getD m []).length < (uni (S.getD m []) (cat g.k.toNat (ofM g (setsM g) sf) (S.getD l []))).length))=more2 at *;generalize stF g (setsM g) S ⟨l,m,sf⟩=S2 at *;show WB _ _ _ _ _;rw [ae,hE3];simp [nN,iS,w2];rw [ao];exact ⟨⟨j+1,S2,cs2,more2⟩,⟨hjl,hnew⟩,by show p.r.length - (j+1) < p.r.length - j;omega,rfl,rfl⟩

set_option maxHeartbeats 2000000 in
theorem yR {lk lim:Nat}{H:Heap}(hlk:lk<=H.length)(g:Gm)(hl:g.ps.length<=1000000)(hr:∀p∈g.ps,p.r.length<=1000000):
  ∃v h',aj X A lk lim 66 [gV g] H=some (v,h')/\h'=H/\if chkE g=0 then ∃cs,v= .sl cs.length cs/\SC cs (cM g) else v= .e0:=by
 have kc:=fun (M:Nat)=>bN (lk:=lk) (lim:=M) (H:=H) g hl hr;refine dD [1,7] rfl A66 rfl rfl ?_;unfold Nw;have hcl:(g.cells).length=4:=rfl;have ht4:List.take 4 g.cells=g.cells:=rfl;by_cases hc:chkE g=0;case neg=>
  generalize chkE g=e at kc hc |-;have h3:(e != 0)=true:=by simpa using hc
  generalize aj X A=C at kc |-;simp [-ak,-af,-ae];rw [ae];simp [-ak,-af,-ae,hcl];rw [ae];simp [-ak,-af,-ae,hcl,ht4,kc,h3];rw [ak rfl];simp [bt,hc];exact ⟨.e0,H,⟨rfl,rfl⟩,rfl,rfl⟩
 have ok:=br hc;simp only [hc,if_true];rw [hc] at kc;have hn1:=ok.n1;have hn2:=ok.n2;have hl2:=ok.l2;obtain ⟨n,hn⟩:∃n:Nat,g.n=(n:Int):=Int.eq_ofNat_of_zero_le (by omega)
 have hnn:g.n.toNat=n:=by omega
 obtain ⟨v,h',kf,hh,hv⟩:=qO (lk:=lk) (lim:=H.length) (H:=H) hlk g hl hr;rw [hh] at kf;rw [if_pos hc] at hv;obtain ⟨Fc,rfl,hF⟩:=hv;have kk:=Mb hc hl hr hF;have hc1:∀h:1 < g.cells.length,(g.cells)[1]=I n:=fun _=>by rw [<-hn];rfl
 have hc3:∀h:3 < g.cells.length,(g.cells)[3]= .sl g.ps.length (psC g.ps):=fun _=>rfl;have hro:n * 24<=aM:=by unfold aM;omega
 generalize aj X A=C at kc kf kk |-;simp [-ak,-af,-ae];rw [ae];simp [-ak,-af,-ae,hcl];rw [ae];simp [-ak,-af,-ae,hcl,ht4,kc];rw [af rfl,aA,ah,ai,ae];simp [-ak,-af,-ae,-aE,hcl,ht4,kf];rw [ae];simp [-ak,-af,-ae,-aE,-fN,hcl,hc1];rw [fN,uB (l:=.tmp 18) (z:=[.e0]) (es:=1) (n:=n) rfl rfl hro];simp [-ak,-af,-ae,-aE];rw [ae];have hn0:0 < n:=by omega
 have hS0:=nK (mA n) (j:=0) (v:=rowsV [[255]]) (l:=[[255]]) (.inl rfl);have hset:(repl n [AV.e0]).set 0 (rowsV [[255]])=an (repl n [AV.e0]) 0 [.sl 1 [Sg [255]]]:=by
  obtain ⟨m,rfl⟩:∃m,n=m+1:=⟨n - 1,by omega⟩
  have:repl (m+1) [AV.e0]= .e0::repl m [AV.e0]:=rfl;rw [this];simp [an];rfl
 have hst0:cE g=(List.replicate n []).set 0 [[255]]:=by unfold cE;rw [hn,Int.toNat_natCast]
 rw [hset,<-hst0] at hS0;have hrl:(repl n [AV.e0]).length=n:=by simp [repl]
 have hn1':1<=n:=hn0;have hb1:dF [.val (.int .u8 255)]=some [255]:=rfl;simp [-ak,-af,-ae,-aE,hn0,hb1];rw [aE];have hsg:AV.sl 1 [AV.val (.string ⟨#[255]⟩)]= .sl 1 [Sg [255]]:=rfl;simp [-ak,-af,-ae,-aE,aR,hlk,hsg,hrl,hn1'];generalize an (repl n [AV.e0]) 0 [.sl 1 [Sg [255]]]=cs at *;rw [ae];simp [-ak,-af,-ae,-aE];have hcl2:=oj ok (aJ ok);have hsz0:szS (cE g)<=n * 585:=by have:=qx ok (TOk.start ok);rw [hnn] at this;exact this
 refine ax (σ:=Ss×List AV×Bool) (fun s=>[(1,.box g.cells),(3,.sl Fc.length Fc),(4,.hs H.length n 0 n 1),(5,Bo s.2.2)]) (fun s=>H++[.cells s.2.1])
  (fun s=>TOk g s.1/\SC s.2.1 s.1/\cH (qu g (setsM g)) (n * 585 - szS s.1+1) s.1=cM g/\(s.2.2=false->qu g (setsM g) s.1=s.1)) (fun s=>2 * (n * 585 - szS s.1)+if s.2.2=true then 1 else 0) ?_ (cE g,cs,true)
  ⟨TOk.start ok,hS0,by
   have h1:=dL hcl2 (n * 585+1) (cE g) (TOk.start ok) (by show g.n.toNat * 585 - _ < _;rw [hnn];omega)
   unfold cM;rw [hnn,h1,hnn],by simp⟩ rfl rfl
 rintro ⟨S,cs,more⟩ ⟨hS,hC,hcm,hm⟩;simp only at hS hC hcm hm;have hcn:cs.length=n:=by rw [hC.1,hS.len,hnn]
 unfold JQ;cases more with
 | false=>
  have h1:cM g=S:=by
   rw [<-hcm];unfold cH;rw [if_pos (hm rfl)]
  have hz:=iR H.length (H++[.cells cs]) 6 hC;have htk:cs.take n=cs:=List.take_of_length_le (by omega)
  simp [-ak,-af,-ae];rw [ae];simp [-ak,-af];rw [af rfl];simp [bt,hcn,htk,hz];exact ⟨_,_,⟨rfl,rfl⟩,rfl,cs,by rw [hcn],by rw [h1];exact hC⟩
 | true=>
  simp [-ak,-af,-ae];rw [ae];simp [-ak,-af,-ae];rw [ak rfl,aA,ah,ap,ai,ae];simp [-ak,-af,-ae];rw [ae];simp [-ak,-af,-ae];have hR:(pls g).foldl (stF g (setsM g)) S=qu g (setsM g) S:=rfl;refine ax (σ:=Nat×Ss×List AV×Bool) (fun s=>iS H g Fc.length Fc n s.2.2.2 [(6,I s.1)]) (fun s=>H++[.cells s.2.2.1])
   (fun s=>s.1<=g.ps.length/\J1 g S ((g.ps.drop s.1).flatMap fun p=>fR g.t p.l.toNat p.r) (qu g (setsM g) S) s.2.1 s.2.2.1 s.2.2.2) (fun s=>g.ps.length - s.1) ?_ (0,S,cs,false)
   ⟨Nat.zero_le _,hS,hC,hR,.inl ⟨rfl,rfl⟩⟩ (by simp [iS,ab,find]) rfl
  rintro ⟨i,S2,cs2,more⟩ ⟨hi,hJ⟩;simp only at hi hJ;unfold JP;by_cases hil:i < g.ps.length;case neg=>
   obtain rfl:i=g.ps.length:=by omega
   rw [List.drop_length,List.flatMap_nil] at hJ;have hfo:qu g (setsM g) S=S2:=hJ.rem.symm;have hle:=qx ok hJ.ok;rw [hnn] at hle;simp [-ak,-af,-ae,iS,hcl];rw [ae];simp [-ak,-af,hcl,hc3];rw [af rfl];simp [ao];rcases hJ.more with ⟨e1,e2⟩ | ⟨e1,e2⟩
   ·rw [e2] at hfo;exact ⟨S,cs2,.inl ⟨⟨hS,e2▸hJ.sc,hcm,hfo⟩,by omega,e1,rfl⟩⟩
   ·refine ⟨S2,cs2,.inr ⟨⟨hJ.ok,hJ.sc,?_⟩,by omega,e1,rfl⟩⟩
    have hne:qu g (setsM g) S≠S:=fun e=>by rw [hfo] at e;rw [e] at e2;omega
    have h1:=dL hcl2 (n * 585 - szS S) S2 hJ.ok (by show g.n.toNat * 585 - szS S2 < _;rw [hnn];omega)
    rw [<-hcm]
    conv=>rhs;unfold cH
    rw [if_neg hne,hfo];rw [hnn] at h1;exact h1.symm
  obtain ⟨p,hp⟩:∃p,g.ps[i]=p:=⟨_,rfl⟩;have hpm:p∈g.ps:=hp▸List.getElem_mem hil;have hs:=cd hil;have hll:=aY g.ps;have h2:i * 2+2<=2 * g.ps.length:=by omega
  rw [hp] at hs;simp only [Pr.cells] at hs;have hil2:(i:Int) < g.ps.length:=by omega
  have w1:IntKind.i64.wrap ((i:Int)+1)=(i:Int)+1:=au (by omega) (by omega)
  rw [List.drop_eq_getElem_cons hil,hp,List.flatMap_cons] at hJ;have hrem:=hJ.rem;rw [List.foldl_append] at hrem;obtain ⟨R1,hR1⟩:∃R1,(fR g.t p.l.toNat p.r).foldl (stF g (setsM g)) S2=R1:=⟨_,rfl⟩;rw [hR1] at hrem;have main:∀E,ab [1,3,4,5,6,7,8] E=qP H g Fc.length Fc n i p ⟨0,S2,cs2,more⟩->∀Q:Ex->Kt,(∀s:T1,∀e,J1 g S [] R1 s.S s.cs s.more->ab [1,3,4,5,6] e=iS H g Fc.length Fc n s.more [(6,I i)]->Q (.exit 4) e (H++[.cells s.cs]))->
    WB ⟨C,lk,H.length,[1,7]⟩ (.loop [1,3,4,5,6,7,8] Aa) Q E (H++[.cells cs2]):=by
   intro E hE Q hQ;refine ax (σ:=T1) (qP H g Fc.length Fc n i p) (fun s=>H++[.cells s.cs]) (fun s=>s.k<=p.r.length/\J1 g S (fR g.t p.l.toNat (p.r.drop s.k)) R1 s.S s.cs s.more) (fun s=>p.r.length - s.k) ?_ ⟨0,S2,cs2,more⟩ ?_ hE ?_
   ·intro s hs;exact OI (i:=i) (S0:=S) (R:=R1) (n:=n) (nf:=Fc.length) hlk ok kk hpm hnn hQ s hs
   ·exact ⟨Nat.zero_le _,hJ.ok,hJ.sc,hR1,hJ.more⟩
   ·rfl

  simp [-ak,-af,-ae,-bd,iS,hcl];rw [ae];simp [-ak,-af,-ae,-bd,hcl,hc3,hil2];rw [ak rfl,aA,ah,ai,ap,ai,ae];simp [-ak,-af,-ae,-bd,hcl,hc3,hil,hs,hll,h2];rw [bd];simp [-ak,-af,-ae,an];rw [ae];simp [-ak,-af,-ae];refine main _ (by simp [qP,iS,Pr.cells]) _ ?_
  rintro ⟨k3,S3,cs3,more3⟩ e hJ3 he;simp only at hJ3 he;rw [aG,if_pos rfl];show WB _ _ _ _ _;rw [ae,he];simp [iS,w1];rw [ao];have e3:S3=R1:=hJ3.rem;exact ⟨(i+1,S3,cs3,more3),⟨hil,hJ3.ok,hJ3.sc,by show List.foldl _ S3 _=_;rw [e3];exact hrem,hJ3.more⟩,by show g.ps.length - (i+1) < g.ps.length - i;omega,rfl,rfl⟩
end Go.Proofs.YtkllbcjanneppaaGreat
