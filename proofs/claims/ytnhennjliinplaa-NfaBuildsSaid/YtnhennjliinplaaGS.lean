/- The document's ways, Matches: walked to the end. -/
import Derived.Test.YtnhennjliinplaaGQ
import Derived.Test.YtnhennjliinplaaGD
set_option linter.all false
namespace Go.Proofs.Ytnhennjliinplaa
open Go Go.Hm
def waysM (N:Nat)(s:List UInt8):List Nd→List TT→List TT
 | [],ws=>ws
 | x::r,ws=>waysM N s r (ws++[nodeW N s ws x])
theorem waysM_len {N:Nat}{s:List UInt8}:∀(R:List Nd) (ws:List TT),(waysM N s R ws).length=ws.length+R.length
 | [],ws=>rfl
 | x::r,ws=>by
  show (waysM N s r (ws++[nodeW N s ws x])).length=_
  rw[waysM_len r];simp;omega
section
variable {lk lim:Nat}{H:Heap}{s:List UInt8}{R:List Nd}
set_option maxRecDepth 20000 in
theorem ways35 (hR:RxOk R)(hcl:∀x∈R,Cl4 x)(hRl:R.length≤100000)(hs1:s.length≤1000)(hlk:lk≤H.length)(hlim:lim≤H.length):
  ∃v H',callW X A lk lim 35 [.sl R.length (rxC R),Sg s] H=some (v,H')∧AllW H H' v (s.length+1) (waysM (s.length+1) s R []):=by
 have hX:X lk lim 35 [.sl R.length (rxC R),Sg s] H=none:=noX1 (by decide) (by decide) (by decide)
 refine wb_callX [7] hX A35 rfl rfl ?_
 show WB ⟨callW X A,lk,lim,[7]⟩ t35B _ _ _
 have h19:∀(a0 a1 a2 a3:Int) lk (b:UInt8) Z,callW X A lk lim 19 [.agg [U a0,U a1,U a2,U a3],.val (.int .u8 b.toNat)] Z=some (Bo (hasC [U a0,U a1,U a2,U a3] b.toNat),Z):=fun a0 a1 a2 a3 lk b Z=>has19 (by have:=b.toNat_lt;omega)
 obtain⟨N,hN⟩:∃N,N=s.length+1:=⟨_,rfl⟩
 rw[←hN]
 have hN1:N≤1000000:=by omega
 have h1:1≤N:=by omega
 have h53:∀{Z:Heap} (sf:Bool),H.length≤Z.length→callW X A lk lim 53 [I (N:Int),Bo sf] Z=some (.hs (Z.length+1) N 0 N 1,memT Z N (mkR N (slF sf))):=fun sf h=>places53 h1 hN1 (by omega) (by omega)
 have h54:∀{Z:Heap} {b1 b2:Nat} {fa fb:TT},TabH Z (.hs b1 N 0 N 1) N fa→TabH Z (.hs b2 N 0 N 1) N fb→H.length≤Z.length→callW X A lk lim 54 [.hs b1 N 0 N 1,.hs b2 N 0 N 1] Z=some (.hs (Z.length+1) N 0 N 1,memT Z N (mkR N (thF fa fb N))):=fun ha hb h=>then54 ha hb h1 hN1 (by omega) (by omega)
 have h55:∀{Z:Heap} {b1 b2:Nat} {fa fb:TT},TabH Z (.hs b1 N 0 N 1) N fa→TabH Z (.hs b2 N 0 N 1) N fb→H.length≤Z.length→callW X A lk lim 55 [.hs b1 N 0 N 1,.hs b2 N 0 N 1] Z=some (.hs (Z.length+1) N 0 N 1,memT Z N (mkR N fun i k=>fa i k||fb i k)):=fun ha hb h=>either55 ha hb h1 hN1 (by omega) (by omega)
 have h56:∀{Z:Heap} {b1:Nat} {fa:TT},TabH Z (.hs b1 N 0 N 1) N fa→H.length≤Z.length→callW X A lk lim 56 [.hs b1 N 0 N 1] Z=some (.hs (Z.length+1) N 0 N 1,memT Z N (mkR N (agM N (fun i k=>fa i k||fa i k) N))):=fun ha h=>again56 ha h1 hN1 (by omega) (by omega)
 generalize callW X A=C at h19 h53 h54 h55 h56 ⊢
 generalize hP:FinX [.tmp 4] false H (fun v H'=>AllW H H' v N (waysM N s R []))=P
 have fin:∀env Z v,find env 4=v→AllW H Z v N (waysM N s R [])→P .ret env Z:=fun env Z v h h2=>by
  rw[←hP,finX_ret]
  have hb:∀ws,AllW H Z v N ws→(v= .e0∨∃b n,v= .hs b n 0 n 1):=fun ws h=>by
   rcases h.2 with⟨_,h⟩ | ⟨ba,vs,h,_⟩
   ·exact .inl h
   ·exact .inr ⟨ba,_,h⟩
  refine⟨v,Z,?_,h2⟩
  rcases hb _ h2 with rfl | ⟨b,n,rfl⟩
  ·simp[finish,resOf,resList,resOne,h]
  ·simp[finish,resOf,resList,resOne,h]
 clear hP
 have hall:∀x∈R,NdOk x:=fun x hx=>by
  obtain⟨i,hi⟩:=List.getElem?_of_mem hx
  exact(hR i x hi).1
 have hloop:∀env,restrict [0,1,5,6] env=[(0,.sl R.length (rxC R)),(1,Sg s),(5,.e0),(6,I 0)]→WB ⟨C,lk,lim,[7]⟩ (.block 0 (.loop [0,1,5,6] t35L3)) (Fol ⟨C,lk,lim,[7]⟩ (.seq (.regN [5] [kM 115 5,kM 4 115]) .ret) P) env H:=by
  intro env hE
  refine wb_loop (σ:=Nat×Heap×AV×List TT) (fun q=>[(0,.sl R.length (rxC R)),(1,Sg s),(5,q.2.2.1),(6,I q.1)]) (fun q=>q.2.1)
   (fun q=>q.1≤R.length∧q.2.2.2.length=q.1∧AllW H q.2.1 q.2.2.1 N q.2.2.2∧waysM N s (R.drop q.1) q.2.2.2=waysM N s R []) (fun q=>R.length-q.1) ?_ (0,H,.e0,[]) ⟨Nat.zero_le _,rfl,⟨fun _ _ h=>h,.inl ⟨rfl,rfl⟩⟩,rfl⟩ hE rfl
  rintro⟨i,Z,av,ws⟩ ⟨hi,hwl,hA,hw⟩
  dsimp only at hi hwl hA hw ⊢
  rw[e353]
  generalize hRn:Rnd _ _ _ _ _ _ _=P2
  have hav:av= .e0∨∃b,av= .hs b i 0 i 1:=by
   rcases hA.2 with⟨_,h⟩ | ⟨ba,vs,h,_⟩
   ·exact .inl h
   ·exact .inr ⟨ba,by rw[h,hwl]⟩
  by_cases hk:i<R.length
  case neg=>
   obtain rfl:i=R.length:=by omega
   rw[List.drop_length]at hw
   have hw:ws=waysM N s R []:=hw
   have hx:∀env,restrict [5] env=[(5,av)]→P2 (.exit 0) env Z:=fun env hE=>by
    rw[←hRn]
    show WB ⟨C,lk,lim,[7]⟩ (.seq (.regN [5] [kM 115 5,kM 4 115]) .ret) P env Z
    rw[wb_seq,wb_regN,hE]
    rw[hw]at hA
    rcases hav with rfl | ⟨b,rfl⟩
    ·simp
     exact fin _ _ _ rfl hA
    ·simp
     exact fin _ _ _ rfl hA
   generalize (.block 1 _:AC)=F
   rcases hav with rfl | ⟨b,rfl⟩
   all_goals
    simp
    exact hx _ rfl
  obtain⟨x,hx⟩:=get_of hk
  rw[List.drop_eq_getElem_cons hk,get_some hx hk]at hw
  have hw:waysM N s (R.drop (i+1)) (ws++[nodeW N s ws x])=waysM N s R []:=hw
  have w:IntKind.i64.wrap ((i:Int)+1)=(i:Int)+1:=wrap64 (by omega) (by omega)
  have hb:∀E,restrict [0,1,5,6] E=[(0,.sl R.length (rxC R)),(1,Sg s),(5,av),(6,I i)]→WB ⟨C,lk,lim,[7]⟩ (.block 1 (.seq wX (.seq wP (.seq (.seq (.regN [0,1,5,6,7,8] [kZ 9]) (.block 2 (.loop [0,1,5,6,7,8,9] t35L1))) (.seq (.seq (.regN [0,1,5,6,7,8] [kZ 10]) (.block 4 (.loop [0,1,5,6,7,8,10] t35L2))) (.seq (.seq wG (.cond (ux 94) wA .skip)) (.seq (.seq wH (.cond (ux 104) wM .skip)) wN))))))) (Fol ⟨C,lk,lim,[7]⟩ (.regN [0,1,5,6] [kM 15 6,kU 16 15,kM 6 16]) P2) E Z:=fun E hE=>by
   rw[wb_block]
   refine round35 (L0:=H.length) (H0:=H) rfl hall hcl hx (hR i x hx).2.1 hN hs1 hRl hlk hlim hwl hA h19 h53 h54 h55 h56 hE fun E' Z' av' hE' hA'=>?_
   have next:∀env,restrict [0,1,5,6] env=[(0,.sl R.length (rxC R)),(1,Sg s),(5,av'),(6,I ((i+1:Nat):Int))]→P2 .nrm env Z':=fun env h=>by
    rw[←hRn,rnd_nrm]
    exact⟨(i+1,Z',av',ws++[nodeW N s ws x]),⟨hk,by simp[hwl],hA',hw⟩,by show R.length-(i+1)<R.length-i;omega,h,rfl⟩
   rw[blk_nrm,fol_nrm,wb_regN,hE']
   obtain⟨lw,hlw⟩:∃lw,(ws++[nodeW N s ws x]).length=lw:=⟨_,rfl⟩
   rcases hA'.2 with⟨_,hav'⟩ | ⟨ba,vs,hav',_⟩
   all_goals
    try rw[hlw]at hav'
    rw[hav']at next ⊢
    simp[w]
    refine next _ ?_
    rfl
  generalize (.block 1 _:AC)=F at hb ⊢
  rcases hav with rfl | ⟨b,rfl⟩
  all_goals
   simp[hk]
   refine hb _ ?_
   rfl
 unfold t35B
 generalize (.block 0 (.loop [0,1,5,6] t35L3):AC)=LL at hloop ⊢
 simp
 exact hloop _ rfl
set_option maxRecDepth 20000 in
theorem matches12 {v:AV}(hv:(v= .e0∧R=[])∨v= .sl R.length (rxC R))(hch:chkR R=true)(hR:∀x∈R,NdOk x)(hcl:∀x∈R,Cl4 x)(hks:∀x∈R,x.ks.length≤100000)(hs1:s.length≤1000)(hlk:lk≤H.length):
  callW X A lk lim 12 [v,Sg s] H=some (Bo ((waysM (s.length+1) s R []).getD (R.length-1) zT 0 s.length),H):=by
 obtain⟨r1,r2,_⟩:=chkR_get hch
 obtain rfl:v= .sl R.length (rxC R):=by
  rcases hv with⟨_,h⟩ | h
  ·rw[h]at r1;simp at r1
  ·exact h
 have hX:X lk lim 12 [.sl R.length (rxC R),Sg s] H=none:=noX1 (by decide) (by decide) (by decide)
 refine wb_callB [] hX A12 rfl rfl ?_
 show WB ⟨callW X A,lk,H.length,[]⟩ t12B _ _ _
 have h10:=check10 (lk:=lk) (lim:=H.length) (H:=H) (v:=.sl R.length (rxC R)) (.inr rfl) hR hcl hks hlk
 rw[hch,if_pos rfl]at h10
 obtain⟨v,Z,h35,hA⟩:=ways35 (lk:=lk) (lim:=H.length) (H:=H) (s:=s) (chkR_ok hch hR) hcl (by omega) hs1 hlk (Nat.le_refl _)
 have hwl:=waysM_len (N:=s.length+1) (s:=s) R []
 obtain⟨ws,hws⟩:∃ws,waysM (s.length+1) s R []=ws:=⟨_,rfl⟩
 rw[hws]at hA hwl ⊢
 have hwl:ws.length=R.length:=by simpa using hwl
 obtain⟨hL,hA⟩:=hA
 rcases hA with⟨h0,_⟩ | ⟨ba,vs,rfl,hZ,hvl,_,ht⟩
 ·rw[h0]at hwl;simp at hwl;omega
 obtain⟨wq,hwq⟩:=get_of (show R.length-1<ws.length by omega)
 obtain⟨vq,hvq,htq⟩:=ht _ wq hwq
 obtain⟨bq,rfl⟩:=htq.hs
 obtain⟨cs,x,q1,q2,q3,q4⟩:=htq.tab.row (i:=0) (by omega)
 have hgd:ws.getD (R.length-1) zT=wq:=by rw[List.getD_eq_getElem?_getD,hwq];rfl
 rw[hgd]
 have hb:=bools_at (N:=s.length+1) (k:=s.length) (g:=wq 0) (by omega)
 have lb:(bools (rowF (s.length+1) (wq 0))).length=s.length+1:=by rw[bools_len,rowF_len]
 have hvq2:=get_some hvq (by omega)
 have q32:=get_some q3 (by omega)
 have htk:Z.take H.length=H:=pre_take hL
 have w:IntKind.i64.wrap ((R.length:Int)-1)=((R.length-1:Nat):Int):=by rw[wrap64 (by omega) (by omega)];omega
 have k1:R.length-1<ws.length:=by omega
 have k2:R.length-1+1≤ws.length:=by omega
 have k3:((R.length-1:Nat):Int)<(ws.length:Int):=by omega
 have k4:R.length-1<vs.length:=by omega
 have hsz:(⟨⟨s⟩⟩:ByteArray).size=s.length:=rfl
 have k5:(s.length:Int)<((s.length+1:Nat):Int):=by omega
 have k6:(s.length:Int)<(s.length:Int)+1:=by omega
 generalize callW X A=C at h10 h35 ⊢
 obtain⟨rr,hrr⟩:∃ra,bools (rowF (s.length+1) (wq 0))=ra:=⟨_,rfl⟩
 rw[hrr]at q4 hb lb
 clear hrr
 have hb2:=get_some hb (by omega)
 obtain⟨res,hres⟩:∃r,wq 0 s.length=r:=⟨_,rfl⟩
 rw[hres]at hb hb2 ⊢
 unfold t12B
 simp[h10,h35,w,k1,k2,k3,hZ,hvl,hvq,hvq2,k4,q1,q2,q3,q32,q4,hsz,lb,hb,hb2,k6,htk]
end
end Go.Proofs.Ytnhennjliinplaa

namespace Go.Proofs.Ytnhennjliinplaa
open Go Go.Hm
def lfM (R:List Nd):Nat→Int→List AV
 | 0,_=>[]
 | f+1,k=>match R[k.toNat]? with
  | none=>[]
  | some x=>if x.kd=2 then x.cs else x.ks.flatMap (lfM R f)
def RxE (R:List Nd):Prop:=∀x∈R,x.kd=1→x.ks=[]
theorem chkR_e {R:List Nd}(h:chkR R=true):RxE R:=fun x hx h1=>by
 obtain⟨_,_,u,hu,_⟩:=chkR_get h
 obtain⟨i,hi⟩:=List.getElem?_of_mem hx
 obtain⟨v,v',hv⟩:=chkL_at R 0 _ u hu i x hi
 obtain⟨h2,_⟩:=chkN_get hv
 unfold arOk at h2
 rw[if_pos (.inl h1)]at h2
 exact List.length_eq_zero_iff.1 (by simpa using h2)
theorem flat_len {g:Int→List AV}{c:Int→Nat}:∀{l:List Int},(∀k∈l,(g k).length=c k*4)→(l.flatMap g).length=(l.map c).sum*4
 | [],_=>rfl
 | k::l,h=>by
  have h1:=h k List.mem_cons_self
  have h2:=flat_len fun k hk=>h k (List.mem_cons_of_mem _ hk)
  rw[List.flatMap_cons,List.length_append,h1,h2]
  simp[Nat.add_mul]
theorem lfM_len {R:List Nd}(hR:RxOk R)(hE:RxE R):∀(f j:Nat),j<f→j<R.length→(lfM R f j).length=lvC R f j*4
 | 0,j,h,_=>absurd h (Nat.not_lt_zero j)
 | f+1,j,h,hj=>by
  have hx:R[j]?=some R[j]:=List.getElem?_eq_getElem hj
  obtain⟨hok,hks,hkd⟩:=hR j R[j] hx
  have hem:=hE R[j] (List.getElem_mem hj)
  simp only[lfM,lvC,Int.toNat_natCast,hx]
  generalize R[j]=x at hok hks hkd hem ⊢
  have hk:∀k∈x.ks,(lfM R f k).length=lvC R f k*4:=fun k hk=>by
   obtain⟨h1,h2⟩:=hks k hk
   obtain⟨q,rfl⟩:=Int.eq_ofNat_of_zero_le h1
   exact lfM_len hR hE f q (by omega) (by omega)
  have hfl:=flat_len (g:=lfM R f) (c:=lvC R f) hk
  by_cases h2:x.kd=2
  ·rw[if_pos h2,if_neg (by omega),if_pos h2,hok.1]
  rw[if_neg h2]
  by_cases h1:x.kd=1
  ·rw[if_pos h1,hem h1];rfl
  rw[if_neg h1,if_neg h2,hfl]
  by_cases h3:x.kd=3
  ·rw[if_pos h3]
   obtain⟨a,l,hl⟩:∃a l,x.ks=a::l:=by
    cases hk:x.ks with
    | nil=>rw[hk]at hkd;simp at hkd;omega
    | cons a l=>exact⟨a,l,rfl⟩
   rw[hl];simp
  rw[if_neg h3]
  by_cases h4:x.kd=4
  ·rw[if_pos h4]
  rw[if_neg h4]
  have h5:x.ks.length=1:=by
   rcases hkd with h | h | h | h
   ·exact absurd h h1
   ·exact absurd h h2
   ·rcases h.1 with h | h
    ·exact absurd h h3
    ·exact absurd h h4
   ·exact h.2
  match hk2:x.ks,h5 with
  | [a],_=>simp
theorem lfM_u {R:List Nd}(hcl:∀x∈R,Cl4 x):∀(f:Nat) (k:Int),∀c∈lfM R f k,∃z,c=U z
 | 0,_=>fun _ h=>nomatch h
 | f+1,k=>by
  simp only[lfM]
  cases hx:R[k.toNat]? with
  | none=>exact fun _ h=>nomatch h
  | some x=>
   dsimp only
   split
   ·intro c hc
    obtain⟨a,b,c',d,e⟩:=hcl x (List.mem_of_getElem? hx)
    rw[e]at hc
    simp at hc
    rcases hc with rfl | rfl | rfl | rfl<;>exact⟨_,rfl⟩
   ·intro c hc
    obtain⟨k,_,hk⟩:=List.mem_flatMap.1 hc
    exact lfM_u hcl f k c hk
def lV (n:Nat)(c:List AV):AV:=if n=0 then .e0 else .sl n c
def loV (L n:Nat):AV:=if n=0 then .e0 else .hs L (n*4) 0 n 4
def loH (H:Heap)(n:Nat)(o:List AV):Heap:=if n=0 then H else H++[.cells o]
def p34:AC:=(.regN [0,1,5,6] [ kM 29 5,kM 30 0,kM 31 0,kM 32 1,kI 33 6 31 32,kF 34 5 33,kL 35 34,kM 36 6,kI 37 1 35 36,kL 38 37,kx 39 (.call 34 [(ux 30),(ux 38)]),kx 40 (.app 4 32 (ux 29) (ux 39)),kM 5 40])
theorem e341:t34L1= .seq (.seq (.regN [0,1,5,6] [kM 19 6,kM 20 0,kM 21 1,kI 22 6 20 21,kF 23 5 22,kL 24 23,kN 25 24,kT 26 19 25]) (.cond (ux 26) .skip (.exit 0))) (.seq (.block 1 p34) (.regN [0,1,5,6] [kM 27 6,kU 28 27,kM 6 28])):=rfl
section
variable {C:Orc}{Q:Ex→Kt}{E:Env}{lk lim i j k n m:Nat}{H:Heap}{cells o c:List AV}{kv:AV}{ks:List Int}
abbrev eL (m:Nat)(cells:List AV)(k:Nat)(v:AV)(j:Nat):Env:=[(0,.sl m cells),(1,I k),(5,v),(6,I j)]
set_option maxRecDepth 20000 in
theorem p34_ok {q:Int}{nc:Nat}(hk:k<m)(g5:cells[k*6+5]?=some (.sl ks.length (ints ks)))(hl:k*6+6≤cells.length)(hj:j<ks.length)(hq:ks[j]?=some q)(hol:o.length=n*4)(hcl:c.length=nc*4)(hb:n+nc≤1000000)(hn0:n=0→o=[])(hlk:lk≤H.length)
  (hC:C lk H.length 34 [.sl m cells,I q] (loH H n o)=some (lV nc c,loH H n o))
  (hE:restrict [0,1,5,6] E=eL m cells k (loV H.length n) j)
  (hQ:∀E',restrict [0,1,5,6] E'=eL m cells k (loV H.length (n+nc)) j→Q .nrm E' (loH H (n+nc) (o++c))):
  WB ⟨C,lk,H.length,[]⟩ p34 Q E (loH H n o):=by
 have hq2:=get_some (ints_at hq) (by rw[ints_len];exact hj)
 have i5:k*6+5<cells.length:=by omega
 have g52:=get_some g5 i5
 have r1:nc*32≤room:=by unfold room;omega
 have r2:(n+nc)*32≤room:=by unfold room;omega
 unfold p34
 rw[wb_regN,hE]
 unfold loV loH lV at *
 by_cases hn:n=0
 ·have ho:=hn0 hn
  subst hn;subst ho
  simp only[if_pos rfl,if_true]at hC ⊢
  simp only[Nat.zero_add,List.nil_append]at hQ
  by_cases hc:nc=0
  ·subst hc
   have hc0:c=[]:=List.length_eq_zero_iff.1 (by omega)
   subst hc0
   rw[if_pos rfl]at hC
   simp only[if_pos rfl,if_true]at hQ
   simp[hk,hl,i5,g5,g52,hj,hq2,hC,srcCells]
   refine hQ _ ?_
   rfl
  ·rw[if_neg hc]at hC
   simp only[if_neg hc]at hQ
   simp[hk,hl,i5,g5,g52,hj,hq2,hC,srcCells,hcl,hc,r1]
   exact hQ _ rfl
 ·simp only[if_neg hn]at hC ⊢
  rw[if_neg (by omega)]at hQ
  simp only[if_neg (show ¬n+nc=0 by omega)]at hQ
  have hnm:(n+nc)*4=n*4+nc*4:=Nat.add_mul _ _ _
  rw[hnm]at hQ
  have hg:(H++[HB.cells o])[H.length]?=some (.cells o):=by simp
  by_cases hc:nc=0
  ·subst hc
   have hc0:c=[]:=List.length_eq_zero_iff.1 (by omega)
   subst hc0
   rw[if_pos rfl]at hC
   have hset:setH lk H.length 0 (H++[HB.cells o]) H.length o []=some (H++[HB.cells o]):=by
    unfold setH
    rw[if_pos ⟨hlk,.inl (Nat.le_refl _),.inl (Nat.zero_le _)⟩,set_last]
   have r3:n*32≤room:=by simpa using r2
   simp[hk,hl,i5,g5,g52,hj,hq2,hC,srcCells,hol,r3,appC,appG,hset]
   refine hQ _ ?_|>fun h=>by simpa using h
   rfl
  ·rw[if_neg hc]at hC
   have hset:setH lk H.length 0 (H++[HB.cells o]) H.length (o++c) c=some (H++[HB.cells (o++c)]):=by
    unfold setH
    rw[if_pos ⟨hlk,.inl (Nat.le_refl _),.inl (Nat.zero_le _)⟩,set_last]
   simp[hk,hl,i5,g5,g52,hj,hq2,hC,srcCells,hol,hcl,r2,appC,appG,hset]
   exact hQ _ rfl
theorem e34B:t34B= .seq (.regN [0,1] [kx 4 (.mv (.con .e0))]) (.seq (.seq (.regN [0,1] [ kM 7 0,kM 8 1,kI 9 6 7 8,kF 10 0 9,kL 11 10,kx 12 (.bini .eql (ux 11) (.con (.val (.int .i64 2))))]) (.cond (ux 12) (.seq (.regN [0,1] [ kM 13 0,kM 14 1,kI 15 6 13 14,kF 16 1 15,kx 17 (.ldA none 4 (ux 16)),kx 18 (.buildS 1 [(.val (.int .u64 0)),(.val (.int .u64 0)),(.val (.int .u64 0)),(.val (.int .u64 0))] [(0,4,(ux 17))]),kM 4 18]) .ret) .skip)) (.seq (.regN [0,1] [kx 5 (.mv (.con .e0))]) (.seq (.seq (.regN [0,1,5] [kZ 6]) (.block 0 (.loop [0,1,5,6] t34L1))) (.seq (.regN [5] [kM 41 5,kM 4 41]) .ret)))):=rfl
theorem loV_cases (L n:Nat):(n=0∧loV L n= .e0)∨(n≠0∧loV L n= .hs L (n*4) 0 n 4):=by
 unfold loV
 by_cases h:n=0
 ·exact .inl ⟨h,if_pos h⟩
 ·exact .inr ⟨h,if_neg h⟩
theorem lvC_kid {R:List Nd}{f j:Nat}{x:Nd}(hR:RxOk R)(hE:RxE R)(hx:R[j]?=some x)(h2:¬x.kd=2):lvC R (f+1) j=(x.ks.map (lvC R f)).sum:=by
 obtain⟨_,_,hkd⟩:=hR j x hx
 have hem:=hE x (List.mem_of_getElem? hx)
 simp only[lvC,Int.toNat_natCast,hx]
 by_cases h1:x.kd=1
 ·rw[if_pos h1,hem h1];rfl
 rw[if_neg h1,if_neg h2]
 by_cases h3:x.kd=3
 ·rw[if_pos h3]
  obtain⟨a,l,hl⟩:∃a l,x.ks=a::l:=by
   cases hk:x.ks with
   | nil=>rw[hk]at hkd;simp at hkd;omega
   | cons a l=>exact⟨a,l,rfl⟩
  rw[hl];simp
 rw[if_neg h3]
 by_cases h4:x.kd=4
 ·rw[if_pos h4]
 rw[if_neg h4]
 have h5:x.ks.length=1:=by
  rcases hkd with h | h | h | h
  ·exact absurd h h1
  ·exact absurd h h2
  ·rcases h.1 with h | h
   ·exact absurd h h3
   ·exact absurd h h4
  ·exact h.2
 match hk2:x.ks,h5 with
 | [a],_=>simp
theorem sum_take_le {l:List Nat}{i:Nat}:(l.take i).sum≤l.sum:=by
 have h:(l.take i++l.drop i).sum=l.sum:=by rw[List.take_append_drop]
 rw[List.sum_append]at h
 omega
set_option maxRecDepth 20000 in
theorem leaves34 {R:List Nd}(hR:RxOk R)(hE:RxE R)(hcl:∀x∈R,Cl4 x)(hRl:R.length≤100000):∀(f j:Nat),j<f→j<R.length→lvC R f j≤1000000→∀(lk lim:Nat) (H:Heap),lk≤H.length→
  callW X A lk lim 34 [.sl R.length (rxC R),I j] H=some (lV (lvC R f j) (lfM R f j),H)
 | 0,j,h,_=>absurd h (Nat.not_lt_zero j)
 | f+1,j,h,hj=>by
  intro hn lk lim H hlk
  have hx:R[j]?=some R[j]:=List.getElem?_eq_getElem hj
  obtain⟨hok,hks,hkd⟩:=hR j R[j] hx
  have hall:∀x∈R,x.cs.length=4:=fun x hx=>by
   obtain⟨i,hi⟩:=List.getElem?_of_mem hx
   exact(hR i x hi).1.1
  obtain⟨h0,h5,h4,hl⟩:=rx_at2 hall hx
  have hlen:=lfM_len hR hE (f+1) j h hj
  have hkid:=lvC_kid (f:=f) hR hE hx
  have hu:=lfM_u hcl (f+1) (j:Int)
  have hM:lfM R (f+1) j=if R[j].kd=2 then R[j].cs else R[j].ks.flatMap (lfM R f):=by
   simp only[lfM,Int.toNat_natCast,hx]
  have h2c:R[j].kd=2→lvC R (f+1) j=1:=fun h2=>by
   simp only[lvC,Int.toNat_natCast,hx]
   rw[if_neg (by omega),if_pos h2]
  have hrec:∀q∈R[j].ks,lvC R f q≤1000000→∀(lim:Nat) (Z:Heap),lk≤Z.length→callW X A lk lim 34 [.sl R.length (rxC R),I q] Z=some (lV (lvC R f q) (lfM R f q),Z)∧(lfM R f q).length=lvC R f q*4:=fun q hq hb lim Z hZ=>by
   obtain⟨h1,h2⟩:=hks q hq
   obtain⟨q,rfl⟩:=Int.eq_ofNat_of_zero_le h1
   exact⟨leaves34 hR hE hcl hRl f q (by omega) (by omega) hb lk lim Z hZ,lfM_len hR hE f q (by omega) (by omega)⟩
  have hX:X lk lim 34 [.sl R.length (rxC R),I j] H=none:=noX1 (by decide) (by decide) (by decide)
  refine wb_callB [] hX A34 rfl rfl ?_
  show WB ⟨callW X A,lk,H.length,[]⟩ t34B _ _ _
  rw[e34B]
  have g0:=get_some h0 (by omega)
  have i0:j*6<(rxC R).length:=by omega
  have i5:j*6+5<(rxC R).length:=by omega
  have i14:j*6+1+4≤(rxC R).length:=by omega
  generalize callW X A=C at hrec ⊢
  generalize hxe:R[j]=x at hok hks hkd h0 h5 h4 hkid hM h2c hrec g0
  obtain⟨kd,cs,ks,kv⟩:=x
  obtain⟨hcs,hkv,hkl⟩:=hok
  dsimp only at hcs hkv hkl hks h0 h5 h4 hkid hM h2c hrec g0
  have hj':(j:Int)<(R.length:Int):=by omega
  by_cases h2:kd=2
  ·-- a class
   rw[if_pos h2]at hM
   rw[hM,h2c h2]
   rw[hM]at hu
   obtain⟨c0,c1',c2,c3,hcs4⟩:∃c0 c1' c2 c3,cs=[c0,c1',c2,c3]:=by
    match cs,hcs with
    | [a,b,c,d],_=>exact⟨a,b,c,d,rfl⟩
   subst hcs4
   have hz:∀c∈[c0,c1',c2,c3],∃z,c=U z:=hu
   obtain⟨z0,rfl⟩:=hz c0 (by simp)
   obtain⟨z1,rfl⟩:=hz c1' (by simp)
   obtain⟨z2,rfl⟩:=hz c2 (by simp)
   obtain⟨z3,rfl⟩:=hz c3 (by simp)
   subst h2
   generalize (.block 0 (.loop [0,1,5,6] t34L1):AC)=LL
   simp[hj,hj',hl,i0,g0,i14,h4,lV,below,belowL]
  ·rw[if_neg h2]at hM
   have hkid:=hkid h2
   have hk2:(kd==2)=false:=by simpa using h2
   generalize hP:FinT [.tmp 4] true H (lV (lvC R (f+1) j) (lfM R (f+1) j),H)=P
   have hloop:∀env,restrict [0,1,5,6] env=[(0,.sl R.length (rxC R)),(1,I j),(5,.e0),(6,I 0)]→WB ⟨C,lk,H.length,[]⟩ (.block 0 (.loop [0,1,5,6] t34L1)) (Fol ⟨C,lk,H.length,[]⟩ (.seq (.regN [5] [kM 41 5,kM 4 41]) .ret) P) env H:=by
    intro env hEe
    refine wb_loop (σ:=Nat) (fun i=>eL R.length (rxC R) j (loV H.length ((ks.take i).map (lvC R f)).sum) i) (fun i=>loH H ((ks.take i).map (lvC R f)).sum ((ks.take i).flatMap (lfM R f))) (fun i=>i≤ks.length) (fun i=>ks.length-i) ?_ 0 (Nat.zero_le _) hEe rfl
    intro i hi
    rw[e341]
    generalize hRn:Rnd _ _ _ _ _ _ _=R2
    by_cases hk:i<ks.length
    case neg=>
     obtain rfl:i=ks.length:=by omega
     rw[List.take_length]
     rw[←hM,←hkid]
     have hx:∀env,restrict [5] env=[(5,loV H.length (lvC R (f+1) j))]→R2 (.exit 0) env (loH H (lvC R (f+1) j) (lfM R (f+1) j)):=fun env hE=>by
      rw[←hRn]
      show WB ⟨C,lk,H.length,[]⟩ (.seq (.regN [5] [kM 41 5,kM 4 41]) .ret) P env (loH H (lvC R (f+1) j) (lfM R (f+1) j))
      rw[wb_seq,wb_regN,hE,←hP]
      have hbe:belowL H.length (lfM R (f+1) j)=true:=belowL_self fun c hc=>by
       obtain⟨z,rfl⟩:=hu c hc;rfl
      have hfz:∀Z,mapO (frz H.length Z 7) (lfM R (f+1) j)=some (lfM R (f+1) j):=fun Z=>mapO_self fun c hc=>by
       obtain⟨z,rfl⟩:=hu c hc;rfl
      have hfzd:∀(d:Nat) Z,mapO (frz H.length Z d) (lfM R (f+1) j)=some (lfM R (f+1) j):=fun d Z=>mapO_self fun c hc=>by
       obtain⟨z,rfl⟩:=hu c hc;cases d<;>rfl
      have htk:(lfM R (f+1) j).take (lvC R (f+1) j*4)=lfM R (f+1) j:=List.take_of_length_le (by omega)
      generalize lfM R (f+1) j=o at hlen hbe hfzd htk ⊢
      generalize lvC R (f+1) j=n at hlen htk ⊢
      unfold loV loH lV
      by_cases h0n:n=0
      ·simp[h0n,FinT,finish,resOf,resList,resOne,find,frz,below]
      ·have hg:(H++[HB.cells o])[H.length]?=some (.cells o):=by simp
       simp[h0n]
       simp[FinT,finish,resOf,resList,resOne,find,frz,slCells,hlen,hfzd,htk,below,belowL,hbe]
     generalize loH H (lvC R (f+1) j) (lfM R (f+1) j)=Z at hx ⊢
     generalize p34=F
     have hkv5:=get_some h5 i5
     rcases loV_cases H.length (lvC R (f+1) j) with⟨_,hv⟩ | ⟨_,hv⟩
     all_goals
      rw[hv]at hx ⊢
      rcases hkv with⟨rfl,rfl⟩ | rfl
      all_goals
       simp[hj,hj',hl,i5,h5,hkv5]
       exact hx _ rfl
    obtain⟨q,hq⟩:=get_of hk
    have hkve:=hkv
    have hkv0:kv= .sl ks.length (ints ks):=RowI.sl hkv (by omega)
    rw[hkv0]at h5
    have hts:ks.take (i+1)=ks.take i++[q]:=by rw[List.take_add_one,hq];rfl
    have hsum:((ks.take (i+1)).map (lvC R f)).sum=((ks.take i).map (lvC R f)).sum+lvC R f q:=by rw[hts];simp
    have hflt:(ks.take (i+1)).flatMap (lfM R f)=(ks.take i).flatMap (lfM R f)++lfM R f q:=by rw[hts];simp
    have hle:((ks.take (i+1)).map (lvC R f)).sum≤lvC R (f+1) j:=by
     rw[hkid,List.map_take]
     exact sum_take_le
    rw[hsum]at hle
    have hflen:((ks.take i).flatMap (lfM R f)).length=((ks.take i).map (lvC R f)).sum*4:=flat_len fun k hk=>(hrec k (List.mem_of_mem_take hk) (by
     have:lvC R f k≤(ks.map (lvC R f)).sum:=le_sumN (List.mem_map_of_mem (List.mem_of_mem_take hk))
     omega) 0 H hlk).2
    have hqm:=List.mem_of_getElem? hq
    have hZl:lk≤(loH H ((ks.take i).map (lvC R f)).sum ((ks.take i).flatMap (lfM R f))).length:=by
     unfold loH;split
     ·exact hlk
     ·rw[List.length_append];omega
    obtain⟨kc,kl⟩:=hrec q hqm (by omega) H.length _ hZl
    have next:∀env,restrict [0,1,5,6] env=eL R.length (rxC R) j (loV H.length (((ks.take i).map (lvC R f)).sum+lvC R f q)) (i+1)→R2 .nrm env (loH H (((ks.take i).map (lvC R f)).sum+lvC R f q) ((ks.take i).flatMap (lfM R f)++lfM R f q)):=fun env h=>by
     rw[←hRn,rnd_nrm]
     exact⟨i+1,hk,by omega,by rw[hsum];exact h,by rw[hsum,hflt]⟩
    generalize ((ks.take i).map (lvC R f)).sum=n at hflen hle hZl kc next ⊢
    generalize (ks.take i).flatMap (lfM R f)=o at hflen hZl kc next ⊢
    have hn0:n=0→o=[]:=fun h=>List.length_eq_zero_iff.1 (by omega)
    have w:IntKind.i64.wrap ((i:Int)+1)=(i:Int)+1:=wrap64 (by omega) (by omega)
    have hb:∀E,restrict [0,1,5,6] E=eL R.length (rxC R) j (loV H.length n) i→WB ⟨C,lk,H.length,[]⟩ (.block 1 p34) (Fol ⟨C,lk,H.length,[]⟩ (.regN [0,1,5,6] [kM 27 6,kU 28 27,kM 6 28]) R2) E (loH H n o):=fun E hEe=>by
     rw[wb_block]
     refine p34_ok hj h5 hl hk hq hflen kl (by omega) hn0 hlk kc hEe fun E' hE'=>?_
     generalize loH H (n+lvC R f q) (o++lfM R f q)=Z at next ⊢
     rw[blk_nrm,fol_nrm,wb_regN,hE']
     rcases loV_cases H.length (n+lvC R f q) with⟨_,hv⟩ | ⟨_,hv⟩
     all_goals
      rw[hv]at next ⊢
      simp[w]
      refine next _ ?_
      rfl
    generalize (.block 1 p34:AC)=F at hb ⊢
    generalize loH H n o=Z at hb ⊢
    have hkv5:=get_some h5 i5
    rcases loV_cases H.length n with⟨_,hv⟩ | ⟨_,hv⟩
    all_goals
     rw[hv]at hb ⊢
     simp[hj,hj',hl,i5,h5,hkv5,hk]
     refine hb _ ?_
     rfl
   generalize (.block 0 (.loop [0,1,5,6] t34L1):AC)=LL at hloop ⊢
   simp[hj,hj',hl,i0,g0,hk2,h2]
   refine hloop _ ?_
   rfl
theorem leaves11 {R:List Nd}{v:AV}{lk lim:Nat}{H:Heap}(hv:(v= .e0∧R=[])∨v= .sl R.length (rxC R))(hch:chkR R=true)(hR:∀x∈R,NdOk x)(hcl:∀x∈R,Cl4 x)(hks:∀x∈R,x.ks.length≤100000)(hlk:lk≤H.length):
  callW X A lk lim 11 [v] H=some (lV (lvC R R.length ((R.length-1:Nat):Int)) (lfM R R.length ((R.length-1:Nat):Int)),H):=by
 obtain⟨r1,r2,_⟩:=chkR_get hch
 obtain rfl:v= .sl R.length (rxC R):=by
  rcases hv with⟨_,h⟩ | h
  ·rw[h]at r1;simp at r1
  ·exact h
 have hok:=chkR_ok hch hR
 have hb:lvC R R.length ((R.length-1:Nat):Int)≤1000000:=by
  have h1:=node_few hok hch s00
  rw[nodeM_len]at h1
  omega
 have hX:X lk lim 11 [.sl R.length (rxC R)] H=none:=noX1 (by decide) (by decide) (by decide)
 refine wb_callB [] hX A11 rfl rfl ?_
 show WB ⟨callW X A,lk,H.length,[]⟩ t11B _ _ _
 have h10:=check10 (lk:=lk) (lim:=H.length) (H:=H) (v:=.sl R.length (rxC R)) (.inr rfl) hR hcl hks hlk
 rw[hch,if_pos rfl]at h10
 have h34:=leaves34 hok (chkR_e hch) hcl (by omega) R.length (R.length-1) (by omega) (by omega) hb lk H.length H hlk
 have hu:=lfM_u hcl R.length ((R.length-1:Nat):Int)
 have hbe:belowL H.length (lfM R R.length ((R.length-1:Nat):Int))=true:=belowL_self fun c hc=>by
  obtain⟨z,rfl⟩:=hu c hc;rfl
 have w:IntKind.i64.wrap ((R.length:Int)-1)=((R.length-1:Nat):Int):=by rw[wrap64 (by omega) (by omega)];omega
 generalize callW X A=C at h10 h34 ⊢
 generalize lfM R R.length ((R.length-1:Nat):Int)=o at h34 hbe ⊢
 generalize lvC R R.length ((R.length-1:Nat):Int)=n at h34 ⊢
 unfold t11B
 unfold lV at h34 ⊢
 by_cases h0:n=0
 ·rw[if_pos h0]at h34 ⊢
  simp[h10,w,h34,below]
 ·rw[if_neg h0]at h34 ⊢
  simp[h10,w,h34,below,hbe]
end
end Go.Proofs.Ytnhennjliinplaa

namespace Go.Proofs.Ytnhennjliinplaa
open Go Go.Hm
inductive Tr (N:Nat)(f:Nat→Nat→Prop):Nat→Nat→Prop
 | one {a b:Nat}:f a b→Tr N f a b
 | step {a c b:Nat}:f a c→c<N→Tr N f c b→Tr N f a b
theorem Tr.trans {N:Nat}{f:Nat→Nat→Prop}{a c b:Nat}(h:Tr N f a c)(hc:c<N)(k:Tr N f c b):Tr N f a b:=by
 induction h with
 | one h=>exact .step h hc k
 | step h h2 _ ih=>exact .step h h2 (ih hc k)
theorem Tr.mono {N:Nat}{f g:Nat→Nat→Prop}(h:∀a b,f a b→g a b){a b:Nat}(k:Tr N f a b):Tr N g a b:=by
 induction k with
 | one k=>exact .one (h _ _ k)
 | step k k2 _ ih=>exact .step (h _ _ k) k2 ih
def Btw (N:Nat)(f g:TT):Prop:=(∀a b,a<N→b<N→f a b=true→g a b=true)∧∀a b,a<N→b<N→g a b=true→Tr N (fun a b=>f a b=true) a b
theorem Btw.refl {N:Nat}{f:TT}:Btw N f f:=⟨fun _ _ _ _ h=>h,fun _ _ _ _ h=>.one h⟩
theorem btw_upd {N:Nat}{f g:TT}{i k n:Nat}(h:Btw N f g)(hi:i<N)(hk:k<N)(hik:g i k=true):Btw N f (updF g i n (g i n||g k n)):=by
 refine⟨fun a b ha hb hf=>?_,fun a b ha hb hg=>?_⟩
 ·unfold updF
  split
  ·rename_i e
   obtain⟨rfl,rfl⟩:=e
   rw[h.1 _ _ ha hb hf];rfl
  ·exact h.1 a b ha hb hf
 ·unfold updF at hg
  split at hg
  ·rename_i e
   obtain⟨rfl,rfl⟩:=e
   simp only[Bool.or_eq_true]at hg
   rcases hg with hg | hg
   ·exact h.2 _ _ ha hb hg
   ·exact(h.2 _ _ hi hk hik).trans hk (h.2 _ _ hk hb hg)
  ·exact h.2 a b ha hb hg
theorem btw_rec {N:Nat}{f g:TT}{i k:Nat}(h:Btw N f g)(hi:i<N)(hk:k<N)(hik:g i k=true):∀n,Btw N f (recU k i g n)
 | 0=>h
 | n+1=>btw_upd (btw_rec h hi hk hik n) hi hk (recU_ik hik n)
theorem recU_mono {i k:Nat}{g:TT}{a b:Nat}(h:g a b=true):∀n,recU k i g n a b=true
 | 0=>h
 | n+1=>by
  have ih:=recU_mono (k:=k) (i:=i) h n
  simp only[recU,updF]
  split
  ·rename_i e
   obtain⟨rfl,rfl⟩:=e
   rw[ih];rfl
  ·exact ih
theorem recU_row {i k:Nat}{g:TT}{b:Nat}(h:g k b=true):∀n,b<n→recU k i g n i b=true
 | 0,h=>absurd h (Nat.not_lt_zero _)
 | n+1,hb=>by
  simp only[recU,updF]
  split
  ·rename_i e
   obtain⟨_,rfl⟩:=e
   rw[recU_mono (k:=k) (i:=i) h b];simp
  ·rename_i e
   exact recU_row h n (by have:b≠n:=fun h=>e (by simp[h]);omega)
theorem upI_mono {N i k:Nat}{g:TT}{a b:Nat}(h:g a b=true):upI N k i g a b=true:=by
 unfold upI
 split
 ·exact recU_mono h N
 ·exact h
theorem agR_mono {N k:Nat}{g:TT}{a b:Nat}(h:g a b=true):∀i,agR N k g i a b=true
 | 0=>h
 | i+1=>upI_mono (agR_mono h i)
theorem btw_agR {N k:Nat}{f g:TT}(h:Btw N f g)(hk:k<N):∀i,i≤N→Btw N f (agR N k g i)
 | 0,_=>h
 | i+1,hi=>by
  have ih:=btw_agR h hk i (by omega)
  show Btw N f (upI N k i (agR N k g i))
  unfold upI
  split
  ·rename_i e
   exact btw_rec ih (by omega) hk e N
  ·exact ih
theorem btw_agM {N:Nat}{f g:TT}(h:Btw N f g):∀k,k≤N→Btw N f (agM N g k)
 | 0,_=>h
 | k+1,hk=>btw_agR (btw_agM h k (by omega)) (by omega) N (Nat.le_refl _)
theorem agR_close {N k:Nat}{g:TT}{a b:Nat}(hb:b<N)(h1:g a k=true)(h2:g k b=true):∀i,a<i→agR N k g i a b=true
 | 0,h=>absurd h (Nat.not_lt_zero _)
 | i+1,h=>by
  by_cases e:a=i
  ·subst e
   show upI N k a (agR N k g a) a b=true
   unfold upI
   rw[if_pos (agR_mono h1 a)]
   exact recU_row (agR_mono h2 a) N hb
  ·exact upI_mono (agR_close hb h1 h2 i (by omega))
inductive Vi (N k:Nat)(f:TT):Nat→Nat→Prop
 | one {a b:Nat}:f a b=true→Vi N k f a b
 | step {a c b:Nat}:c<k→Vi N k f a c→Vi N k f c b→Vi N k f a b
theorem agM_vi {N:Nat}{f:TT}:∀(k:Nat),k≤N→∀{a b:Nat},a<N→b<N→Vi N k f a b→agM N f k a b=true
 | 0,_,a,b,_,_,h=>by
  cases h with
  | one h=>exact h
  | step h _ _=>exact absurd h (Nat.not_lt_zero _)
 | k+1,hk,a,b,ha,hb,h=>by
  -- with place k gone through
  have key:∀{a b:Nat},Vi N (k+1) f a b→a<N→b<N→Vi N k f a b∨(Vi N k f a k∧Vi N k f k b):=fun {a b} h=>by
   induction h with
   | one h=>exact fun _ _=>.inl (.one h)
   | @step a c b hc _ _ ih1 ih2=>
    intro ha hb
    rcases ih1 ha (by omega) with h1 | ⟨h1,h1'⟩<;>rcases ih2 (by omega) hb with h2 | ⟨h2,h2'⟩
    ·by_cases e:c=k
     ·subst e;exact .inr ⟨h1,h2⟩
     ·exact .inl (.step (by omega) h1 h2)
    ·by_cases e:c=k
     ·subst e;exact .inr ⟨h1,h2'⟩
     ·exact .inr ⟨.step (by omega) h1 h2,h2'⟩
    ·by_cases e:c=k
     ·subst e;exact .inr ⟨h1,h2⟩
     ·exact .inr ⟨h1,.step (by omega) h1' h2⟩
    ·exact .inr ⟨h1,h2'⟩
  rcases key h ha hb with h | ⟨h1,h2⟩
  ·exact agR_mono (agM_vi k (by omega) ha hb h) N
  ·exact agR_close hb (agM_vi k (by omega) ha (by omega) h1) (agM_vi k (by omega) (by omega) hb h2) N ha
theorem tr_vi {N:Nat}{f:TT}{a b:Nat}(h:Tr N (fun a b=>f a b=true) a b):Vi N N f a b:=by
 induction h with
 | one h=>exact .one h
 | step h h2 _ ih=>exact .step h2 (.one h) ih
theorem agM_iff {N:Nat}{f:TT}{a b:Nat}(ha:a<N)(hb:b<N):agM N f N a b=true↔Tr N (fun a b=>f a b=true) a b:=
 ⟨fun h=>(btw_agM Btw.refl N (Nat.le_refl _)).2 a b ha hb h,fun h=>agM_vi N (Nat.le_refl _) ha hb (tr_vi h)⟩
end Go.Proofs.Ytnhennjliinplaa

namespace Go.Proofs.Ytnhennjliinplaa
open Go Go.Hm
def ed (S:Bs)(p q:Int):Prop:=q∈S.nx.getD p.toNat []
def lab (S:Bs)(s:List UInt8)(q:Int)(a:Nat):Prop:=hasC ((S.cl.drop (q.toNat*4)).take 4) (s.getD a 0).toNat=true
inductive Pa (s:List UInt8)(S:Bs)(F:Int→Prop):Int→Nat→Nat→Prop
 | nil {q:Int} {a:Nat}:F q→Pa s S F q a a
 | cons {q z:Int} {a b:Nat}:ed S q z→a<s.length→lab S s z a→Pa s S F z (a+1) b→Pa s S F q a b
def Rg (m n:Nat)(q:Int):Prop:=(m:Int)≤q∧q<(n:Int)
def Cls (S:Bs)(m n:Nat):Prop:=∀q z,Rg m n q→ed S q z→Rg m n z
def Alk (s:List UInt8)(S S':Bs)(m n:Nat):Prop:=∀q,Rg m n q→(∀z,ed S q z↔ed S' q z)∧∀a,lab S s q a↔lab S' s q a
section
variable {s:List UInt8}{S S':Bs}{F F':Int→Prop}{m n:Nat}{q:Int}{a b:Nat}
theorem Alk.symm (h:Alk s S S' m n):Alk s S' S m n:=fun q hq=>⟨fun z=>((h q hq).1 z).symm,fun a=>((h q hq).2 a).symm⟩
theorem Alk.sub {m' n':Nat}(h:Alk s S S' m n)(h1:m≤m')(h2:n'≤n):Alk s S S' m' n':=fun q hq=>h q ⟨by have:=hq.1;omega,by have:=hq.2;omega⟩
theorem Cls.alk (h:Cls S m n)(k:Alk s S S' m n):Cls S' m n:=fun q z hq hz=>h q z hq (((k q hq).1 z).2 hz)
theorem Pa.to (h:Pa s S F q a b)(hc:Cls S m n)(k:Alk s S S' m n)(hF:∀q,Rg m n q→F q→F' q):Rg m n q→Pa s S' F' q a b:=by
 induction h with
 | nil h=>exact fun hq=>.nil (hF _ hq h)
 | cons h1 h2 h3 _ ih=>
  intro hq
  have hz:=hc _ _ hq h1
  exact .cons (((k _ hq).1 _).1 h1) h2 (((k _ hz).2 _).1 h3) (ih hz)
theorem Pa.iff (hc:Cls S m n)(k:Alk s S S' m n)(hF:∀q,Rg m n q→(F q↔F' q))(hq:Rg m n q):Pa s S F q a b↔Pa s S' F' q a b:=
 ⟨fun h=>h.to hc k (fun q hq=>(hF q hq).1) hq,fun h=>h.to (hc.alk k) k.symm (fun q hq=>(hF q hq).2) hq⟩
theorem Pa.le (h:Pa s S F q a b):a≤b∧(a≤s.length→b≤s.length):=by
 induction h with
 | nil _=>exact⟨Nat.le_refl _,id⟩
 | cons _ h2 _ _ ih=>exact⟨by omega,fun _=>ih.2 (by omega)⟩
theorem Pa.no (h:Pa s S F q a b)(hc:Cls S m n)(hF:∀q,Rg m n q→¬F q):Rg m n q→False:=by
 induction h with
 | nil h=>exact fun hq=>hF _ hq h
 | cons h1 _ _ _ ih=>exact fun hq=>ih (hc _ _ hq h1)
end
def Fi (s:List UInt8)(S:Bs)(fi la:List Int)(a b:Nat):Prop:=∃q∈fi,a<s.length∧lab S s q a∧Pa s S (·∈la) q (a+1) b
theorem Fi.lt {s:List UInt8}{S:Bs}{fi la:List Int}{a b:Nat}(h:Fi s S fi la a b):a<b∧b≤s.length:=by
 obtain⟨q,_,h1,_,h2⟩:=h
 have:=h2.le
 omega
theorem Fi.iff {s:List UInt8}{S S':Bs}{fi la la':List Int}{m n a b:Nat}(hc:Cls S m n)(k:Alk s S S' m n)(hfi:∀q∈fi,Rg m n q)(hF:∀q,Rg m n q→(q∈la↔q∈la')):Fi s S fi la a b↔Fi s S' fi la' a b:=by
 constructor
 ·rintro⟨q,h1,h2,h3,h4⟩
  exact⟨q,h1,h2,((k q (hfi q h1)).2 a).1 h3,(Pa.iff hc k hF (hfi q h1)).1 h4⟩
 ·rintro⟨q,h1,h2,h3,h4⟩
  exact⟨q,h1,h2,((k q (hfi q h1)).2 a).2 h3,(Pa.iff hc k hF (hfi q h1)).2 h4⟩
theorem Fi.or {s:List UInt8}{S:Bs}{f1 f2 la:List Int}{a b:Nat}:Fi s S (unI f1 f2) la a b↔Fi s S f1 la a b∨Fi s S f2 la a b:=by
 constructor
 ·rintro⟨q,h1,h⟩
  rcases mem_unI.1 h1 with h1 | h1
  ·exact .inl ⟨q,h1,h⟩
  ·exact .inr ⟨q,h1,h⟩
 ·rintro (⟨q,h1,h⟩ | ⟨q,h1,h⟩)
  ·exact⟨q,mem_unI.2 (.inl h1),h⟩
  ·exact⟨q,mem_unI.2 (.inr h1),h⟩
theorem ed_join {S:Bs}{l v:List Int}{p q:Int}(hp:p.toNat<S.nx.length)(hp0:0≤p):ed (S.join l v) p q↔ed S p q∨(p∈l∧q∈v):=by
 unfold ed Bs.join
 dsimp only
 rw[joinM_get hp,Int.toNat_of_nonneg hp0]
 split
 ·rename_i h
  rw[mem_unI]
  exact⟨fun h2=>h2.imp id fun h2=>⟨h,h2⟩,fun h2=>h2.imp id And.right⟩
 ·rename_i h
  exact⟨.inl,fun h2=>h2.elim id fun h2=>absurd h2.1 h⟩
structure Sem (s:List UInt8)(m:Nat)(S:Bs)(P:Pl)(T:TT):Prop where
 cls:Cls S m S.rl.length
 fi:∀q∈P.fi,Rg m S.rl.length q
 la:∀q∈P.la,Rg m S.rl.length q
 t:∀a b,a<s.length+1→b<s.length+1→(T a b=true↔(P.em=true∧a=b)∨Fi s S P.fi P.la a b)
structure Frm (S0 S:Bs):Prop where
 w:WfB S
 cl:∃c,S.cl=S0.cl++c
 rl:∃k,S.rl=S0.rl++List.replicate k (-1)
 nx:∀j,j<S0.nx.length→S.nx.getD j []=S0.nx.getD j []
theorem Frm.len {S0 S:Bs}(h:Frm S0 S):S0.rl.length≤S.rl.length:=by
 obtain⟨k,hk⟩:=h.rl
 rw[hk,List.length_append];omega
theorem Frm.refl {S:Bs}(h:WfB S):Frm S S:=⟨h,⟨[],by simp⟩,⟨0,by simp⟩,fun _ _=>rfl⟩
theorem Frm.trans {S0 S1 S2:Bs}(h0:WfB S0)(h:Frm S0 S1)(k:Frm S1 S2):Frm S0 S2:=by
 obtain⟨c,hc⟩:=h.cl
 obtain⟨c',hc'⟩:=k.cl
 obtain⟨n,hn⟩:=h.rl
 obtain⟨n',hn'⟩:=k.rl
 refine⟨k.w,⟨c++c',by rw[hc',hc,List.append_assoc]⟩,⟨n+n',by rw[hn',hn,List.append_assoc,←List.replicate_append_replicate]⟩,fun j hj=>?_⟩
 have hl:=h.len
 rw[k.nx j (by rw[h.w.2,];rw[h0.2]at hj;omega),h.nx j hj]
theorem Frm.alk {s:List UInt8}{S0 S:Bs}(h0:WfB S0)(h:Frm S0 S):Alk s S0 S 0 S0.rl.length:=fun q hq=>by
 obtain⟨hq0,hq1⟩:=hq
 obtain⟨c,hc⟩:=h.cl
 constructor
 ·intro z
  unfold ed
  rw[h.nx q.toNat (by rw[h0.2];omega)]
 ·intro a
  unfold lab
  have hl:=h0.1
  rw[hc,List.drop_append_of_le_length (by omega),List.take_append_of_le_length (by rw[List.length_drop];omega)]
theorem frm_join {S0 S:Bs}(h:Frm S0 S)(h0:WfB S0){l v:List Int}(hl:∀q∈l,(S0.rl.length:Int)≤q):Frm S0 (S.join l v):=by
 refine⟨join_wf h.w _ _,h.cl,h.rl,fun j hj=>?_⟩
 have hlen:=h.len
 show (joinM S.nx l v).getD j []=_
 rw[joinM_get (by rw[h.w.2];rw[h0.2]at hj;omega),if_neg (fun hm=>by have:=hl _ hm;rw[h0.2]at hj;omega),h.nx j hj]
end Go.Proofs.Ytnhennjliinplaa
