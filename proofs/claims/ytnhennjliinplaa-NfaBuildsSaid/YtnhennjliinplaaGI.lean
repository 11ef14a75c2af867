/- LightRegex, the document's regex.Check: walked. -/
import Derived.Test.YtnhennjliinplaaGH
set_option linter.all false
namespace Go.Proofs.Ytnhennjliinplaa
open Go Go.Hm
def smK (i:Nat)(R:List Nd):Nat:=((R.take i).map fun x=>x.ks.length).sum
def lightX (m:Nat)(R:List Nd):Bool:=decide (R.length≤m)&&decide (smK (m+1) R≤2*m)
theorem smK_step {i:Nat}{R:List Nd}{x:Nd}(h:R[i]?=some x):smK (i+1) R=smK i R+x.ks.length:=by
 unfold smK
 rw[List.take_add_one,h];simp
theorem smK_le {B:Nat}:∀{R:List Nd},(∀x∈R,x.ks.length≤B)→(R.map fun x=>x.ks.length).sum≤R.length*B
 | [],_=>by simp
 | l::nx,h=>by
  have h1:=smK_le (B:=B) (R:=nx) fun l hl=>h l (List.mem_cons_of_mem _ hl)
  have h2:=h l List.mem_cons_self
  simp only[List.map_cons,List.sum_cons,List.length_cons,Nat.add_mul]
  omega
structure RxI (v:AV)(R:List Nd):Prop where
 v:(v= .e0∧R=[])∨v= .sl R.length (rxC R)
 c:∀x∈R,x.cs.length=4∧RowI x.kv x.ks
 b:∀x∈R,x.ks.length≤1000000000000000
 u:∀x∈R,Cl4 x
theorem rx_at2 {R:List Nd}{i:Nat}{x:Nd}(hR:∀x∈R,x.cs.length=4)(h:R[i]?=some x):(rxC R)[i*6]?=some (I x.kd)∧(rxC R)[i*6+5]?=some x.kv∧((rxC R).drop (i*6+1)).take 4=x.cs∧i*6+6≤(rxC R).length:=by
 have hm:∀y∈R.map (fun y=>(⟨y.kd,y.cs,[],.e0⟩:Nd)),NdOk y:=fun y hy=>by
  obtain⟨z,hz,rfl⟩:=List.mem_map.1 hy
  exact⟨hR z hz,.inl ⟨rfl,rfl⟩,Nat.zero_le _⟩
 have hl:∀R:List Nd,(∀x∈R,x.cs.length=4)→(rxC R).length=R.length*6:=fun R=>by
  induction R with
  | nil=>intro _;rfl
  | cons y R ih=>
   intro hR
   have h1:=hR y List.mem_cons_self
   show (ndC y++rxC R).length=_
   rw[List.length_append,ih fun z hz=>hR z (List.mem_cons_of_mem _ hz),List.length_cons]
   simp[ndC,h1];omega
 have hd:∀(R:List Nd) (i:Nat) (x:Nd),(∀x∈R,x.cs.length=4)→R[i]?=some x→((rxC R).drop (i*6)).take 6=ndC x:=fun R=>by
  induction R with
  | nil=>intro i x _ h;cases h
  | cons y R ih=>
   intro i x hR h
   have h1:=hR y List.mem_cons_self
   have hy:(ndC y).length=6:=by simp[ndC,h1]
   cases i with
   | zero=>
    simp at h;subst h
    show ((ndC y++rxC R).drop (0*6)).take 6=_
    rw[Nat.zero_mul,List.drop_zero,List.take_append_of_le_length (by omega),List.take_of_length_le (by omega)]
   | succ i=>
    have h2:=ih i x (fun z hz=>hR z (List.mem_cons_of_mem _ hz)) (by simpa using h)
    show ((ndC y++rxC R).drop ((i+1)*6)).take 6=_
    rw[List.drop_append,List.drop_of_length_le (by omega),List.nil_append,show (i+1)*6-(ndC y).length=i*6 from by omega]
    exact h2
 have h1:=hd R i x hR h
 have hc:=hR x (List.mem_of_getElem? h)
 have h2:i*6+6≤(rxC R).length:=by
  rw[hl R hR]
  have:=get_lt h
  omega
 have hg:∀j,j<6→(rxC R)[i*6+j]?=(ndC x)[j]?:=fun j hj=>by
  rw[←h1,List.getElem?_take,if_pos hj,List.getElem?_drop]
 refine⟨by rw[←Nat.add_zero (i*6),hg 0 (by omega)];rfl,?_,?_,h2⟩
 ·rw[hg 5 (by omega)]
  unfold ndC
  rw[List.getElem?_cons_succ,List.getElem?_append_right (by omega),hc];rfl
 ·have:(rxC R).drop (i*6+1)=((rxC R).drop (i*6)).drop 1:=by rw[List.drop_drop]
  have h3:(((rxC R).drop (i*6)).drop 1).take 4=((((rxC R).drop (i*6)).take 6).drop 1).take 4:=by
   rw[List.drop_take,List.take_take];rfl
  rw[this,h3,h1]
  unfold ndC
  rw[List.drop_one,List.tail_cons,List.take_append_of_le_length (by omega),List.take_of_length_le (by omega)]
section
variable {C:Orc}{Q:Ex→Kt}{E:Env}{lk lim m:Nat}{H:Heap}{R:List Nd}{v:AV}
set_option maxRecDepth 20000 in
theorem light9 (hv:RxI v R)(hm:m≤1000):callW X A lk lim 9 [v,I m] H=some (Bo (lightX m R),H):=by
 have hX:X lk lim 9 [v,I m] H=none:=noX1 (by decide) (by decide) (by decide)
 refine wb_callB [] hX A9 rfl (by rcases hv.v with⟨rfl,_⟩ | rfl<;>rfl) ?_
 show WB ⟨callW X A,lk,H.length,[]⟩ t9B _ _ _
 generalize callW X A=C
 generalize hP:FinT [.tmp 4] true H (Bo (lightX m R),H)=P
 have fin:∀env t,find env 4=Bo t→lightX m R=t→P .ret env H:=fun env t h h2=>by
  rw[←hP,h2]
  simp[FinT,finish,resOf,resList,resOne,h,frz,below]
 clear hP
 have h2m:IntKind.i64.wrap (2*(m:Int))=2*(m:Int):=wrap64 (by omega) (by omega)
 have hend:∀i env,(i=R.length∨i=m+1)→i≤R.length→i≤m+1→restrict [0,1,5] env=[(0,v),(1,I m),(5,I (smK i R:Nat))]→WB ⟨C,lk,H.length,[]⟩ (.seq (.regN [0,1,5] [ kM 26 0,kN 27 26,kM 28 1,kx 29 (.bini .leq (ux 27) (ux 28)),kM 30 29,yM 31 30 5,yM 32 30 1,ky 33 30 (.bini .mul (.con (.val (.int .i64 2))) (ux 32)),ky 34 30 (.bini .leq (ux 31) (ux 33)),kx 35 (.pick (ux 30) (ux 34) cF),kM 4 35]) .ret) P env H:=by
  intro i env h h0 h01 hE
  have hs:smK i R=smK (m+1) R:=by
   unfold smK
   rcases h with h | h
   ·rw[List.take_of_length_le (by omega),List.take_of_length_le (by omega)]
   ·rw[h]
  rw[hs]at hE
  rw[wb_seq,wb_regN,hE]
  unfold lightX at fin
  generalize smK (m+1) R=t at fin
  by_cases h1:R.length≤m
  ·by_cases h2:t≤2*m
   ·have h3:(t:Int)≤2*(m:Int):=by omega
    rcases hv.v with⟨rfl,rfl⟩ | rfl
    ·have h0m:(0:Int)≤(m:Int):=by omega
     simp[h0m,h2m,h3]
     exact fin _ _ rfl (by simp[h2])
    ·simp[h1,h2m,h3]
     exact fin _ _ rfl (by simp[h1,h2])
   ·have h3:¬(t:Int)≤2*(m:Int):=by omega
    rcases hv.v with⟨rfl,rfl⟩ | rfl
    ·have h0m:(0:Int)≤(m:Int):=by omega
     simp[h0m,h2m,h3]
     exact fin _ _ rfl (by simp[h2])
    ·simp[h1,h2m,h3]
     exact fin _ _ rfl (by simp[h1,h2])
  ·rcases hv.v with⟨rfl,rfl⟩ | rfl
   ·simp at h1
   ·simp[h1]
    exact fin _ _ rfl (by simp[h1])
 have hloop:∀env,restrict [0,1,5,6] env=[(0,v),(1,I m),(5,I 0),(6,I 0)]→WB ⟨C,lk,H.length,[]⟩ (.block 0 (.loop [0,1,5,6] t9L1)) (Fol ⟨C,lk,H.length,[]⟩ (.seq (.regN [0,1,5] [ kM 26 0,kN 27 26,kM 28 1,kx 29 (.bini .leq (ux 27) (ux 28)),kM 30 29,yM 31 30 5,yM 32 30 1,ky 33 30 (.bini .mul (.con (.val (.int .i64 2))) (ux 32)),ky 34 30 (.bini .leq (ux 31) (ux 33)),kx 35 (.pick (ux 30) (ux 34) cF),kM 4 35]) .ret) P) env H:=by
  intro env hE
  refine wb_loop (σ:=Nat) (fun i=>[(0,v),(1,I m),(5,I (smK i R:Nat)),(6,I i)]) (fun _=>H) (fun i=>i≤R.length∧i≤m+1) (fun i=>R.length-i) ?_ 0 ⟨Nat.zero_le _,Nat.zero_le _⟩ hE rfl
  rintro i ⟨hi,hi2⟩
  have hend:=hend i
  generalize (.seq (.regN [0,1,5] [ kM 26 0,kN 27 26,kM 28 1,kx 29 (.bini .leq (ux 27) (ux 28)),kM 30 29,yM 31 30 5,yM 32 30 1,ky 33 30 (.bini .mul (.con (.val (.int .i64 2))) (ux 32)),ky 34 30 (.bini .leq (ux 31) (ux 33)),kx 35 (.pick (ux 30) (ux 34) cF),kM 4 35]) .ret:AC)=TT at hend ⊢
  unfold t9L1
  generalize hP:Rnd _ _ _ _ _ _ _=P2
  have hx:(i=R.length∨i=m+1)→∀env,restrict [0,1,5] env=[(0,v),(1,I m),(5,I (smK i R:Nat))]→P2 (.exit 0) env H:=fun h env hE=>by
   rw[←hP]
   exact hend env h hi hi2 hE
  by_cases hk:i<R.length
  case neg=>
   have hx:=hx (.inl (by omega))
   rcases hv.v with⟨rfl,rfl⟩ | rfl
   ·have hi0:i=0:=by simpa using hi
    subst hi0
    simp
    exact hx _ rfl
   ·have h9:¬((i:Int)<(R.length:Int)):=by omega
    simp[h9,hk]
    exact hx _ rfl
  obtain⟨x,hxr⟩:=get_of hk
  have hv0:v= .sl R.length (rxC R):=by
   rcases hv.v with⟨_,h⟩ | h
   ·rw[h]at hk;simp at hk
   ·exact h
  obtain⟨_,hkv,_,hl6⟩:=rx_at2 (fun x hx=>(hv.c x hx).1) hxr
  have hkr:=(hv.c x (List.mem_of_getElem? hxr)).2
  have hkb:=hv.b x (List.mem_of_getElem? hxr)
  have hst:=smK_step hxr
  have hsb:smK (i+1) R≤(R.take (i+1)).length*1000000000000000:=smK_le fun y hy=>hv.b y (List.mem_of_mem_take hy)
  have hln:(R.take (i+1)).length≤i+1:=by rw[List.length_take];omega
  have hsb2:=Nat.mul_le_mul_right 1000000000000000 hln
  by_cases hm1:i≤m
  case neg=>
   have hx:=hx (.inr (by omega))
   rw[hv0]at hx ⊢
   have h0:¬((i:Int)≤(m:Int)):=by omega
   simp[hk,h0,hm1]
   exact hx _ rfl
  have hsb3:(i+1)*1000000000000000≤1001*1000000000000000:=Nat.mul_le_mul_right _ (by omega)
  have next:∀env,restrict [0,1,5,6] env=[(0,v),(1,I m),(5,I (smK (i+1) R:Nat)),(6,I ((i+1:Nat):Int))]→P2 .nrm env H:=fun env h=>by
   rw[←hP,rnd_nrm]
   exact⟨i+1,⟨hk,by omega⟩,by omega,h,rfl⟩
  rw[hv0]at next ⊢
  clear hx hP hend
  obtain⟨s1,hs1⟩:∃s1,smK (i+1) R=s1:=⟨_,rfl⟩
  rw[hs1]at hst hsb next
  generalize smK i R=s0 at hst
  have w:IntKind.i64.wrap ((i:Int)+1)=(i:Int)+1:=wrap64 (by omega) (by omega)
  have w2:IntKind.i64.wrap ((s0:Int)+(x.ks.length:Int))=(s1:Int):=by rw[wrap64 (by omega) (by omega)];omega
  have h6:i*6+5<(rxC R).length:=by omega
  have hkv2:=get_some hkv h6
  clear hkv
  obtain⟨kd,cs,ks,kv⟩:=x
  dsimp only at hkv2 hkr w2 hkb
  rcases hkr with⟨rfl,rfl⟩ | rfl
  ·have w3:IntKind.i64.wrap (s0:Int)=(s1:Int):=by simpa using w2
   simp[hk,hm1,hkv2,hl6,h6,w,w2,w3]
   exact next _ rfl
  ·simp[hk,hm1,hkv2,hl6,h6,w,w2]
   exact next _ rfl
 unfold t9B
 generalize (.block 0 (.loop [0,1,5,6] t9L1):AC)=LL at hloop ⊢
 generalize (.seq (.regN [0,1,5] [ kM 26 0,kN 27 26,kM 28 1,kx 29 (.bini .leq (ux 27) (ux 28)),kM 30 29,yM 31 30 5,yM 32 30 1,ky 33 30 (.bini .mul (.con (.val (.int .i64 2))) (ux 32)),ky 34 30 (.bini .leq (ux 31) (ux 33)),kx 35 (.pick (ux 30) (ux 34) cF),kM 4 35]) .ret:AC)=TT at hloop ⊢
 rcases hv.v with⟨rfl,_⟩ | rfl
 ·simp
  exact hloop _ rfl
 ·simp
  exact hloop _ rfl
structure RsI (v:AV)(vs:List AV)(Ls:List (List Nd)):Prop where
 v:(v= .e0∧Ls=[])∨v= .sl Ls.length vs
 r:∀(j:Nat) R,Ls[j]?=some R→∃v,vs[j]?=some v∧RxI v R
end
end Go.Proofs.Ytnhennjliinplaa

namespace Go.Proofs.Ytnhennjliinplaa
open Go Go.Hm
def paV (kd:Int):Int×Int:=if kd=1∨kd=2 then (0,0) else if kd=3∨kd=4 then (2,512) else if kd=5∨kd=6∨kd=7 then (1,1) else (-1,-1)
def badM (lo hi kd:Int)(n:Nat)(zb:Bool):Bool:=decide (lo<0)||(decide ((n:Int)<lo)||(decide (hi<(n:Int))||(decide (kd≠2)&&!zb)))
theorem badM_iff (kd:Int)(n:Nat)(zb:Bool):badM (paV kd).1 (paV kd).2 kd n zb=false↔(arOk kd n=true∧(kd=2∨zb=true)):=by
 have h:arOk kd n=true↔¬((paV kd).1<0∨(n:Int)<(paV kd).1∨(paV kd).2<(n:Int)):=by
  unfold arOk paV
  split
  ·simp<;>omega
  ·split
   ·simp<;>omega
   ·split
    ·simp<;>omega
    ·simp
 rw[h]
 unfold badM
 cases zb<;>by_cases h2:kd=2<;>simp[h2]<;>omega
section
variable {lk lim:Nat}{H:Heap}
theorem pa33 (kd:Int):callW X A lk lim 33 [I kd] H=some (.tup [I (paV kd).1,I (paV kd).2],H):=by
 have hX:X lk lim 33 [I kd] H=none:=noX1 (by decide) (by decide) (by decide)
 refine wb_callB [] hX A33 rfl rfl ?_
 unfold t33B
 by_cases h:kd=1∨kd=2∨kd=3∨kd=4∨kd=5∨kd=6∨kd=7
 ·rcases h with rfl | rfl | rfl | rfl | rfl | rfl | rfl<;>simp[paV]
 ·simp only[not_or]at h
  obtain⟨h1,h2,h3,h4,h5,h6,h7⟩:=h
  simp[paV,h1,h2,h3,h4,h5,h6,h7]
end
def b10:AC:=(.regN [0,3,4] [ kM 28 0,kM 29 4,kI 30 6 28 29,kF 31 0 30,kL 32 31,kC 33 33 32,kM 27 33,kE 34 27 0,kE 35 27 1,kM 5 34,kM 6 35])
def a10:AC:=(.regN [0,3,4,5,6] [ kM 36 5,kx 37 (.bini .lss (ux 36) c0),kM 38 37,zM 39 38 0,zM 40 38 4,zI 41 38 6 39 40,zF 42 38 5 41,zL 43 38 42,zN 44 38 43,zM 45 38 5,kz 46 38 (.bini .lss (ux 44) (ux 45)),kO 47 38 46,kM 48 47,zM 49 48 0,zM 50 48 4,zI 51 48 6 49 50,zF 52 48 5 51,zL 53 48 52,zN 54 48 53,zM 55 48 6,kz 56 48 (.bini .gtr (ux 54) (ux 55)),kO 57 48 56,kM 58 57,zM 59 58 0,zM 60 58 4,zI 61 58 6 59 60,zF 62 58 0 61,zL 63 58 62,kz 64 58 (.bini .neq (ux 63) (.con (.val (.int .i64 2)))),zM 65 58 64,yM 66 65 0,yM 67 65 4,yI 68 65 6 66 67,yF 69 65 1 68,ky 70 65 (.ldA none 4 (ux 69)),ky 71 65 (.build [(.val (.int .u64 0)),(.val (.int .u64 0)),(.val (.int .u64 0)),(.val (.int .u64 0))] []),ky 72 65 (.eqa true [1,1,1,1] (ux 70) (ux 71)),kz 73 58 (.pick (ux 65) (ux 72) cF),kO 74 58 73])
section
variable {C:Orc}{Q:Ex→Kt}{E:Env}{lk lim i n:Nat}{H:Heap}{R:List Nd}{x:Nd}{sv:AV}{u:List Int}
set_option maxRecDepth 20000 in
theorem a10_ok {lo hi:Int}{zb:Bool}{Z:Heap}(hc:∀x∈R,x.cs.length=4)(hx:R[i]?=some x)(hkv:RowI x.kv x.ks)(hz:eqCells [1,1,1,1] x.cs [AV.val (Value.int IntKind.u64 0),AV.val (Value.int IntKind.u64 0),AV.val (Value.int IntKind.u64 0),AV.val (Value.int IntKind.u64 0)]=some zb)(hsv:noRp 0 [(3,sv)]=true)
  (hE:restrict [0,3,4,5,6] E=[(0,.sl R.length (rxC R)),(3,sv),(4,I i),(5,I lo),(6,I hi)])
  (hQ:∀E',find E' 74=Bo (badM lo hi x.kd x.ks.length zb)→restrict [0,3,4] E'=[(0,.sl R.length (rxC R)),(3,sv),(4,I i)]→Q .nrm E' Z):
  WB ⟨C,lk,lim,[]⟩ a10 Q E Z:=by
 obtain⟨h0,h5,h4,hl⟩:=rx_at2 hc hx
 have hil:=get_lt hx
 have g0:=get_some h0 (by omega)
 have g5:=get_some h5 (by omega)
 have i0:i*6<(rxC R).length:=by omega
 have i5:i*6+5<(rxC R).length:=by omega
 have i14:i*6+1+4≤(rxC R).length:=by omega
 clear h0 h5
 obtain⟨kd,cs,ks,kv⟩:=x
 dsimp only at *
 unfold badM at hQ
 unfold a10
 rw[wb_regN,hE]
 by_cases c1:lo<0
 ·iterate 39 (rw[wr_cons];simp[-wr_cons,-wr_nil,c1,hil])
  rw[wr_nil]
  exact hQ _ (by simp[c1,find]) rfl
 by_cases c2:(ks.length:Int)<lo
 ·rcases hkv with⟨rfl,rfl⟩ | rfl
  ·have c2':(0:Int)<lo:=c2
   iterate 39 (rw[wr_cons];simp[-wr_cons,-wr_nil,c1,c2',hil,g5,hl,i5])
   rw[wr_nil]
   exact hQ _ (by simp[c2',find]) rfl
  ·iterate 39 (rw[wr_cons];simp[-wr_cons,-wr_nil,c1,c2,hil,g5,hl,i5])
   rw[wr_nil]
   exact hQ _ (by simp[c2,find]) rfl
 by_cases c3:hi<(ks.length:Int)
 ·rcases hkv with⟨rfl,rfl⟩ | rfl
  ·have c2':¬(0:Int)<lo:=c2
   have c3':hi<(0:Int):=c3
   iterate 39 (rw[wr_cons];simp[-wr_cons,-wr_nil,c1,c2',c3',hil,g5,hl,i5])
   rw[wr_nil]
   exact hQ _ (by simp[c3',find]) rfl
  ·iterate 39 (rw[wr_cons];simp[-wr_cons,-wr_nil,c1,c2,c3,hil,g5,hl,i5])
   rw[wr_nil]
   exact hQ _ (by simp[c3,find]) rfl
 rw[decide_eq_false c1,decide_eq_false c2,decide_eq_false c3,Bool.false_or,Bool.false_or,Bool.false_or]at hQ
 by_cases c4:kd=2
 ·rw[decide_eq_false (by simpa using c4),Bool.false_and]at hQ
  subst c4
  rcases hkv with⟨rfl,rfl⟩ | rfl
  ·have c2':¬(0:Int)<lo:=c2
   have c3':¬hi<(0:Int):=c3
   iterate 39 (rw[wr_cons];simp[-wr_cons,-wr_nil,c1,c2',c3',hil,g0,g5,hl,i0,i5])
   rw[wr_nil]
   exact hQ _ rfl rfl
  ·iterate 39 (rw[wr_cons];simp[-wr_cons,-wr_nil,c1,c2,c3,hil,g0,g5,hl,i0,i5])
   rw[wr_nil]
   exact hQ _ rfl rfl
 ·rw[decide_eq_true c4,Bool.true_and]at hQ
  have c4':(kd != 2)=true:=by simpa using c4
  rcases hkv with⟨rfl,rfl⟩ | rfl
  ·have c2':¬(0:Int)<lo:=c2
   have c3':¬hi<(0:Int):=c3
   iterate 39 (rw[wr_cons];simp[-wr_cons,-wr_nil,c1,c2',c3',c4',hil,g0,g5,h4,hl,i0,i5,i14,hz])
   rw[wr_nil]
   exact hQ _ rfl rfl
  ·iterate 39 (rw[wr_cons];simp[-wr_cons,-wr_nil,c1,c2,c3,c4',hil,g0,g5,h4,hl,i0,i5,i14,hz])
   rw[wr_nil]
   exact hQ _ rfl rfl
set_option maxRecDepth 20000 in
theorem b10_ok {Z:Heap}{lo hi:Int}(hc:∀x∈R,x.cs.length=4)(hx:R[i]?=some x)(hC:C lk lim 33 [I x.kd] Z=some (.tup [I lo,I hi],Z))(hsv:noRp 0 [(3,sv)]=true)
  (hE:restrict [0,3,4] E=[(0,.sl R.length (rxC R)),(3,sv),(4,I i)])
  (hQ:∀E',restrict [0,3,4,5,6] E'=[(0,.sl R.length (rxC R)),(3,sv),(4,I i),(5,I lo),(6,I hi)]→Q .nrm E' Z):
  WB ⟨C,lk,lim,[]⟩ b10 Q E Z:=by
 obtain⟨h0,_,_,hl⟩:=rx_at2 hc hx
 have hil:=get_lt hx
 have i0:i*6<(rxC R).length:=by omega
 have g0:=get_some h0 i0
 clear h0
 unfold b10
 rw[wb_regN,hE]
 simp[hil,hl,i0,g0,hC]
 exact hQ _ rfl
set_option maxRecDepth 20000 in
theorem in10 (hc:∀x∈R,x.cs.length=4)(hx:R[i]?=some x)(hkv:RowI x.kv x.ks)(hu:u.length=n)(hin:i≤n)(hb:∀z∈u,0≤z∧z≤1000000000)(hks:x.ks.length≤1000000)(hlk:lk≤H.length)(hlim:lim≤H.length)
  (hE:restrict [0,3,4,7] E=[(0,.sl R.length (rxC R)),(3,.hs H.length n 0 n 1),(4,I i),(7,I 0)])
  (hQ:∀u',bump i x.ks u=some u'→∀E',restrict [0,3,4] E'=[(0,.sl R.length (rxC R)),(3,.hs H.length n 0 n 1),(4,I i)]→Q .nrm E' (H++[.cells (ints u')]))
  (hR:bump i x.ks u=none→∀y,Q .ret [(2,I 2)] (H++[y])):
  WB ⟨C,lk,lim,[]⟩ (.block 2 (.loop [0,3,4,7] t10L1)) Q E (H++[.cells (ints u)]):=by
 obtain⟨_,h5,_,hl⟩:=rx_at2 hc hx
 have hil:=get_lt hx
 have i5:i*6+5<(rxC R).length:=by omega
 have g5:=get_some h5 i5
 clear h5
 obtain⟨kd,cs,ks,kv⟩:=x
 dsimp only at *
 refine wb_loop (σ:=Nat×List Int) (fun q=>[(0,.sl R.length (rxC R)),(3,.hs H.length n 0 n 1),(4,I i),(7,I q.1)]) (fun q=>H++[.cells (ints q.2)])
  (fun q=>q.1≤ks.length∧bump i (ks.take q.1) u=some q.2) (fun q=>ks.length-q.1) ?_ (0,u) ⟨Nat.zero_le _,rfl⟩ hE rfl
 rintro⟨m,u1⟩ ⟨hm,hu1⟩
 dsimp only at hm hu1 ⊢
 unfold t10L1
 generalize hP:Rnd _ _ _ _ _ _ _=P
 by_cases hmk:m<ks.length
 case neg=>
  obtain rfl:m=ks.length:=by omega
  rw[List.take_length]at hu1
  have hx2:∀E',restrict [0,3,4] E'=[(0,.sl R.length (rxC R)),(3,.hs H.length n 0 n 1),(4,I i)]→P (.exit 2) E' (H++[.cells (ints u1)]):=fun E' h=>by
   rw[←hP]
   exact hQ u1 hu1 _ h
  rcases hkv with⟨rfl,rfl⟩ | rfl
  ·simp[hil,hl,i5,g5]
   exact hx2 _ rfl
  ·simp[hil,hl,i5,g5]
   exact hx2 _ rfl
 have hk0:kv= .sl ks.length (ints ks):=hkv.sl (by omega)
 rw[hk0]at g5
 clear hkv hk0
 obtain⟨k,hk⟩:=get_of hmk
 have hii:=get_some (ints_at hk) (by rw[ints_len];exact hmk)
 have w:IntKind.i64.wrap ((m:Int)+1)=(m:Int)+1:=wrap64 (by omega) (by omega)
 have hs:=bump_snoc i (ks.take m) k u
 rw[←take_snoc hk,hu1]at hs
 dsimp only at hs
 by_cases hcc:0≤k∧k<(i:Int)
 case neg=>
  rw[if_neg hcc]at hs
  have hnone:=bump_none i _ (ks.drop (m+1)) u hs
  rw[List.take_append_drop]at hnone
  have hr:P .ret [(2,I 2)] (H++[.cells (ints u1)]):=by rw[←hP];exact hR hnone _
  by_cases h0:0≤k
  ·have h1:(i:Int)≤k:=by omega
   have h2:¬k<0:=by omega
   simp[hil,hl,i5,g5,hmk,hii,h1,h2]
   exact hr
  ·have h2:k<0:=by omega
   simp[hil,hl,i5,g5,hmk,hii,h2]
   exact hr
 rw[if_pos hcc]at hs
 obtain⟨k,rfl⟩:=Int.eq_ofNat_of_zero_le hcc.1
 have hki:k<i:=by omega
 have hul:u1.length=n:=(bump_len i _ u u1 hu1).trans hu
 have hkn:k<n:=by omega
 have hku:k<u1.length:=by omega
 obtain⟨z,hz⟩:=get_of hku
 have hzb:=bump_bd i 1000000000 _ u u1 hu1 hb (by omega) z (List.mem_of_getElem? hz)
 have hzl:(ks.take m).length≤1000000:=by rw[List.length_take];omega
 have hz2:=get_some (ints_at hz) (by rw[ints_len];exact hku)
 have w2:IntKind.i64.wrap (z+1)=z+1:=wrap64 (by omega) (by omega)
 have h1:¬(k:Int)<0:=by omega
 have h3:¬(i:Int)≤(k:Int):=by omega
 have hk1:k+1≤n:=hkn
 have hll:(ints u1).length=n:=by rw[ints_len,hul]
 have hset:replaceAt (ints u1) k [I (z+1)]=ints (u1.set k (z+1)):=by
  rw[replaceAt_one _ (by rw[ints_len];exact hku)];simp[ints,List.map_set]
 rw[Int.toNat_natCast,List.getD_eq_getElem?_getD,hz]at hs
 simp[-wi_st,hil,hl,i5,g5,hmk,hii,h1,h3,hki,hkn,hll,hz2,w,w2]
 rw[wi_st]
 simp[-wi_st,hmk,h1,h3,hki,hkn,hll,hz2,w,w2,setH,hlk,hlim,hk1,hset]
 rw[←hP,rnd_nrm]
 exact⟨(m+1,u1.set k (z+1)),⟨hmk,hs⟩,by show ks.length-(m+1)<ks.length-m;omega,rfl,rfl⟩
end
end Go.Proofs.Ytnhennjliinplaa

namespace Go.Proofs.Ytnhennjliinplaa
open Go Go.Hm
theorem e102:t10L2= .seq (.seq (.regN [0,3,4] [kM 21 4,kM 22 0,kN 23 22,kT 24 21 23]) (.cond (ux 24) .skip (.exit 0))) (.seq (.block 1 (.seq b10 (.seq (.seq a10 (.cond (ux 74) (.seq (.regN [] [kx 2 (.mv (.con (.val (.int .i64 2))))]) .ret) .skip)) (.seq (.regN [0,3,4] [kZ 7]) (.block 2 (.loop [0,3,4,7] t10L1)))))) (.regN [0,3,4] [kM 25 4,kU 26 25,kM 4 26])):=rfl
section
variable {C:Orc}{Q:Ex→Kt}{E:Env}{lk lim i n:Nat}{H:Heap}{R:List Nd}{x:Nd}{sv v:AV}{u:List Int}
set_option maxRecDepth 20000 in
theorem out10 (hR:∀x∈R,NdOk x)(hcl:∀x∈R,Cl4 x)(hRl:R.length≤1000)(hks:∀x∈R,x.ks.length≤100000)(hlk:lk≤H.length)(hlim:lim≤H.length)(hC:∀kd:Int,∀x,C lk lim 33 [I kd] (H++[x])=some (.tup [I (paV kd).1,I (paV kd).2],H++[x]))
  (hE:restrict [0,3,4] E=[(0,.sl R.length (rxC R)),(3,.hs H.length R.length 0 R.length 1),(4,I 0)])
  (hQ:∀u',chkL 0 R (List.replicate R.length 0)=some u'→∀E',restrict [0,3] E'=[(0,.sl R.length (rxC R)),(3,.hs H.length R.length 0 R.length 1)]→Q .nrm E' (H++[.cells (ints u')]))
  (hN:chkL 0 R (List.replicate R.length 0)=none→∀y,Q .ret [(2,I 2)] (H++[y])):
  WB ⟨C,lk,lim,[]⟩ (.block 0 (.loop [0,3,4] t10L2)) Q E (H++[.cells (ints (List.replicate R.length 0))]):=by
 refine wb_loop (σ:=Nat×List Int) (fun q=>[(0,.sl R.length (rxC R)),(3,.hs H.length R.length 0 R.length 1),(4,I q.1)]) (fun q=>H++[.cells (ints q.2)])
  (fun q=>q.1≤R.length∧chkL q.1 (R.drop q.1) q.2=chkL 0 R (List.replicate R.length 0)∧q.2.length=R.length∧∀z∈q.2,0≤z∧z≤bdI q.1) (fun q=>R.length-q.1) ?_ (0,List.replicate R.length 0) ⟨Nat.zero_le _,rfl,by simp,fun z hz=>by rw[List.eq_of_mem_replicate hz,bdI_eq];simp⟩ hE rfl
 rintro⟨i,u⟩ ⟨hi,hu,hul,hub⟩
 dsimp only at hi hu hul hub ⊢
 rw[e102]
 generalize hP:Rnd _ _ _ _ _ _ _=P
 by_cases hik:i<R.length
 case neg=>
  obtain rfl:i=R.length:=by omega
  rw[List.drop_length]at hu
  generalize a10=A1
  generalize b10=B1
  generalize (.block 2 (.loop [0,3,4,7] t10L1):AC)=LL
  simp
  rw[←hP]
  exact hQ u hu.symm _ rfl
 have h4:∀x∈R,x.cs.length=4:=fun x hx=>(hR x hx).1
 obtain⟨x,hx2⟩:=get_of hik
 have hxm:x∈R:=List.mem_of_getElem? hx2
 rw[List.drop_eq_getElem_cons hik,get_some hx2 hik]at hu
 obtain⟨_,hkv,_⟩:=hR x hxm
 obtain⟨a,b,c,d,hcs⟩:=hcl x hxm
 have hkl:=hks x hxm
 have hz:=eqz a b c d
 rw[←hcs]at hz
 have hkc:=hC x.kd (.cells (ints u))
 have w:IntKind.i64.wrap ((i:Int)+1)=(i:Int)+1:=wrap64 (by omega) (by omega)
 have hiff:=badM_iff x.kd x.ks.length (zC x.cs)
 have hbad:badM (paV x.kd).1 (paV x.kd).2 x.kd x.ks.length (zC x.cs)=true→∀y,P .ret [(2,I 2)] (H++[y]):=fun hb y=>by
  rw[←hP]
  refine hN ?_ y
  rw[←hu]
  simp only[chkL,chkN]
  rw[if_neg]
  rintro h1
  rw[hiff.2 h1]at hb
  cases hb
 have hckg:badM (paV x.kd).1 (paV x.kd).2 x.kd x.ks.length (zC x.cs)=false→chkL i (x::R.drop (i+1)) u=match bump i x.ks u with
   | some u'=>chkL (i+1) (R.drop (i+1)) u'
   | none=>none:=fun hbn=>by
  show (match chkN i _ u with | some u'=>_ | none=>none)=_
  unfold chkN
  rw[if_pos (hiff.1 hbn)]
 have inner:badM (paV x.kd).1 (paV x.kd).2 x.kd x.ks.length (zC x.cs)=false→∀E,restrict [0,3,4,7] E=[(0,.sl R.length (rxC R)),(3,.hs H.length R.length 0 R.length 1),(4,I i),(7,I 0)]→WB ⟨C,lk,lim,[]⟩ (.block 2 (.loop [0,3,4,7] t10L1)) (BlkE 1 (Fol ⟨C,lk,lim,[]⟩ (.regN [0,3,4] [kM 25 4,kU 26 25,kM 4 26]) P)) E (H++[.cells (ints u)]):=fun hbn E hE=>
  in10 h4 hx2 hkv hul (by omega) (fun z hz=>by have:=hub z hz;rw[bdI_eq]at this;omega) (by omega) hlk hlim hE (fun u' hu' E' hE'=>by
   rw[hckg hbn,hu']at hu
   dsimp only at hu
   have hl':=bump_len i _ u u' hu'
   rw[blk_nrm,fol_nrm,wb_regN,hE']
   simp[w]
   rw[←hP,rnd_nrm]
   refine⟨(i+1,u'),⟨hik,hu,hl'.trans hul,fun z hz=>?_⟩,by show R.length-(i+1)<R.length-i;omega,rfl,rfl⟩
   have:=bump_bd i (bdI i) _ u u' hu' hub (by rw[bdI_eq];omega) z hz
   rw[bdI_eq]at this
   simp only[bdI_eq]
   omega) fun hno y=>by
   rw[blk_ret,fol_ret,←hP]
   refine hN ?_ y
   rw[←hu,hckg hbn,hno]
 generalize (.block 2 (.loop [0,3,4,7] t10L1):AC)=LL at inner ⊢
 have hb:∀E,restrict [0,3,4] E=[(0,.sl R.length (rxC R)),(3,.hs H.length R.length 0 R.length 1),(4,I i)]→WB ⟨C,lk,lim,[]⟩ (.block 1 (.seq b10 (.seq (.seq a10 (.cond (ux 74) (.seq (.regN [] [kx 2 (.mv (.con (.val (.int .i64 2))))]) .ret) .skip)) (.seq (.regN [0,3,4] [kZ 7]) LL)))) (Fol ⟨C,lk,lim,[]⟩ (.regN [0,3,4] [kM 25 4,kU 26 25,kM 4 26]) P) E (H++[.cells (ints u)]):=fun E hE=>by
  rw[wb_block,wb_seq]
  refine b10_ok h4 hx2 hkc rfl hE fun E1 hE1=>?_
  rw[fol_nrm,wb_seq,wb_seq]
  refine a10_ok h4 hx2 hkv hz rfl hE1 fun E2 h74 hE2=>?_
  rw[fol_nrm]
  cases hbm:badM (paV x.kd).1 (paV x.kd).2 x.kd x.ks.length (zC x.cs) with
  | true=>
   rw[hbm]at h74
   rw[wb_true (ev_bo h74)]
   simp
   exact hbad hbm _
  | false=>
   rw[hbm]at h74
   have inner:=inner hbm
   rw[wb_false (ev_bo h74),wb_skip,fol_nrm,wb_seq,wb_regN,hE2]
   simp
   exact inner _ rfl
 generalize (.block 1 (.seq b10 (.seq (.seq a10 (.cond (ux 74) (.seq (.regN [] [kx 2 (.mv (.con (.val (.int .i64 2))))]) .ret) .skip)) (.seq (.regN [0,3,4] [kZ 7]) LL))):AC)=F at hb ⊢
 have hiR:(i:Int)<(R.length:Int):=by omega
 simp[hik]
 exact hb _ rfl
def e10:AC:=.seq (.seq (.regN [0,3] [kZ 9]) (.block 4 (.loop [0,3,9] t10L3))) (.seq (.regN [] [kZ 2]) .ret)
set_option maxRecDepth 20000 in
theorem end10 {k:Nat}(hul:u.length=k)(hk:1≤k)(hkb:k≤1000){cells:List AV}{e:Int}(he:(if (u.take (k-1)).all (·==1) then (0:Int) else 2)=e)
  (hE:restrict [0,3,9] E=[(0,.sl k cells),(3,.hs H.length k 0 k 1),(9,I 0)]) {P:Ex→Kt} (fin:∀env Z,find env 2=I e→Z.take H.length=H→P .ret env Z):
  WB ⟨C,lk,lim,[]⟩ (.block 4 (.loop [0,3,9] t10L3)) (Fol ⟨C,lk,lim,[]⟩ (.seq (.regN [] [kZ 2]) .ret) P) E (H++[.cells (ints u)]):=by
 refine wb_loop (σ:=Nat) (fun i=>[(0,.sl k cells),(3,.hs H.length k 0 k 1),(9,I i)]) (fun _=>H++[.cells (ints u)]) (fun i=>i≤k∧(u.take (k-1)).all (·==1)=((u.take (k-1)).drop i).all (·==1)) (fun i=>k-i) ?_ 0 ⟨Nat.zero_le _,rfl⟩ hE rfl
 rintro i ⟨hi,hj⟩
 unfold t10L3
 generalize hR:Rnd _ _ _ _ _ _ _=P2
 have hlt:(u.take (k-1)).length=k-1:=by rw[List.length_take];omega
 have htk:(H++[HB.cells (ints u)]).take H.length=H:=by simp
 by_cases hik:i<k
 case neg=>
  obtain rfl:i=k:=by omega
  rw[List.drop_of_length_le (by omega)]at hj
  have hx:∀env,P2 (.exit 4) env (H++[.cells (ints u)]):=fun env=>by
   rw[←hR]
   show WB ⟨C,lk,lim,[]⟩ (.seq (.regN [] [kZ 2]) .ret) P env (H++[.cells (ints u)])
   simp
   exact fin _ _ (by rw[←he,hj];rfl) htk
  simp
  exact hx _
 have next:((u.take (k-1)).all (·==1)=((u.take (k-1)).drop (i+1)).all (·==1))→∀env,restrict [0,3,9] env=[(0,.sl k cells),(3,.hs H.length k 0 k 1),(9,I ((i+1:Nat):Int))]→P2 .nrm env (H++[.cells (ints u)]):=fun h env hE=>by
  rw[←hR,rnd_nrm]
  exact⟨i+1,⟨hik,h⟩,by omega,hE,rfl⟩
 have w:IntKind.i64.wrap ((i:Int)+1)=(i:Int)+1:=wrap64 (by omega) (by omega)
 have w1:IntKind.i64.wrap ((k:Int)-1)=(k:Int)-1:=wrap64 (by omega) (by omega)
 have hil:(ints u).length=k:=by rw[ints_len,hul]
 have hi1:i+1≤k:=hik
 by_cases hi2:i<k-1
 case neg=>
  have h5:¬((i:Int)<(k:Int)-1):=by omega
  rw[List.drop_of_length_le (by omega)]at hj
  have next:=next (by rw[List.drop_of_length_le (by omega)];exact hj)
  simp[hik,w,w1,h5]
  exact next _ rfl
 have h5:((i:Int)<(k:Int)-1):=by omega
 obtain⟨z,hz⟩:=get_of (show i<u.length by omega)
 have hz2:=get_some (ints_at hz) (by rw[ints_len];omega)
 rw[List.drop_eq_getElem_cons (by omega),List.getElem_take,get_some hz (by omega),List.all_cons]at hj
 by_cases h1:z=1
 ·subst h1
  have next:=next (by rw[hj];rfl)
  simp[hik,w,w1,h5,hil,hi1,hz2]
  exact next _ rfl
 ·have hz3:(z != 1)=true:=by simpa using h1
  have hz4:(z==1)=false:=by simpa using h1
  rw[hz4,Bool.false_and]at hj
  simp[hik,w,w1,h5,hil,hi1,hz2,hz3]
  rw[←hR]
  exact fin _ _ (by rw[←he,hj];rfl) htk
theorem e10B:t10B= .seq (.regN [0] [kZ 2]) (.seq (.seq (.regN [0] [kM 10 0,kN 11 10,kx 12 (.bini .lss (ux 11) c1),kM 13 12,zM 14 13 0,zN 15 13 14,kz 16 13 (.bini .gtr (ux 15) (.con (.val (.int .i64 512)))),kO 17 13 16])
  (.cond (ux 17) (.seq (.regN [] [kx 2 (.mv (.con (.val (.int .i64 2))))]) .ret) .skip))
  (.seq (.regN [0] [kM 18 0,kN 19 18,kx 20 (.mks 1 8 [(.val (.int .i64 0))] (ux 19)),kM 3 20])
  (.seq (.seq (.regN [0,3] [kZ 4]) (.block 0 (.loop [0,3,4] t10L2))) e10))):=rfl
set_option maxRecDepth 20000 in
theorem check10 (hv:(v= .e0∧R=[])∨v= .sl R.length (rxC R))(hR:∀x∈R,NdOk x)(hcl:∀x∈R,Cl4 x)(hks:∀x∈R,x.ks.length≤100000)(hlk:lk≤H.length):
  callW X A lk lim 10 [v] H=some (I (if chkR R then 0 else 2),H):=by
 have hX:X lk lim 10 [v] H=none:=noX1 (by decide) (by decide) (by decide)
 refine wb_callB [] hX A10 rfl (by rcases hv with⟨rfl,_⟩ | rfl<;>rfl) ?_
 show WB ⟨callW X A,lk,H.length,[]⟩ t10B _ _ _
 have hC:∀kd:Int,∀x,callW X A lk H.length 33 [I kd] (H++[x])=some (.tup [I (paV kd).1,I (paV kd).2],H++[x]):=fun kd x=>pa33 kd
 generalize callW X A=C at hC ⊢
 obtain⟨e,he⟩:∃e:Int,(if chkR R then 0 else 2)=e:=⟨_,rfl⟩
 rw[he]
 generalize hP:FinT [.tmp 2] true H (I e,H)=P
 have fin:∀env Z,find env 2=I e→Z.take H.length=H→P .ret env Z:=fun env Z h hZ=>by
  rw[←hP]
  simp[FinT,finish,resOf,resList,resOne,h,frz,below,hZ]
 clear hP
 have htk:∀y:HB,(H++[y]).take H.length=H:=fun y=>by simp
 have key:1≤R.length→R.length≤512→∀env,restrict [0,3] env=[(0,.sl R.length (rxC R)),(3,.hs H.length R.length 0 R.length 1)]→WB ⟨C,lk,H.length,[]⟩ (.seq (.seq (.regN [0,3] [kZ 4]) (.block 0 (.loop [0,3,4] t10L2))) e10) P env (H++[.cells (ints (List.replicate R.length 0))]):=by
  intro h1 h2 env hE
  have hrl:∀u,chkL 0 R (List.replicate R.length 0)=some u→chkR R=(u.take (R.length-1)).all (·==1):=fun x hx=>by
   unfold chkR
   rw[decide_eq_true h1,decide_eq_true h2,hx]
   rfl
  have hrl2:chkL 0 R (List.replicate R.length 0)=none→chkR R=false:=fun hx=>by
   unfold chkR
   rw[decide_eq_true h1,decide_eq_true h2,hx]
   rfl
  have hlp:∀env,restrict [0,3,4] env=[(0,.sl R.length (rxC R)),(3,.hs H.length R.length 0 R.length 1),(4,I 0)]→WB ⟨C,lk,H.length,[]⟩ (.block 0 (.loop [0,3,4] t10L2)) (Fol ⟨C,lk,H.length,[]⟩ e10 P) env (H++[.cells (ints (List.replicate R.length 0))]):=fun env hE=>
   out10 hR hcl (by omega) hks hlk (Nat.le_refl _) hC hE (fun u' hu' E' hE'=>by
    rw[fol_nrm]
    have hul:=chkL_len R 0 _ u' hu'
    rw[List.length_replicate]at hul
    have he2:∀E,restrict [0,3,9] E=[(0,.sl R.length (rxC R)),(3,.hs H.length R.length 0 R.length 1),(9,I 0)]→_:=fun E hE=>end10 (C:=C) (lk:=lk) (lim:=H.length) hul h1 (by omega) (by rw[←hrl u' hu'];exact he) hE fin
    unfold e10
    generalize (.block 4 (.loop [0,3,9] t10L3):AC)=L4 at he2 ⊢
    rw[wb_seq,wb_seq,wb_regN,hE']
    simp
    exact he2 _ rfl) fun hno y=>by
    rw[fol_ret]
    exact fin _ _ (by rw[←he,hrl2 hno];rfl) (htk y)
  generalize (.block 0 (.loop [0,3,4] t10L2):AC)=L0 at hlp ⊢
  rw[wb_seq,wb_seq,wb_regN,hE]
  simp
  exact hlp _ rfl
 rw[e10B]
 generalize (.seq (.seq (.regN [0,3] [kZ 4]) (.block 0 (.loop [0,3,4] t10L2))) e10:AC)=TT at key ⊢
 by_cases h1:1≤R.length
 case neg=>
  have hb:chkR R=false:=by simp[chkR,h1]
  have h0:R.length=0:=by omega
  rcases hv with⟨rfl,rfl⟩ | rfl
  ·simp
   exact fin _ _ (by rw[←he,hb];rfl) (by simp)
  ·rw[h0]
   simp
   exact fin _ _ (by rw[←he,hb];rfl) (by simp)
 obtain rfl:v= .sl R.length (rxC R):=by
  rcases hv with⟨_,h⟩ | h
  ·rw[h]at h1;simp at h1
  ·exact h
 have h3:¬((R.length:Int)<1):=by omega
 by_cases h2:R.length≤512
 case neg=>
  have hb:chkR R=false:=by simp[chkR,h2]
  have h4:(512:Int)<(R.length:Int):=by omega
  simp[h3,h4]
  exact fin _ _ (by rw[←he,hb];rfl) (by simp)
 have key:=key h1 h2
 have h4:¬((512:Int)<(R.length:Int)):=by omega
 have hmk:∀env,ev env (.tmp 19)=I (R.length:Int)→mkOp (.mks 1 8 [I 0] (.tmp 19)) env H.length=some (.hs H.length R.length 0 R.length 1,.cells (ints (List.replicate R.length 0))):=fun env h=>by
  have hro:R.length*8≤room:=by unfold room;omega
  rw[mk_mks (z:=[I 0]) (es:=1) (n:=R.length) h rfl hro,Nat.mul_one]
  simp[repl,ints]
 simp[-wi_mks,-wb_seq,-wb_regN,-wb_true,-wb_false]
 rw[wb_seq,wb_regN]
 simp[-wi_mks,-wb_seq,-wb_regN,-wb_true,-wb_false]
 rw[wb_seq,wb_seq,wb_regN]
 simp[-wi_mks,-wb_seq,-wb_regN,-wb_true,-wb_false,h3,h4]
 rw[wb_false (ev_bo rfl),wb_skip,fol_nrm,wb_seq,wb_regN]
 simp[-wi_mks,-wb_seq,-wb_regN,-wb_true,-wb_false]
 rw[wi_mks,hmk _ rfl]
 simp
 exact key _ rfl
end
end Go.Proofs.Ytnhennjliinplaa
