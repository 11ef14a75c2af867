/- The builder of states in memory; state, join. -/
import Derived.Test.YtnhennjliinplaaGA
import Derived.Test.YtnhennjliinplaaHmG10
set_option linter.all false
namespace Go.Proofs.Ytnhennjliinplaa
open Go Go.Hm

def FinX (rs:List ARes)(t:Bool)(H:Heap)(P:AV→Heap→Prop):Ex→Kt:=fun x e h=>∃v h',finish ⟨0,.skip,rs,t⟩ H (some (x,e,h))=some (v,h')∧P v h'
theorem finX_ret {rs:List ARes}{t:Bool}{H H':Heap}{env:Env}{P:AV→Heap→Prop}:FinX rs t H P .ret env H'=∃v h',finish ⟨0,.skip,rs,t⟩ H (some (.ret,env,H'))=some (v,h')∧P v h':=rfl
theorem wb_callX {X:Orc}{A:FuncId→Option AFn}{f:FuncId}{lk lim np:Nat}{args:List AV}{b:AC}{rs:List ARes}{t:Bool}{H:Heap}{P:AV→Heap→Prop}(B:List Nat)(hX:X lk lim f args H=none)(hA:A f=some ⟨np,b,rs,t⟩)(hl:args.length=np)(ha:args.all argOk=true)
  (h:WB ⟨callW X A,lk,if t then H.length else lim,B⟩ b (FinX rs t H P) (enterFrom 0 args) H):∃v h',callW X A lk lim f args H=some (v,h')∧P v h':=by
 obtain⟨x,e,h1,h2,⟨v,h',h3,h4⟩,_⟩:=wb_sound h (enter_inv ha)
 refine⟨v,h',?_,h4⟩
 rw[callW_eq hX hA hl,h2]
 exact h3
theorem wb_regV {S:Cx}{Q:Ex→Kt}{env:Env}{H:Heap}{keep:List Nat}{m:Nat}{ops:List AI}(hm:¬(m=0∧drawEasy ops=true))(h:WD S m ops (Q .nrm) (restrict keep env) H):WB S (.regD keep m ops) Q env H:=by
 simp only[WB]
 rw[if_neg hm]
 exact h

theorem noX1 {f:FuncId}(h1:f≠40)(h2:f≠61)(h3:f≠72){lk lim:Nat}{l:List AV}{H:Heap}:X lk lim f l H=none:=by
 unfold X
 have hA:A1 f=none:=by
  show assoc tab1 f=none
  simp[tab1,assoc,Ne.symm h2,Ne.symm h3]
 have hx:X0 lk lim f l H=none:=by
  simp[withFun,h1,noX]
 cases h:callW X0 A1 lk lim f l H with
 | none=>rfl
 | some r=>
  obtain⟨n,hn⟩:=callW_some h
  cases n with
  | zero=>rw[callN,hx]at hn;cases hn
  | succ n=>rw[callN,hx,hA]at hn;cases hn
theorem uniC:Uni C:=fun lk lim x y H a b hx hy ha hb hl=>callW_prim (by unfold X;exact union_code hx hy ha hb hl)

def IsS (H:Heap)(f:Nat)(l:List Int):Prop:=H[f]?=some (.map (sE l))∧l.Nodup
structure Bd (lk lim:Nat)(H:Heap)(p bc br bx:Nat)(cl:List AV)(rl:List Int)(ms:List Nat)(nx:List (List Int)):Prop where
 hp:H[p]?=some (.cells [.hs bc (rl.length*4) 0 rl.length 4,.e0,.hs br rl.length 0 rl.length 1,.hs bx rl.length 0 rl.length 1])
 hc:H[bc]?=some (.cells cl)
 lc:cl.length=rl.length*4
 hr:H[br]?=some (.cells (ints rl))
 hx:H[bx]?=some (.cells (mps ms))
 lx:ms.length=rl.length
 ln:nx.length=rl.length
 hs:∀(j m:Nat),ms[j]?=some m→IsS H m (nx.getD j [])
 ne:p≠bc∧p≠br∧p≠bx∧bc≠br∧bc≠bx∧br≠bx
 lk_:lk≤p∧lk≤bc∧lk≤br∧lk≤bx
 lim_:lim≤p∧lim≤bc∧lim≤br∧lim≤bx
def Kp (H H':Heap)(p bc br bx:Nat):Prop:=H.length≤H'.length∧∀(b:Nat) (x:HB),H[b]?=some x→b≠p→b≠bc→b≠br→b≠bx→H'[b]?=some x
theorem Kp.refl (H:Heap)(p bc br bx:Nat):Kp H H p bc br bx:=⟨Nat.le_refl _,fun _ _ h _ _ _ _=>h⟩
theorem Kp.trans {H H1 H2:Heap}{p bc br bx:Nat}(h:Kp H H1 p bc br bx)(k:Kp H1 H2 p bc br bx):Kp H H2 p bc br bx:=
 ⟨Nat.le_trans h.1 k.1,fun b x hb h1 h2 h3 h4=>k.2 b x (h.2 b x hb h1 h2 h3 h4) h1 h2 h3 h4⟩
section
variable {lk lim:Nat}{H H':Heap}{p bc br bx:Nat}{cl:List AV}{rl:List Int}{ms:List Nat}{nx:List (List Int)}
theorem Bd.nmap (B:Bd lk lim H p bc br bx cl rl ms nx){f:Nat}{es:List (AV×AV)}(h:H[f]?=some (.map es)):f≠p∧f≠bc∧f≠br∧f≠bx:=by
 refine⟨fun e=>?_,fun e=>?_,fun e=>?_,fun e=>?_⟩<;>subst e
 ·rw[B.hp]at h;cases h
 ·rw[B.hc]at h;cases h
 ·rw[B.hr]at h;cases h
 ·rw[B.hx]at h;cases h
theorem IsS.kp (B:Bd lk lim H p bc br bx cl rl ms nx)(k:Kp H H' p bc br bx){f:Nat}{l:List Int}(h:IsS H f l):IsS H' f l:=by
 obtain⟨h1,h2,h3,h4⟩:=B.nmap h.1
 exact⟨k.2 f _ h.1 h1 h2 h3 h4,h.2⟩
theorem Bd.more (B:Bd lk lim H p bc br bx cl rl ms nx)(X:Heap):Bd lk lim (H++X) p bc br bx cl rl ms nx∧Kp H (H++X) p bc br bx:=by
 have up:∀{i:Nat} {x:HB},H[i]?=some x→(H++X)[i]?=some x:=fun h=>by rw[List.getElem?_append_left (List.getElem?_eq_some_iff.1 h).1,h]
 exact⟨⟨up B.hp,up B.hc,B.lc,up B.hr,up B.hx,B.lx,B.ln,fun j m h=>⟨up (B.hs j m h).1,(B.hs j m h).2⟩,B.ne,B.lk_,B.lim_⟩,by simp,fun b x h _ _ _ _=>up h⟩
end
def joinM (nx:List (List Int))(l v:List Int):List (List Int):=(List.range nx.length).map fun (j:Nat)=>if (j:Int)∈l then unI (nx.getD j []) v else nx.getD j []
@[simp] theorem joinM_len (nx:List (List Int))(l v:List Int):(joinM nx l v).length=nx.length:=by simp[joinM]
theorem joinM_get {nx:List (List Int)}{l v:List Int}{j:Nat}(h:j<nx.length):(joinM nx l v).getD j []=if (j:Int)∈l then unI (nx.getD j []) v else nx.getD j []:=by
 rw[List.getD_eq_getElem?_getD]
 unfold joinM
 rw[List.getElem?_map,List.getElem?_range h];rfl
theorem join_bd {lk lim p bc br bx f g:Nat}{H:Heap}{cl:List AV}{rl:List Int}{ms:List Nat}{nx:List (List Int)}{l v:List Int}(B:Bd lk lim H p bc br bx cl rl ms nx)(hf:IsS H f l)(hg:IsS H g v)(hk:∀k∈l,0≤k∧k<(rl.length:Int)):
  ∃H' ms',callW X A lk lim 39 [.hp p 4 0,.mp f,.mp g] H=some (.tup [],H')∧Bd lk lim H' p bc br bx cl rl ms' (joinM nx l v)∧Kp H H' p bc br bx:=by
 have lt:∀{i:Nat} {x:HB},H[i]?=some x→i<H.length:=fun h=>(List.getElem?_eq_some_iff.1 h).1
 have up:∀{i:Nat} {x:HB},H[i]?=some x→(H++[HB.cells []])[i]?=some x:=fun h=>by rw[List.getElem?_append_left (lt h),h]
 have hbx:=lt B.hx
 have hall:(mps ms).all (isSet H)=true:=List.all_eq_true.2 fun v hv=>by
  obtain⟨m,hm,rfl⟩:=List.mem_map.1 hv
  obtain⟨j,hj⟩:=List.getElem?_of_mem hm
  exact isSet_of (B.hs j m hj).1 (B.hs j m hj).2
 have hkeys:keysIn rl.length (sE l)=true:=List.all_eq_true.2 fun q hq=>by
  obtain⟨k,hk',rfl⟩:=List.mem_map.1 hq
  simpa[ent] using hk k hk'
 have hpre:preJoin lk lim (sE l) [(0,.hp p 4 0),(2,.mp g)] H=true:=by
  simp only[preJoin,find,if_true,B.hp,B.hx,mps_len,B.lx,Nat.beq_refl,hall,hkeys,Bool.and_true,Bool.true_and,Bool.and_eq_true,Nat.ble_eq]
  exact⟨⟨B.lk_.2.2.2,B.lim_.2.2.2⟩,by simpa using isSet_of hg.1 hg.2⟩
 have hcall:callW X A lk lim 39 [.hp p 4 0,.mp f,.mp g] H=some (.tup [],jH (H++[HB.cells []]) bx ms nx v l):=by
  have hX:X lk lim 39 [.hp p 4 0,.mp f,.mp g] H=none:=noX1 (by decide) (by decide) (by decide)
  refine wb_callB [] hX A39 rfl rfl ?_
  unfold t39B
  have hU:Uni (callW X A):=uniC
  generalize callW X A=C' at hU ⊢
  simp
  refine⟨f,sE l,?_,?_⟩
  ·simp only[ev,find]
   refine rangeOf_sE hf.1 hf.2 rfl hpre
  ·rw[sE_len]
   have hsets:SetsAt (H++[HB.cells []]) ms nx l:=fun k hk'=>by
    obtain⟨h1,h2⟩:=hk k hk'
    obtain⟨j,rfl⟩:=Int.eq_ofNat_of_zero_le h1
    have hj:j<ms.length:=by rw[B.lx];omega
    have hj2:ms[j]?=some ms[j]:=List.getElem?_eq_getElem hj
    exact⟨j,_,rfl,hj2,up (B.hs j _ hj2).1,(B.hs j _ hj2).2⟩
   have hL:(H++[HB.cells []])[H.length]?=some (.cells []):=by rw[List.getElem?_append_right (Nat.le_refl _)];simp
   generalize hK:(fun h=>FinT _ _ _ _ _ _ h)=K
   have he:(8,AV.hp H.length 0 0)::restrict [0,2] ((7,AV.mp f)::restrict [0,1,2] (enterFrom 0 [AV.hp p 4 0,.mp f,.mp g]))=[(8,.hp H.length 0 0),(0,.hp p 4 0),(2,.mp g)]:=rfl
   exact join_rounds (C:=C') (lk:=lk) (lim:=lim) (L:=H.length) (p:=p) (bx:=bx) (g:=g) (b:=f) (l0:=l) (nx:=nx) (v:=v) (K:=K) hU rfl hg.2 B.lk_.2.2.2 B.lim_.2.2.2 B.ne.2.2.1 (by omega) l hf.2 B.lx (up B.hp) (up B.hx) hsets (up hg.1) (up hf.1) hL (by rw[←hK];simp)
 have old:∀{i:Nat} {x:HB},i≠bx→H[i]?=some x→(jH (H++[HB.cells []]) bx ms nx v l)[i]?=some x:=fun hne hi=>by
  unfold jH
  rw[List.getElem?_append_left (by have:=lt hi;simp;omega),List.getElem?_set_ne (Ne.symm hne)];exact up hi
 have h0:∀k∈l,0≤k:=fun k hk'=>(hk k hk').1
 refine⟨_,jms (H++[HB.cells []]).length l ms,hcall,⟨old B.ne.2.2.1 B.hp,old B.ne.2.2.2.2.1 B.hc,B.lc,old B.ne.2.2.2.2.2 B.hr,?_,by rw[jms_len,B.lx],by rw[joinM_len,B.ln],fun j m hj=>?_,B.ne,B.lk_,B.lim_⟩,by simp;omega,fun b x hb _ _ _ hne=>old hne hb⟩
 ·unfold jH
  rw[List.getElem?_append_left (by simp;omega),List.getElem?_set_self (by simp;omega)]
 ·have hjl:j<ms.length:=by
   have:=(List.getElem?_eq_some_iff.1 hj).1
   rwa [jms_len]at this
  rw[jms_get l _ ms j hf.2 h0 hjl]at hj
  rw[joinM_get (by rw[B.ln,←B.lx];exact hjl)]
  by_cases hm:(j:Int)∈l
  ·rw[if_pos hm]at hj ⊢
   simp only[Option.some.injEq]at hj
   subst hj
   refine⟨?_,nd_unI _ _⟩
   unfold jH
   rw[List.getElem?_append_right (by simp),List.length_set,Nat.add_sub_cancel_left]
   unfold jnew
   rw[List.getElem?_map,idx_get hm];simp
  ·rw[if_neg hm]at hj ⊢
   obtain⟨h1,h2⟩:=B.hs j m hj
   exact⟨old (B.nmap h1).2.2.2 h1,h2⟩
end Go.Proofs.Ytnhennjliinplaa

namespace Go.Proofs.Ytnhennjliinplaa
open Go Go.Hm

section
variable {C:Orc}{Q:Ex→Kt}{E:Env}{lk lim p bc br bx:Nat}{H:Heap}{cl c:List AV}{rl:List Int}{ms:List Nat}{nx:List (List Int)}
def bdC (bc br bx n:Nat):List AV:=[.hs bc (n*4) 0 n 4,.e0,.hs br n 0 n 1,.hs bx n 0 n 1]
def stH (H:Heap)(p bc br bx:Nat)(cl:List AV)(rl:List Int)(ms:List Nat):Heap:=
 ((((H++[HB.map []]).set bc (.cells cl)).set br (.cells (ints rl))).set bx (.cells (mps ms))).set p (.cells (bdC bc br bx rl.length))
theorem app_end {g k:Nat}{cs new:List AV}(h:cs.length=g):appC g g cs new=cs++new∧appG g g k=g+k:=by
 subst h
 simp[appC,appG]
theorem st_reg (B:Bd lk lim H p bc br bx cl rl ms nx)(hc:c.length=4)(hn:rl.length≤1000000)
  (hE:restrict [0,3,5] E=[(0,.hp p 4 0),(3,.box c),(5,I rl.length)]) (hQ:∀E',restrict [5] E'=[(5,I rl.length)]→Q .nrm E' (stH H p bc br bx (cl++c) (rl++[-1]) (ms++[H.length]))):
  WB ⟨C,lk,lim,[3]⟩ (.regD [0,3,5] 1 [
 kM 11 0,kM 12 0,kM 13 0,kM 14 0,kx 15 (.nilc (ux 14)),kF 16 0 15,kF 17 0 16,kL 18 17,kP 19 3 4 3,kx 20 (.buildS 1 [(.val (.int .u64 0)),(.val (.int .u64 0)),(.val (.int .u64 0)),(.val (.int .u64 0))] [(0,4,(ux 19))]),kf 21 (.app 4 32 (ux 18) (ux 20)),kM 22 0,kx 23 (.nilc (ux 22)),kF 24 0 23,kF 25 2 24,kL 26 25,kx 27 (.buildS 1 [(.val (.int .i64 0))] [(0,1,(.con (.val (.int .i64 (-1)))))]),kf 28 (.app 1 8 (ux 26) (ux 27)),kM 29 0,kx 30 (.nilc (ux 29)),kF 31 3 30,kL 32 31,⟨some 33,none,.mkm,0,false⟩,kx 34 (.buildS 1 [(.val (.map none))] [(0,1,(ux 33))]),kx 35 (.app 1 8 (ux 32) (ux 34)),kx 36 (.nilc (ux 11)),kF 37 0 36,kF 38 0 37,kn (.st none 1 (ux 38) (ux 21)),kx 39 (.nilc (ux 12)),kF 40 0 39,kF 41 2 40,kn (.st none 1 (ux 41) (ux 28)),kx 42 (.nilc (ux 13)),kF 43 3 42,kn (.st none 1 (ux 43) (ux 35))]) Q E H:=by
 obtain⟨n,hnn⟩:∃n,rl.length=n:=⟨_,rfl⟩
 obtain⟨hp,hbc,lc,hbr,hbx,lx,ln,hs,⟨n1,n2,n3,n4,n5,n6⟩,⟨k1,k2,k3,k4⟩,⟨l1,l2,l3,l4⟩⟩:=B
 have lt:∀{i:Nat} {x:HB},H[i]?=some x→i<H.length:=fun h=>(List.getElem?_eq_some_iff.1 h).1
 have up:∀{i:Nat} {x:HB},H[i]?=some x→(H++List.replicate 1 HB.hole)[i]?=some x:=fun h=>by rw[List.getElem?_append_left (lt h),h]
 obtain⟨Y,hY⟩:∃Y,Y=H++List.replicate 1 HB.hole:=⟨_,rfl⟩
 have y0:Y[p]?=some (.cells (bdC bc br bx n)):=by rw[hY,←hnn];exact up hp
 have y1:=hY▸up hbc
 have y2:=hY▸up hbr
 have y3:=hY▸up hbx
 have y4:Y[H.length]?=some .hole:=by rw[hY,List.getElem?_append_right (Nat.le_refl _)];simp
 have yt:Y.take H.length=H:=by rw[hY];simp
 have e1:Y.set H.length (.map [])=H++[.map []]:=by rw[hY];simp
 have p0:=lt hp
 have p1:=lt hbc
 have p2:=lt hbr
 have p3:=lt hbx
 rw[hnn]at hp hE hQ lc lx ln hn
 refine wb_regV (by decide) ?_
 unfold WD
 rw[hE,←hY]
 have hp':H[p]?=some (.cells (bdC bc br bx n)):=hp
 unfold bdC at hp' y0
 have a1:=app_end (k:=4) (new:=c) lc
 have a2:=app_end (g:=n) (k:=1) (new:=[I (-1)]) (cs:=ints rl) (by rw[ints_len,hnn])
 have a3:=app_end (g:=n) (k:=1) (new:=[AV.mp H.length]) (cs:=mps ms) (by rw[mps_len,lx])
 have r1:(n+1)*32≤room:=by unfold room;omega
 have r2:(n+1)*8≤room:=by unfold room;omega
 obtain⟨c0,c1,c2,c3,rfl⟩:∃c0 c1 c2 c3,c=[c0,c1,c2,c3]:=by
  match c,hc with
  | [a,b,c,d],_=>exact⟨a,b,c,d,rfl⟩
 have m1:=n1.symm
 have m2:=n2.symm
 have m3:=n3.symm
 have m4:=n4.symm
 have m5:=n5.symm
 have m6:=n6.symm
 have q0:H.length≠p:=by omega
 have q1:H.length≠bc:=by omega
 have q2:H.length≠br:=by omega
 have q3:H.length≠bx:=by omega
 have u0:p≠H.length:=by omega
 have u1:bc≠H.length:=by omega
 have u2:br≠H.length:=by omega
 have u3:bx≠H.length:=by omega
 have w1:(ints rl).length=n:=by rw[ints_len,hnn]
 have w2:(mps ms).length=n:=by rw[mps_len,lx]
 have f1:∀x,(((((Y.set bc (.cells (cl++[c0,c1,c2,c3]))).set br (.cells (ints rl++[I (-1)]))).set H.length (.map [])).set bx (.cells (mps ms++[AV.mp H.length]))).set p x)[p]?=some x:=fun x=>by
  rw[List.getElem?_set_self]
  simp[hY];omega
 simp[f1,runD,stepD,actD,wsSel,collW,okT,cls,rdTgt,wrTgt,isFree,isRow,guardI,clArgs,isCall,cls2,hp',yt,srcCells,y0,y1,y2,y3,y4,n1,n2,n3,n4,n5,n6,m1,m2,m3,m4,m5,m6,k1,k2,k3,k4,l1,l2,l3,l4,q0,q1,q2,q3,u0,u1,u2,u3,setH,a1,a2,a3,r1,r2,List.take_set,lc,w1,w2]
 refine⟨_,_,⟨rfl,rfl⟩,?_,?_⟩
 ·repeat refine inv_cons2 rfl ?_
  exact inv_nil _
 ·have eh:((((Y.set bc (HB.cells (cl++[c0,c1,c2,c3]))).set br (.cells (ints rl++[I (-1)]))).set H.length (.map [])).set bx (.cells (mps ms++[AV.mp H.length]))).set p (.cells [AV.hs bc (n*4+4) 0 (n+1) 4,AV.e0,AV.hs br (n+1) 0 (n+1) 1,AV.hs bx (n+1) 0 (n+1) 1])=
    stH H p bc br bx (cl++[c0,c1,c2,c3]) (rl++[-1]) (ms++[H.length]):=by
   unfold stH bdC
   rw[←e1,List.set_comm _ _ u2,List.set_comm _ _ u1]
   simp[ints,mps,hnn,Nat.add_mul]
  rw[eh]
  exact hQ _ rfl
theorem st_bd (B:Bd lk lim H p bc br bx cl rl ms nx)(hc:c.length=4):Bd lk lim (stH H p bc br bx (cl++c) (rl++[-1]) (ms++[H.length])) p bc br bx (cl++c) (rl++[-1]) (ms++[H.length]) (nx++[[]])∧Kp H (stH H p bc br bx (cl++c) (rl++[-1]) (ms++[H.length])) p bc br bx∧
  (stH H p bc br bx (cl++c) (rl++[-1]) (ms++[H.length])).length=H.length+1:=by
 have B':=B
 obtain⟨hp,hbc,lc,hbr,hbx,lx,ln,hs,⟨n1,n2,n3,n4,n5,n6⟩,⟨k1,k2,k3,k4⟩,⟨l1,l2,l3,l4⟩⟩:=B
 have lt:∀{i:Nat} {x:HB},H[i]?=some x→i<H.length:=fun h=>(List.getElem?_eq_some_iff.1 h).1
 have old:∀{i:Nat} {x:HB},H[i]?=some x→i≠p→i≠bc→i≠br→i≠bx→(stH H p bc br bx (cl++c) (rl++[-1]) (ms++[H.length]))[i]?=some x:=fun hi h1 h2 h3 h4=>by
  unfold stH
  rw[List.getElem?_set_ne (Ne.symm h1),List.getElem?_set_ne (Ne.symm h4),List.getElem?_set_ne (Ne.symm h3),List.getElem?_set_ne (Ne.symm h2),List.getElem?_append_left (lt hi),hi]
 have new:(stH H p bc br bx (cl++c) (rl++[-1]) (ms++[H.length]))[H.length]?=some (.map []):=by
  have p0:=lt hp
  have p1:=lt hbc
  have p2:=lt hbr
  have p3:=lt hbx
  unfold stH
  rw[List.getElem?_set_ne (by omega),List.getElem?_set_ne (by omega),List.getElem?_set_ne (by omega),List.getElem?_set_ne (by omega),List.getElem?_append_right (Nat.le_refl _)];simp
 refine⟨⟨?_,?_,by simp[lc,hc];omega,?_,?_,by simp[lx],by simp[ln],fun j m hj=>?_,⟨n1,n2,n3,n4,n5,n6⟩,⟨k1,k2,k3,k4⟩,⟨l1,l2,l3,l4⟩⟩,⟨by simp[stH],fun b x hb h1 h2 h3 h4=>old hb h1 h2 h3 h4⟩,by simp[stH]⟩
 ·unfold stH
  rw[List.getElem?_set_self (by have:=lt hp;simp;omega)];rfl
 ·unfold stH
  rw[List.getElem?_set_ne n1,List.getElem?_set_ne n5.symm,List.getElem?_set_ne n4.symm,List.getElem?_set_self (by have:=lt hbc;simp;omega)]
 ·unfold stH
  rw[List.getElem?_set_ne n2,List.getElem?_set_ne n6.symm,List.getElem?_set_self (by have:=lt hbr;simp;omega)]
 ·unfold stH
  rw[List.getElem?_set_ne n3,List.getElem?_set_self (by have:=lt hbx;simp;omega)]
 ·by_cases hjl:j<ms.length
  ·rw[List.getElem?_append_left hjl]at hj
   obtain⟨h1,h2⟩:=hs j m hj
   obtain⟨q1,q2,q3,q4⟩:=B'.nmap h1
   have e:(nx++[[]]).getD j []=nx.getD j []:=by
    rw[List.getD_eq_getElem?_getD,List.getD_eq_getElem?_getD,List.getElem?_append_left (by omega)]
   rw[e]
   exact⟨old h1 q1 q2 q3 q4,h2⟩
  ·rw[List.getElem?_append_right (by omega)]at hj
   have hj0:j=ms.length:=by
    rcases Nat.eq_zero_or_pos (j-ms.length) with h | h
    ·omega
    ·rw[List.getElem?_eq_none (by simp;omega)]at hj;cases hj
   subst hj0
   simp only[Nat.sub_self,List.getElem?_cons_zero,Option.some.injEq]at hj
   subst hj
   have e:(nx++[[]]).getD ms.length []=[]:=by
    rw[List.getD_eq_getElem?_getD,show ms.length=nx.length from by rw[lx,ln],List.getElem?_append_right (Nat.le_refl _)];simp
   rw[e]
   exact⟨new,List.nodup_nil⟩
theorem mset_nil (n:Int):mset false [1] (I n) (.agg []) []=some [(I n,.agg [])]:=rfl
theorem state_bd (B:Bd lk lim H p bc br bx cl rl ms nx)(hc:c.length=4)(hn:rl.length≤1000000):
  ∃(v:AV) (H':Heap),callW X A lk lim 37 [.hp p 4 0,.agg c] H=some (v,H')∧∃q ms',v= .mp q∧Bd lk lim H' p bc br bx (cl++c) (rl++[-1]) ms' (nx++[[]])∧Kp H H' p bc br bx∧IsS H' q [rl.length]:=by
 have hX:X lk lim 37 [.hp p 4 0,.agg c] H=none:=noX1 (by decide) (by decide) (by decide)
 refine wb_callX [3] hX A37 rfl rfl ?_
 unfold t37B
 generalize callW X A=C
 have hp:=B.hp
 simp[hp,hc]
 refine st_reg B hc hn (by simp[restrict,find]) fun E' hE'=>?_
 rw[fol_nrm,wb_seq,wb_regN,hE']
 obtain⟨B1,K1,hl1⟩:=st_bd (c:=c) B hc
 generalize stH H p bc br bx (cl++c) (rl++[-1]) (ms++[H.length])=Z at B1 K1 hl1 ⊢
 have hlk:lk≤Z.length:=by
  have h1:=B.lk_.1
  have h2:=(List.getElem?_eq_some_iff.1 B.hp).1
  omega
 simp[mset_nil,hlk]
 obtain⟨B2,K2⟩:=B1.more [HB.map (sE [(rl.length:Int)])]
 simp only[FinX,finish]
 refine⟨.mp Z.length,Z++[HB.map (sE [(rl.length:Int)])],by simp[resOf,resList,resOne,find,argOk,one];rfl,Z.length,rfl,⟨_,B2⟩,K1.trans K2,get_at0 _ _,by simp⟩
end
end Go.Proofs.Ytnhennjliinplaa

namespace Go.Proofs.Ytnhennjliinplaa
open Go Go.Hm

structure Pl where
 em:Bool
 fi:List Int
 la:List Int
def PlS (H:Heap)(v:AV)(P:Pl):Prop:=∃f l,v= .agg [Bo P.em,.mp f,.mp l]∧IsS H f P.fi∧IsS H l P.la
def behP (P Q:Pl):Pl:=⟨P.em&&Q.em,if P.em=true then unI P.fi Q.fi else P.fi,if Q.em=true then unI P.la Q.la else Q.la⟩
def InB (n:Nat)(l:List Int):Prop:=∀k∈l,0≤k∧k<(n:Int)
section
variable {lk lim:Nat}{H H':Heap}{p bc br bx:Nat}{cl:List AV}{rl:List Int}{ms:List Nat}{nx:List (List Int)}
theorem PlS.kp (B:Bd lk lim H p bc br bx cl rl ms nx)(k:Kp H H' p bc br bx){v:AV}{P:Pl}(h:PlS H v P):PlS H' v P:=by
 obtain⟨f,l,e,h1,h2⟩:=h
 exact⟨f,l,e,h1.kp B k,h2.kp B k⟩
theorem IsS.more {f:Nat}{l:List Int}(h:IsS H f l)(X:Heap):IsS (H++X) f l:=⟨by rw[List.getElem?_append_left (List.getElem?_eq_some_iff.1 h.1).1,h.1],h.2⟩
theorem Bd.lkl (B:Bd lk lim H p bc br bx cl rl ms nx):lk≤H.length:=by
 have h1:=B.lk_.1
 have h2:=(List.getElem?_eq_some_iff.1 B.hp).1
 omega
set_option maxRecDepth 20000 in
theorem behind_bd (B:Bd lk lim H p bc br bx cl rl ms nx){v u:AV}{P Q:Pl}(hP:PlS H v P)(hQ:PlS H u Q)(hb:InB rl.length P.la):
  ∃(v':AV) (H':Heap),callW X A lk lim 60 [.hp p 4 0,v,u] H=some (v',H')∧∃ms',Bd lk lim H' p bc br bx cl rl ms' (joinM nx P.la Q.fi)∧Kp H H' p bc br bx∧PlS H' v' (behP P Q):=by
 obtain⟨f1,l1,rfl,hf1,hl1⟩:=hP
 obtain⟨f2,l2,rfl,hf2,hl2⟩:=hQ
 obtain⟨H1,ms1,kj,B1,K1⟩:=join_bd B hl1 hf2 hb
 have hf1':=hf1.kp B K1
 have hl1':=hl1.kp B K1
 have hf2':=hf2.kp B K1
 have hl2':=hl2.kp B K1
 have hk1:=B1.lkl
 have kf:C lk lim 61 [.sl 2 [.mp f1,.mp f2]] H1=some (.mp H1.length,H1++[.map (sE (unI P.fi Q.fi))]):=uniC lk lim f1 f2 H1 _ _ hf1'.1 hf2'.1 hf1'.2 hf2'.2 hk1
 have kl0:C lk lim 61 [.sl 2 [.mp l1,.mp l2]] H1=some (.mp H1.length,H1++[.map (sE (unI P.la Q.la))]):=uniC lk lim l1 l2 H1 _ _ hl1'.1 hl2'.1 hl1'.2 hl2'.2 hk1
 have kl1:C lk lim 61 [.sl 2 [.mp l1,.mp l2]] (H1++[.map (sE (unI P.fi Q.fi))])=some (.mp (H1.length+1),H1++[.map (sE (unI P.fi Q.fi))]++[.map (sE (unI P.la Q.la))]):=by
  have:=uniC lk lim l1 l2 (H1++[.map (sE (unI P.fi Q.fi))]) _ _ (hl1'.more _).1 (hl2'.more _).1 hl1'.2 hl2'.2 (by simp;omega)
  simpa using this
 have hX:X lk lim 60 [.hp p 4 0,.agg [Bo P.em,.mp f1,.mp l1],.agg [Bo Q.em,.mp f2,.mp l2]] H=none:=noX1 (by decide) (by decide) (by decide)
 refine wb_callX [4,5,6,7] hX A60 rfl rfl ?_
 unfold t60B
 have kf:callW X A lk lim 61 [.sl 2 [.mp f1,.mp f2]] H1=_:=kf
 have kl0:callW X A lk lim 61 [.sl 2 [.mp l1,.mp l2]] H1=_:=kl0
 have kl1:callW X A lk lim 61 [.sl 2 [.mp l1,.mp l2]] (H1++[.map (sE (unI P.fi Q.fi))])=_:=kl1
 generalize callW X A=C' at kj kf kl0 kl1 ⊢
 unfold behP
 obtain⟨e1,F1,L1⟩:=P
 obtain⟨e2,F2,L2⟩:=Q
 dsimp only at *
 cases e1<;>cases e2
 ·simp[kj]
  exact⟨_,_,rfl,⟨_,B1⟩,K1,_,_,rfl,hf1',hl2'⟩
 ·simp[kj,kl0]
  obtain⟨B2,K2⟩:=B1.more [HB.map (sE (unI L1 L2))]
  exact⟨_,_,rfl,⟨_,B2⟩,K1.trans K2,_,_,rfl,hf1'.more _,get_at0 _ _,nd_unI _ _⟩
 ·simp[kj,kf]
  obtain⟨B2,K2⟩:=B1.more [HB.map (sE (unI F1 F2))]
  exact⟨_,_,rfl,⟨_,B2⟩,K1.trans K2,_,_,rfl,⟨get_at0 _ _,nd_unI _ _⟩,hl2'.more _⟩
 ·simp[kj,kf]
  simp at kl1
  simp[kl1]
  obtain⟨B2,K2⟩:=B1.more [HB.map (sE (unI F1 F2)),HB.map (sE (unI L1 L2))]
  exact⟨_,_,rfl,⟨_,B2⟩,K1.trans K2,_,_,rfl,⟨get_at0 _ _,nd_unI _ _⟩,by rw[Hm.get_at];rfl,nd_unI _ _⟩
end
end Go.Proofs.Ytnhennjliinplaa

namespace Go.Proofs.Ytnhennjliinplaa
open Go Go.Hm

structure Nd where
 kd:Int
 cs:List AV
 ks:List Int
 kv:AV
def ndC (x:Nd):List AV:=I x.kd::(x.cs++[x.kv])
def rxC (R:List Nd):List AV:=R.flatMap ndC
def NdOk (x:Nd):Prop:=x.cs.length=4∧((x.kv= .e0∧x.ks=[])∨x.kv= .sl x.ks.length (ints x.ks))∧x.ks.length≤1000000
theorem ndC_len {x:Nd}(h:NdOk x):(ndC x).length=6:=by simp[ndC,h.1]
theorem rxC_at:∀{R:List Nd} {i:Nat} {x:Nd},(∀x∈R,NdOk x)→R[i]?=some x→((rxC R).drop (i*6)).take 6=ndC x∧i*6+6≤(rxC R).length
 | [],i,x,_,h=>by cases h
 | y::R,0,x,hR,h=>by
  simp at h;subst h
  have hl:=ndC_len (hR y List.mem_cons_self)
  show ((ndC y++rxC R).drop (0*6)).take 6=_∧_≤(ndC y++rxC R).length
  rw[Nat.zero_mul,List.drop_zero,List.take_append_of_le_length (by omega),List.take_of_length_le (by omega),List.length_append]
  exact⟨rfl,by omega⟩
 | y::R,i+1,x,hR,h=>by
  have hl:=ndC_len (hR y List.mem_cons_self)
  obtain⟨h1,h2⟩:=rxC_at (R:=R) (i:=i) (fun z hz=>hR z (List.mem_cons_of_mem _ hz)) (by simpa using h)
  show ((ndC y++rxC R).drop ((i+1)*6)).take 6=_∧_≤(ndC y++rxC R).length
  rw[List.drop_append,List.drop_of_length_le (by omega),List.nil_append,show (i+1)*6-(ndC y).length=i*6 from by omega,List.length_append]
  exact⟨h1,by omega⟩
structure Bs where
 cl:List AV
 rl:List Int
 nx:List (List Int)
def Bs.add (s:Bs)(c:List AV):Bs:=⟨s.cl++c,s.rl++[-1],s.nx++[[]]⟩
def Bs.join (s:Bs)(l v:List Int):Bs:=⟨s.cl,s.rl,joinM s.nx l v⟩
def altP (P Q:Pl):Pl:=⟨P.em||Q.em,unI P.fi Q.fi,unI P.la Q.la⟩
def catS (f:Int→Bs→Bs×Pl)(sp:Bs×Pl)(k:Int):Bs×Pl:=((f k sp.1).1.join sp.2.la (f k sp.1).2.fi,behP sp.2 (f k sp.1).2)
def altS (f:Int→Bs→Bs×Pl)(sp:Bs×Pl)(k:Int):Bs×Pl:=((f k sp.1).1,altP sp.2 (f k sp.1).2)
def one1 (x:Nd)(sp:Bs×Pl):Bs×Pl:=(if x.kd=7 then sp.1 else sp.1.join sp.2.la sp.2.fi,⟨sp.2.em||decide (x.kd≠6),sp.2.fi,sp.2.la⟩)
def noP:Pl:=⟨false,[],[]⟩
def nodeM (R:List Nd):Nat→Int→Bs→Bs×Pl
 | 0,_,s=>(s,noP)
 | f+1,k,s=>match R[k.toNat]? with
  | none=>(s,noP)
  | some x=>
   if x.kd=1 then (s,⟨true,[],[]⟩)
   else if x.kd=2 then (s.add x.cs,⟨false,[(s.rl.length:Int)],[(s.rl.length:Int)]⟩)
   else if x.kd=3 then x.ks.tail.foldl (catS (nodeM R f)) (nodeM R f (x.ks.headD 0) s)
   else if x.kd=4 then x.ks.foldl (altS (nodeM R f)) (s,noP)
   else one1 x (nodeM R f (x.ks.headD 0) s)
def RxOk (R:List Nd):Prop:=∀(i:Nat) (x:Nd),R[i]?=some x→NdOk x∧(∀k∈x.ks,0≤k∧k<(i:Int))∧(x.kd=1∨x.kd=2∨((x.kd=3∨x.kd=4)∧1≤x.ks.length)∨((x.kd=5∨x.kd=6∨x.kd=7)∧x.ks.length=1))

def GrB (f:Int→Bs→Bs×Pl):Prop:=∀k s,s.rl.length≤(f k s).1.rl.length
theorem catS_le {f:Int→Bs→Bs×Pl}(hf:GrB f):∀(l:List Int) (sp:Bs×Pl),sp.1.rl.length≤(l.foldl (catS f) sp).1.rl.length
 | [],sp=>Nat.le_refl _
 | k::l,sp=>Nat.le_trans (hf k sp.1) (catS_le hf l (catS f sp k))
theorem altS_le {f:Int→Bs→Bs×Pl}(hf:GrB f):∀(l:List Int) (sp:Bs×Pl),sp.1.rl.length≤(l.foldl (altS f) sp).1.rl.length
 | [],sp=>Nat.le_refl _
 | k::l,sp=>Nat.le_trans (hf k sp.1) (altS_le hf l (altS f sp k))
theorem one1_len (x:Nd)(sp:Bs×Pl):(one1 x sp).1.rl.length=sp.1.rl.length:=by
 unfold one1;dsimp only;split<;>rfl
theorem nodeM_le (R:List Nd):∀f,GrB (nodeM R f)
 | 0=>fun k s=>Nat.le_refl _
 | f+1=>fun k s=>by
  have ih:=nodeM_le R f
  simp only[nodeM]
  split
  ·exact Nat.le_refl _
  ·split
   ·exact Nat.le_refl _
   ·split
    ·simp[Bs.add]
    ·split
     ·exact Nat.le_trans (ih _ _) (catS_le ih _ _)
     ·split
      ·exact altS_le ih _ (s,noP)
      ·rw[one1_len];exact ih _ _
end Go.Proofs.Ytnhennjliinplaa

namespace Go.Proofs.Ytnhennjliinplaa
open Go Go.Hm

def BdS (lk lim:Nat)(H:Heap)(p bc br bx:Nat)(s:Bs):Prop:=∃ms,Bd lk lim H p bc br bx s.cl s.rl ms s.nx
def NodeC (lk lim p bc br bx:Nat)(R:List Nd)(f:Nat)(k:Int):Prop:=∀(H:Heap) (s:Bs),BdS lk lim H p bc br bx s→(nodeM R f k s).1.rl.length≤1000000→
 ∃(v':AV) (H':Heap),callW X A lk lim 38 [.hp p 4 0,.sl R.length (rxC R),I k] H=some (v',H')∧BdS lk lim H' p bc br bx (nodeM R f k s).1∧Kp H H' p bc br bx∧PlS H' v' (nodeM R f k s).2∧InB (nodeM R f k s).1.rl.length (nodeM R f k s).2.fi∧InB (nodeM R f k s).1.rl.length (nodeM R f k s).2.la
@[simp] theorem rep6f (x0 x1 x2 x3 x4 x5 a b c d e f:AV):replaceAt [x0,x1,x2,x3,x4,x5] 0 [a,b,c,d,e,f]=[a,b,c,d,e,f]:=rfl
section
variable {lk lim p bc br bx:Nat}{R:List Nd}
set_option maxRecDepth 20000 in
theorem node1 {f j:Nat}{c0 c1 c2 c3 kv:AV}{ks:List Int}(hj:j<R.length)(hr:((rxC R).drop (j*6)).take 6=[I 1,c0,c1,c2,c3,kv])(hl:j*6+6≤(rxC R).length){H:Heap}{s:Bs}(B:BdS lk lim H p bc br bx s):
  ∃(v':AV) (H':Heap),callW X A lk lim 38 [.hp p 4 0,.sl R.length (rxC R),I j] H=some (v',H')∧BdS lk lim H' p bc br bx s∧Kp H H' p bc br bx∧PlS H' v' ⟨true,[],[]⟩:=by
 obtain⟨ms,B⟩:=B
 have hX:X lk lim 38 [.hp p 4 0,.sl R.length (rxC R),I j] H=none:=noX1 (by decide) (by decide) (by decide)
 refine wb_callX [6,7,9,12,15,16] hX A38 rfl rfl ?_
 unfold t38B
 generalize callW X A=C'
 have hj':(j:Int)<(R.length:Int):=by omega
 generalize rxC R=cells at hr hl ⊢
 simp[hj,hj',hr,hl]
 obtain⟨B2,K2⟩:=B.more [HB.map [],HB.map []]
 exact⟨_,_,rfl,⟨_,B2⟩,K2,_,_,rfl,⟨get_at0 _ _,List.nodup_nil⟩,⟨by rw[Hm.get_at];rfl,List.nodup_nil⟩⟩
set_option maxRecDepth 20000 in
theorem node2 {j:Nat}{c0 c1 c2 c3 kv:AV}(hj:j<R.length)(hr:((rxC R).drop (j*6)).take 6=[I 2,c0,c1,c2,c3,kv])(hl:j*6+6≤(rxC R).length){H:Heap}{s:Bs}(B:BdS lk lim H p bc br bx s)(hn:s.rl.length≤1000000):
  ∃(v':AV) (H':Heap),callW X A lk lim 38 [.hp p 4 0,.sl R.length (rxC R),I j] H=some (v',H')∧BdS lk lim H' p bc br bx (s.add [c0,c1,c2,c3])∧Kp H H' p bc br bx∧PlS H' v' ⟨false,[(s.rl.length:Int)],[(s.rl.length:Int)]⟩:=by
 obtain⟨ms,B⟩:=B
 obtain⟨_,H1,kc,q,ms1,rfl,B1,K1,S1⟩:=state_bd (c:=[c0,c1,c2,c3]) B rfl hn
 have hX:X lk lim 38 [.hp p 4 0,.sl R.length (rxC R),I j] H=none:=noX1 (by decide) (by decide) (by decide)
 refine wb_callX [6,7,9,12,15,16] hX A38 rfl rfl ?_
 unfold t38B
 generalize callW X A=C' at kc ⊢
 have hj':(j:Int)<(R.length:Int):=by omega
 generalize rxC R=cells at hr hl ⊢
 simp[hj',hr,hl,kc]
 exact⟨_,_,rfl,⟨_,B1⟩,K1,_,_,rfl,S1,S1⟩
theorem ints_cons (k:Int)(ks:List Int):ints (k::ks)=I k::ints ks:=rfl
set_option maxRecDepth 20000 in
theorem node3 {f j:Nat}{c0 c1 c2 c3:AV}{k:Int}{ks:List Int}(hj:j<R.length)(hr:((rxC R).drop (j*6)).take 6=[I 3,c0,c1,c2,c3,.sl (ks.length+1) (ints (k::ks))])(hl:j*6+6≤(rxC R).length)(hm:ks.length≤1000000)
  (hC:∀k'∈k::ks,NodeC lk lim p bc br bx R f k') {H:Heap} {s:Bs} (B:BdS lk lim H p bc br bx s) (hn:(ks.foldl (catS (nodeM R f)) (nodeM R f k s)).1.rl.length≤1000000):
  ∃(v':AV) (H':Heap),callW X A lk lim 38 [.hp p 4 0,.sl R.length (rxC R),I j] H=some (v',H')∧BdS lk lim H' p bc br bx (ks.foldl (catS (nodeM R f)) (nodeM R f k s)).1∧Kp H H' p bc br bx∧PlS H' v' (ks.foldl (catS (nodeM R f)) (nodeM R f k s)).2∧
   InB (ks.foldl (catS (nodeM R f)) (nodeM R f k s)).1.rl.length (ks.foldl (catS (nodeM R f)) (nodeM R f k s)).2.fi∧InB (ks.foldl (catS (nodeM R f)) (nodeM R f k s)).1.rl.length (ks.foldl (catS (nodeM R f)) (nodeM R f k s)).2.la:=by
 have hX:X lk lim 38 [.hp p 4 0,.sl R.length (rxC R),I j] H=none:=noX1 (by decide) (by decide) (by decide)
 obtain⟨_,H1,kc,B1,K1,⟨f1,l1,rfl,hf1,hl1⟩,i1,i2⟩:=hC k List.mem_cons_self H s B (Nat.le_trans (catS_le (nodeM_le R f) ks _) hn)
 refine wb_callX [6,7,9,12,15,16] hX A38 rfl rfl ?_
 unfold t38B
 have hbh:=fun (H:Heap) (s:Bs) (B:BdS lk lim H p bc br bx s) (v u:AV) (P Q:Pl) (hP:PlS H v P) (hQ:PlS H u Q) (hb:InB s.rl.length P.la)=>behind_bd B.choose_spec hP hQ hb
 unfold NodeC at hC
 generalize callW X A=C' at kc hC hbh ⊢
 have hj':(j:Int)<(R.length:Int):=by omega
 generalize rxC R=cells at hr hl kc hC ⊢
 have h1k:(1:Int)≤(ks.length:Int)+1:=by omega
 have hit:List.take ks.length (ints ks)=ints ks:=List.take_of_length_le (by rw[ints_len];exact Nat.le_refl _)
 simp[hj',hr,hl,kc,ints_cons,bnd,h1k,hit]
 obtain⟨g,hg⟩:∃g,g=nodeM R f:=⟨_,rfl⟩
 have gle:GrB g:=hg▸nodeM_le R f
 rw[←hg]at hn B1 hf1 hl1 i1 i2 hC ⊢
 have T1:∀(i:Nat) (k':Int),ks[i]?=some k'→(ks.take (i+1)).foldl (catS g) (g k s)=catS g ((ks.take i).foldl (catS g) (g k s)) k':=fun i k' hi=>by
  rw[take_snoc hi,List.foldl_append];rfl
 have Tn:∀i,((ks.take i).foldl (catS g) (g k s)).1.rl.length≤1000000:=fun i=>by
  refine Nat.le_trans ?_ hn
  have:=catS_le gle (ks.drop i) ((ks.take i).foldl (catS g) (g k s))
  rwa [←List.foldl_append,List.take_append_drop]at this
 refine wb_loop (σ:=Nat×Heap×Bool×Nat×Nat) (fun q=>[(0,.hp p 4 0),(1,.sl R.length cells),(6,.box [Bo false,.val (.map none),.val (.map none)]),(9,.box [Bo q.2.2.1,.mp q.2.2.2.1,.mp q.2.2.2.2]),(48,.sl ks.length (ints ks)),(49,I ks.length),(50,I q.1)]) (fun q=>q.2.1)
  (fun q=>q.1≤ks.length∧BdS lk lim q.2.1 p bc br bx ((ks.take q.1).foldl (catS g) (g k s)).1∧Kp H q.2.1 p bc br bx∧q.2.2.1=((ks.take q.1).foldl (catS g) (g k s)).2.em∧IsS q.2.1 q.2.2.2.1 ((ks.take q.1).foldl (catS g) (g k s)).2.fi∧IsS q.2.1 q.2.2.2.2 ((ks.take q.1).foldl (catS g) (g k s)).2.la∧
   InB ((ks.take q.1).foldl (catS g) (g k s)).1.rl.length ((ks.take q.1).foldl (catS g) (g k s)).2.fi∧InB ((ks.take q.1).foldl (catS g) (g k s)).1.rl.length ((ks.take q.1).foldl (catS g) (g k s)).2.la) (fun q=>ks.length-q.1) ?_ (0,H1,(g k s).2.em,f1,l1) ⟨Nat.zero_le _,B1,K1,rfl,hf1,hl1,i1,i2⟩ (by simp) rfl
 rintro⟨i,Hi,em,fi,li⟩ ⟨hi,BI,KI,he,sf,sl,b1,b2⟩
 dsimp only at hi BI KI he sf sl b1 b2 ⊢
 subst he
 unfold t38L1
 by_cases hik:i<ks.length
 case neg=>
  obtain rfl:i=ks.length:=by omega
  rw[List.take_length]at BI sf sl b1 b2 ⊢
  simp
  exact⟨_,_,rfl,BI,KI,⟨_,_,rfl,sf,sl⟩,b1,b2⟩
 obtain⟨k',hk'⟩:∃k',ks[i]=k':=⟨_,rfl⟩
 have hk2:ks[i]?=some k':=by rw[List.getElem?_eq_getElem hik,hk']
 have tn:=Tn (i+1)
 have t1:=T1 i k' hk2
 rw[t1]at tn
 generalize (ks.take i).foldl (catS g) (g k s)=S at BI sf sl b1 b2 t1 tn ⊢
 obtain⟨_,H2,kc2,B2,K2,⟨f2,l2,rfl,sf2,sl2⟩,i3,i4⟩:=hC k' (List.mem_cons_of_mem _ (List.mem_of_getElem? hk2)) Hi S.1 BI tn
 obtain⟨msI,BI'⟩:=BI
 have hle:=gle k' S.1
 have b2':InB (g k' S.1).1.rl.length S.2.la:=fun z hz=>by have:=b2 z hz;omega
 have b1':InB (g k' S.1).1.rl.length S.2.fi:=fun z hz=>by have:=b1 z hz;omega
 obtain⟨_,H3,kb,ms3,B3,K3,f3,l3,rfl,sf3,sl3⟩:=hbh H2 (g k' S.1).1 B2 _ _ S.2 (g k' S.1).2 ⟨fi,li,rfl,sf.kp BI' K2,sl.kp BI' K2⟩ ⟨f2,l2,rfl,sf2,sl2⟩ b2'
 have hii:(ints ks)[i]'(by rw[ints_len];exact hik)=I k':=by simp[ints,hk']
 have w:IntKind.i64.wrap ((i:Int)+1)=(i:Int)+1:=wrap64 (by omega) (by omega)
 simp[hik,hii,kc2,kb,w]
 rw[rnd_nrm]
 refine⟨(i+1,H3,_,f3,l3),⟨hik,?_,KI.trans (K2.trans K3),?_,?_,?_,?_,?_⟩,by simp;omega,by simp;rfl,rfl⟩
 all_goals dsimp only;rw[t1]
 ·exact⟨ms3,B3⟩
 ·rfl
 ·exact sf3
 ·exact sl3
 ·intro z hz
  have hz:z∈(behP S.2 (g k' S.1).2).fi:=hz
  unfold behP at hz
  dsimp only at hz
  split at hz
  ·rcases mem_unI.1 hz with hz | hz
   ·exact b1' z hz
   ·exact i3 z hz
  ·exact b1' z hz
 ·intro z hz
  have hz:z∈(behP S.2 (g k' S.1).2).la:=hz
  unfold behP at hz
  dsimp only at hz
  split at hz
  ·rcases mem_unI.1 hz with hz | hz
   ·exact b2' z hz
   ·exact i4 z hz
  ·exact i4 z hz
set_option maxRecDepth 20000 in
theorem node4 {f j:Nat}{c0 c1 c2 c3:AV}{ks:List Int}(hj:j<R.length)(hr:((rxC R).drop (j*6)).take 6=[I 4,c0,c1,c2,c3,.sl ks.length (ints ks)])(hl:j*6+6≤(rxC R).length)(hm:ks.length≤1000000)
  (hC:∀k'∈ks,NodeC lk lim p bc br bx R f k') {H:Heap} {s:Bs} (B:BdS lk lim H p bc br bx s) (hn:(ks.foldl (altS (nodeM R f)) (s,noP)).1.rl.length≤1000000):
  ∃(v':AV) (H':Heap),callW X A lk lim 38 [.hp p 4 0,.sl R.length (rxC R),I j] H=some (v',H')∧BdS lk lim H' p bc br bx (ks.foldl (altS (nodeM R f)) (s,noP)).1∧Kp H H' p bc br bx∧PlS H' v' (ks.foldl (altS (nodeM R f)) (s,noP)).2∧
   InB (ks.foldl (altS (nodeM R f)) (s,noP)).1.rl.length (ks.foldl (altS (nodeM R f)) (s,noP)).2.fi∧InB (ks.foldl (altS (nodeM R f)) (s,noP)).1.rl.length (ks.foldl (altS (nodeM R f)) (s,noP)).2.la:=by
 have hX:X lk lim 38 [.hp p 4 0,.sl R.length (rxC R),I j] H=none:=noX1 (by decide) (by decide) (by decide)
 obtain⟨ms0,B0⟩:=B
 obtain⟨B1,K1⟩:=B0.more [HB.map [],HB.map []]
 refine wb_callX [6,7,9,12,15,16] hX A38 rfl rfl ?_
 unfold t38B
 have hU:Uni (callW X A):=uniC
 unfold NodeC at hC
 generalize callW X A=C' at hC hU ⊢
 have hj':(j:Int)<(R.length:Int):=by omega
 generalize rxC R=cells at hr hl hC ⊢
 simp[hj',hr,hl]
 obtain⟨g,hg⟩:∃g,g=nodeM R f:=⟨_,rfl⟩
 have gle:GrB g:=hg▸nodeM_le R f
 rw[←hg]at hn hC ⊢
 have T1:∀(i:Nat) (k':Int),ks[i]?=some k'→(ks.take (i+1)).foldl (altS g) (s,noP)=altS g ((ks.take i).foldl (altS g) (s,noP)) k':=fun i k' hi=>by
  rw[take_snoc hi,List.foldl_append];rfl
 have Tn:∀i,((ks.take i).foldl (altS g) (s,noP)).1.rl.length≤1000000:=fun i=>by
  refine Nat.le_trans ?_ hn
  have:=altS_le gle (ks.drop i) ((ks.take i).foldl (altS g) (s,noP))
  rwa [←List.foldl_append,List.take_append_drop]at this
 refine wb_loop (σ:=Nat×Heap×Bool×Nat×Nat) (fun q=>[(0,.hp p 4 0),(1,.sl R.length cells),(6,.box [Bo false,.val (.map none),.val (.map none)]),(12,.box [Bo q.2.2.1,.mp q.2.2.2.1,.mp q.2.2.2.2]),(69,.sl ks.length (ints ks)),(70,I ks.length),(71,I q.1)]) (fun q=>q.2.1)
  (fun q=>q.1≤ks.length∧BdS lk lim q.2.1 p bc br bx ((ks.take q.1).foldl (altS g) (s,noP)).1∧Kp H q.2.1 p bc br bx∧q.2.2.1=((ks.take q.1).foldl (altS g) (s,noP)).2.em∧IsS q.2.1 q.2.2.2.1 ((ks.take q.1).foldl (altS g) (s,noP)).2.fi∧IsS q.2.1 q.2.2.2.2 ((ks.take q.1).foldl (altS g) (s,noP)).2.la∧
   InB ((ks.take q.1).foldl (altS g) (s,noP)).1.rl.length ((ks.take q.1).foldl (altS g) (s,noP)).2.fi∧InB ((ks.take q.1).foldl (altS g) (s,noP)).1.rl.length ((ks.take q.1).foldl (altS g) (s,noP)).2.la) (fun q=>ks.length-q.1) ?_ (0,H++[HB.map [],HB.map []],false,H.length,H.length+1)
  ⟨Nat.zero_le _,⟨_,B1⟩,K1,rfl,⟨by rw[get_at0];rfl,List.nodup_nil⟩,⟨by rw[Hm.get_at];rfl,List.nodup_nil⟩,(fun z hz=>(by cases hz)),(fun z hz=>(by cases hz))⟩ (by simp) rfl
 rintro⟨i,Hi,em,fi,li⟩ ⟨hi,BI,KI,he,sf,sl,b1,b2⟩
 dsimp only at hi BI KI he sf sl b1 b2 ⊢
 subst he
 unfold t38L2
 by_cases hik:i<ks.length
 case neg=>
  obtain rfl:i=ks.length:=by omega
  rw[List.take_length]at BI sf sl b1 b2 ⊢
  simp
  exact⟨_,_,rfl,BI,KI,⟨_,_,rfl,sf,sl⟩,b1,b2⟩
 obtain⟨k',hk'⟩:∃k',ks[i]=k':=⟨_,rfl⟩
 have hk2:ks[i]?=some k':=by rw[List.getElem?_eq_getElem hik,hk']
 have tn:=Tn (i+1)
 have t1:=T1 i k' hk2
 rw[t1]at tn
 generalize (ks.take i).foldl (altS g) (s,noP)=S at BI sf sl b1 b2 t1 tn ⊢
 obtain⟨_,H2,kc2,B2,K2,⟨f2,l2,rfl,sf2,sl2⟩,i3,i4⟩:=hC k' (List.mem_of_getElem? hk2) Hi S.1 BI tn
 obtain⟨msI,BI'⟩:=BI
 obtain⟨ms2,B2'⟩:=B2
 have hle:=gle k' S.1
 have b2':InB (g k' S.1).1.rl.length S.2.la:=fun z hz=>by have:=b2 z hz;omega
 have b1':InB (g k' S.1).1.rl.length S.2.fi:=fun z hz=>by have:=b1 z hz;omega
 have sf':=sf.kp BI' K2
 have sl':=sl.kp BI' K2
 have hk3:=B2'.lkl
 have ku1:=hU lk lim fi f2 H2 _ _ sf'.1 sf2.1 sf'.2 sf2.2 hk3
 have ku2:=hU lk lim li l2 (H2++[.map (sE (unI S.2.fi (g k' S.1).2.fi))]) _ _ (sl'.more _).1 (sl2.more _).1 sl'.2 sl2.2 (by simp;omega)
 simp at ku2
 obtain⟨B3,K3⟩:=B2'.more [HB.map (sE (unI S.2.fi (g k' S.1).2.fi)),HB.map (sE (unI S.2.la (g k' S.1).2.la))]
 have hii:(ints ks)[i]'(by rw[ints_len];exact hik)=I k':=by simp[ints,hk']
 have w:IntKind.i64.wrap ((i:Int)+1)=(i:Int)+1:=wrap64 (by omega) (by omega)
 obtain⟨e1,he1⟩:∃e,S.2.em=e:=⟨_,rfl⟩
 obtain⟨e2,he2⟩:∃e,(g k' S.1).2.em=e:=⟨_,rfl⟩
 rw[he2]at kc2
 rw[he1]
 have fin:∃s':Nat×Heap×Bool×Nat×Nat,(s'.1≤ks.length∧BdS lk lim s'.2.1 p bc br bx ((ks.take s'.1).foldl (altS g) (s,noP)).1∧Kp H s'.2.1 p bc br bx∧s'.2.2.1=((ks.take s'.1).foldl (altS g) (s,noP)).2.em∧IsS s'.2.1 s'.2.2.2.1 ((ks.take s'.1).foldl (altS g) (s,noP)).2.fi∧IsS s'.2.1 s'.2.2.2.2 ((ks.take s'.1).foldl (altS g) (s,noP)).2.la∧
   InB ((ks.take s'.1).foldl (altS g) (s,noP)).1.rl.length ((ks.take s'.1).foldl (altS g) (s,noP)).2.fi∧InB ((ks.take s'.1).foldl (altS g) (s,noP)).1.rl.length ((ks.take s'.1).foldl (altS g) (s,noP)).2.la)∧ks.length-s'.1<ks.length-i∧s'=(i+1,H2++[HB.map (sE (unI S.2.fi (g k' S.1).2.fi)),HB.map (sE (unI S.2.la (g k' S.1).2.la))],e1||e2,H2.length,H2.length+1):=by
  refine⟨(i+1,H2++[HB.map (sE (unI S.2.fi (g k' S.1).2.fi)),HB.map (sE (unI S.2.la (g k' S.1).2.la))],e1||e2,H2.length,H2.length+1),⟨hik,?_,KI.trans (K2.trans K3),?_,?_,?_,?_,?_⟩,by simp;omega,rfl⟩
  all_goals dsimp only;rw[t1]
  ·exact⟨ms2,B3⟩
  ·rw[←he1,←he2];rfl
  ·exact⟨by rw[get_at0];rfl,nd_unI _ _⟩
  ·exact⟨by rw[Hm.get_at];rfl,nd_unI _ _⟩
  ·intro z hz
   rcases mem_unI.1 (show z∈unI S.2.fi (g k' S.1).2.fi from hz) with hz | hz
   ·exact b1' z hz
   ·exact i3 z hz
  ·intro z hz
   rcases mem_unI.1 (show z∈unI S.2.la (g k' S.1).2.la from hz) with hz | hz
   ·exact b2' z hz
   ·exact i4 z hz
 obtain⟨s',q1,q2,q3⟩:=fin
 cases e1
 ·simp[hik,hii,kc2,ku1,ku2,w]
  rw[rnd_nrm]
  exact⟨s',q1,q2,by rw[q3];simp,by rw[q3]⟩
 ·simp[hik,hii,kc2,ku1,ku2,w]
  rw[rnd_nrm]
  exact⟨s',q1,q2,by rw[q3];simp,by rw[q3]⟩
set_option maxRecDepth 20000 in
theorem node5 {f j:Nat}{kd:Int}{c0 c1 c2 c3:AV}{k:Int}(hkd:kd=5∨kd=6∨kd=7)(hj:j<R.length)(hr:((rxC R).drop (j*6)).take 6=[I kd,c0,c1,c2,c3,.sl 1 [I k]])(hl:j*6+6≤(rxC R).length)
  (hC:NodeC lk lim p bc br bx R f k) {H:Heap} {s:Bs} (B:BdS lk lim H p bc br bx s) (hn:(nodeM R f k s).1.rl.length≤1000000):
  ∃(v':AV) (H':Heap),callW X A lk lim 38 [.hp p 4 0,.sl R.length (rxC R),I j] H=some (v',H')∧BdS lk lim H' p bc br bx (if kd=7 then (nodeM R f k s).1 else (nodeM R f k s).1.join (nodeM R f k s).2.la (nodeM R f k s).2.fi)∧Kp H H' p bc br bx∧
   PlS H' v' ⟨(nodeM R f k s).2.em||decide (kd≠6),(nodeM R f k s).2.fi,(nodeM R f k s).2.la⟩∧InB (nodeM R f k s).1.rl.length (nodeM R f k s).2.fi∧InB (nodeM R f k s).1.rl.length (nodeM R f k s).2.la:=by
 have hX:X lk lim 38 [.hp p 4 0,.sl R.length (rxC R),I j] H=none:=noX1 (by decide) (by decide) (by decide)
 obtain⟨_,H1,kc,B1,K1,⟨f1,l1,rfl,hf1,hl1⟩,i1,i2⟩:=hC H s B hn
 obtain⟨ms1,B1'⟩:=B1
 obtain⟨H2,ms2,kj,B2,K2⟩:=join_bd B1' hl1 hf1 i2
 refine wb_callX [6,7,9,12,15,16] hX A38 rfl rfl ?_
 unfold t38B
 generalize callW X A=C' at kc kj ⊢
 have hj':(j:Int)<(R.length:Int):=by omega
 generalize rxC R=cells at hr hl kc ⊢
 generalize nodeM R f k s=S at kc kj B1' B2 hf1 hl1 i1 i2 ⊢
 obtain⟨s1,e1,F1,L1⟩:=S
 dsimp only at *
 rcases hkd with rfl | rfl | rfl<;>cases e1
 ·simp[hj',hr,hl,kc,kj]
  exact⟨_,_,rfl,⟨ms2,B2⟩,K1.trans K2,⟨_,_,rfl,hf1.kp B1' K2,hl1.kp B1' K2⟩,i1,i2⟩
 ·simp[hj',hr,hl,kc,kj]
  exact⟨_,_,rfl,⟨ms2,B2⟩,K1.trans K2,⟨_,_,rfl,hf1.kp B1' K2,hl1.kp B1' K2⟩,i1,i2⟩
 ·simp[hj',hr,hl,kc,kj]
  exact⟨_,_,rfl,⟨ms2,B2⟩,K1.trans K2,⟨_,_,rfl,hf1.kp B1' K2,hl1.kp B1' K2⟩,i1,i2⟩
 ·simp[hj',hr,hl,kc,kj]
  exact⟨_,_,rfl,⟨ms2,B2⟩,K1.trans K2,⟨_,_,rfl,hf1.kp B1' K2,hl1.kp B1' K2⟩,i1,i2⟩
 ·simp[hj',hr,hl,kc]
  exact⟨_,_,rfl,⟨ms1,B1'⟩,K1,⟨_,_,rfl,hf1,hl1⟩,i1,i2⟩
 ·simp[hj',hr,hl,kc]
  exact⟨_,_,rfl,⟨ms1,B1'⟩,K1,⟨_,_,rfl,hf1,hl1⟩,i1,i2⟩
theorem node_bd (hR:RxOk R):∀(f j:Nat),j<f→j<R.length→NodeC lk lim p bc br bx R f j
 | 0,j,h,_=>absurd h (Nat.not_lt_zero j)
 | f+1,j,h,hj=>by
  intro H s B hn
  have hx:R[j]?=some R[j]:=List.getElem?_eq_getElem hj
  obtain⟨hok,hks,hkd⟩:=hR j R[j] hx
  have hall:∀x∈R,NdOk x:=fun x hx=>by
   obtain⟨i,hi⟩:=List.getElem?_of_mem hx
   exact(hR i x hi).1
  obtain⟨hr,hl⟩:=rxC_at hall hx
  have hM:nodeM R (f+1) j s=(if R[j].kd=1 then (s,⟨true,[],[]⟩)
   else if R[j].kd=2 then (s.add R[j].cs,⟨false,[(s.rl.length:Int)],[(s.rl.length:Int)]⟩)
   else if R[j].kd=3 then R[j].ks.tail.foldl (catS (nodeM R f)) (nodeM R f (R[j].ks.headD 0) s)
   else if R[j].kd=4 then R[j].ks.foldl (altS (nodeM R f)) (s,noP)
   else one1 R[j] (nodeM R f (R[j].ks.headD 0) s)):=by
   simp only[nodeM,Int.toNat_natCast,hx]
  rw[hM]at hn ⊢
  clear hM
  generalize R[j]=x at hn hok hks hkd hr ⊢
  obtain⟨kd,cs,ks,kv⟩:=x
  obtain⟨hcs,hkv,hm⟩:=hok
  have hcs:cs.length=4:=hcs
  dsimp only at hn hks hkd hkv hm ⊢
  obtain⟨c0,c1,c2,c3,rfl⟩:∃c0 c1 c2 c3,cs=[c0,c1,c2,c3]:=by
   match cs,hcs with
   | [a,b,c,d],_=>exact⟨a,b,c,d,rfl⟩
  have hr:((rxC R).drop (j*6)).take 6=[I kd,c0,c1,c2,c3,kv]:=hr
  have hC:∀k∈ks,NodeC lk lim p bc br bx R f k:=fun k hk=>by
   obtain⟨h1,h2⟩:=hks k hk
   obtain⟨q,rfl⟩:=Int.eq_ofNat_of_zero_le h1
   exact node_bd hR f q (by omega) (by omega)
  have hkv':1≤ks.length→kv= .sl ks.length (ints ks):=fun h1=>by
   rcases hkv with⟨_,h2⟩ | h2
   ·rw[h2]at h1;simp at h1
   ·exact h2
  rcases hkd with rfl | rfl | ⟨hk34,h1⟩ | ⟨hk,h1⟩
  ·rw[if_pos rfl]at hn ⊢
   obtain⟨v',H',g1,g2,g3,g4⟩:=node1 (f:=f) (ks:=ks) hj hr hl B
   exact⟨v',H',g1,g2,g3,g4,(fun z hz=>(by cases hz)),(fun z hz=>(by cases hz))⟩
  ·rw[if_neg (by decide),if_pos rfl]at hn ⊢
   obtain⟨v',H',g1,g2,g3,g4⟩:=node2 hj hr hl B (by simp[Bs.add]at hn;omega)
   have key:InB (s.add [c0,c1,c2,c3]).rl.length [(s.rl.length:Int)]:=fun z hz=>by
    simp at hz;subst hz;simp[Bs.add];omega
   exact⟨v',H',g1,g2,g3,g4,key,key⟩
  ·have hkv2:=hkv' h1
   subst hkv2
   rcases hk34 with rfl | rfl
   ·rw[if_neg (by decide),if_neg (by decide),if_pos rfl]at hn ⊢
    match ks,h1 with
    | k::ks,_=>exact node3 hj hr hl (by simp at hm;omega) hC B hn
   ·rw[if_neg (by decide),if_neg (by decide),if_neg (by decide),if_pos rfl]at hn ⊢
    exact node4 hj hr hl hm hC B hn
  ·have hkv2:=hkv' (by omega)
   subst hkv2
   match ks,h1 with
   | [k],_=>
    have e:∀{α:Type} (a b c d e:α),(if kd=1 then a else if kd=2 then b else if kd=3 then c else if kd=4 then d else e)=e:=fun a b c d e=>by
     rcases hk with rfl | rfl | rfl<;>rfl
    rw[e]at hn ⊢
    rw[one1_len]at hn
    obtain⟨v',H',g1,g2,g3,g4,g5,g6⟩:=node5 hk hj hr hl (hC k List.mem_cons_self) B hn
    refine⟨v',H',g1,g2,g3,g4,?_,?_⟩
    all_goals rw[one1_len]
    ·exact g5
    ·exact g6
end
end Go.Proofs.Ytnhennjliinplaa
