/- The builder: the first state. -/
import Derived.Test.YtnhennjliinplaaGC
set_option linter.all false
namespace Go.Proofs.Ytnhennjliinplaa
open Go Go.Hm
section
variable {C:Orc}{Q:Ex→Kt}{E:Env}{lk lim p:Nat}{H:Heap}{c:List AV}
def stH0 (H:Heap)(p:Nat)(c:List AV):Heap:=
 (H.set p (.cells (bdC (H.length+1) (H.length+2) (H.length+3) 1)))++[HB.map [],HB.cells c,HB.cells [I (-1)],HB.cells [AV.mp H.length]]
theorem st_reg0 (hp:H[p]?=some (.cells [.e0,.e0,.e0,.e0]))(hlk:lk≤p)(hlim:lim≤p)(hc:c.length=4)
  (hE:restrict [0,3,5] E=[(0,.hp p 4 0),(3,.box c),(5,I 0)]) (hQ:∀E',restrict [5] E'=[(5,I 0)]→Q .nrm E' (stH0 H p c)):
  WB ⟨C,lk,lim,[3]⟩ (.regD [0,3,5] 1 [
 kM 11 0,kM 12 0,kM 13 0,kM 14 0,kx 15 (.nilc (ux 14)),kF 16 0 15,kF 17 0 16,kL 18 17,kP 19 3 4 3,kx 20 (.buildS 1 [(.val (.int .u64 0)),(.val (.int .u64 0)),(.val (.int .u64 0)),(.val (.int .u64 0))] [(0,4,(ux 19))]),kf 21 (.app 4 32 (ux 18) (ux 20)),kM 22 0,kx 23 (.nilc (ux 22)),kF 24 0 23,kF 25 2 24,kL 26 25,kx 27 (.buildS 1 [(.val (.int .i64 0))] [(0,1,(.con (.val (.int .i64 (-1)))))]),kf 28 (.app 1 8 (ux 26) (ux 27)),kM 29 0,kx 30 (.nilc (ux 29)),kF 31 3 30,kL 32 31,⟨some 33,none,.mkm,0,false⟩,kx 34 (.buildS 1 [(.val (.map none))] [(0,1,(ux 33))]),kx 35 (.app 1 8 (ux 32) (ux 34)),kx 36 (.nilc (ux 11)),kF 37 0 36,kF 38 0 37,kn (.st none 1 (ux 38) (ux 21)),kx 39 (.nilc (ux 12)),kF 40 0 39,kF 41 2 40,kn (.st none 1 (ux 41) (ux 28)),kx 42 (.nilc (ux 13)),kF 43 3 42,kn (.st none 1 (ux 43) (ux 35))]) Q E H:=by
 have p0:p<H.length:=(List.getElem?_eq_some_iff.1 hp).1
 have up:∀{i:Nat} {x:HB},H[i]?=some x→(H++List.replicate 1 HB.hole)[i]?=some x:=fun h=>by rw[List.getElem?_append_left (List.getElem?_eq_some_iff.1 h).1,h]
 refine wb_regV (by decide) ?_
 unfold WD
 rw[hE]
 have r1:32≤room:=by unfold room;omega
 have r2:8≤room:=by unfold room;omega
 obtain⟨c0,c1,c2,c3,rfl⟩:∃c0 c1 c2 c3,c=[c0,c1,c2,c3]:=by
  match c,hc with
  | [a,b,c,d],_=>exact⟨a,b,c,d,rfl⟩
 have q0:H.length≠p:=by omega
 have u0:p≠H.length:=by omega
 have y0:=up hp
 have g1:∀(X:Heap),(H++X)[p]?=some (.cells [.e0,.e0,.e0,.e0]):=fun X=>by rw[List.getElem?_append_left p0,hp]
 have g2:∀(X:Heap) y,((H++X).set p y)[p]?=some y:=fun X y=>List.getElem?_set_self (by simp;omega)
 have g3:(H++[HB.map [],HB.cells [c0,c1,c2,c3],HB.cells [AV.val (Value.int IntKind.i64 (-1))],HB.cells [AV.mp H.length]]).set p (.cells (bdC (H.length+1) (H.length+2) (H.length+3) 1))=stH0 H p [c0,c1,c2,c3]:=by
  unfold stH0
  rw[List.set_append_left _ _ p0]
 unfold bdC at g3
 simp[runD,stepD,actD,exOp,wsSel,collW,okT,cls,rdTgt,wrTgt,isFree,isRow,guardI,clArgs,isCall,cls2,hp,srcCells,y0,g1,g2,hlk,hlim,q0,u0,setH,appC,appG,r1,r2]
 refine⟨_,_,⟨rfl,rfl⟩,?_,?_⟩
 ·repeat refine inv_cons2 rfl ?_
  exact inv_nil _
 ·rw[g3]
  exact hQ _ rfl
theorem st_bd0 (hp:H[p]?=some (.cells [.e0,.e0,.e0,.e0]))(hlk:lk≤p)(hlim:lim≤p)(hc:c.length=4):
  Bd lk lim (stH0 H p c) p (H.length+1) (H.length+2) (H.length+3) c [-1] [H.length] [[]]∧(∀b x,H[b]?=some x→b≠p→(stH0 H p c)[b]?=some x)∧(stH0 H p c).length=H.length+4:=by
 have p0:p<H.length:=(List.getElem?_eq_some_iff.1 hp).1
 have old:∀b x,H[b]?=some x→b≠p→(stH0 H p c)[b]?=some x:=fun b x hb hne=>by
  have:=(List.getElem?_eq_some_iff.1 hb).1
  unfold stH0
  rw[List.getElem?_append_left (by simpa using this),List.getElem?_set_ne (Ne.symm hne),hb]
 have new:∀i,(stH0 H p c)[H.length+i]?=[HB.map [],HB.cells c,HB.cells [I (-1)],HB.cells [AV.mp H.length]][i]?:=fun i=>by
  unfold stH0
  rw[List.getElem?_append_right (by simp),List.length_set,Nat.add_sub_cancel_left]
 refine⟨⟨?_,new 1,by simpa using hc,new 2,new 3,rfl,rfl,fun j m hj=>?_,⟨by omega,by omega,by omega,by omega,by omega,by omega⟩,⟨hlk,by omega,by omega,by omega⟩,⟨hlim,by omega,by omega,by omega⟩⟩,old,by simp[stH0]⟩
 ·unfold stH0
  rw[List.getElem?_append_left (by simpa using p0),List.getElem?_set_self p0];rfl
 ·cases j with
  | zero=>
   simp at hj
   subst hj
   exact⟨new 0,List.nodup_nil⟩
  | succ j=>simp at hj
theorem state_bd0 (hp:H[p]?=some (.cells [.e0,.e0,.e0,.e0]))(hlk:lk≤p)(hlim:lim≤p)(hc:c.length=4):
  ∃(v:AV) (H':Heap),callW X A lk lim 37 [.hp p 4 0,.agg c] H=some (v,H')∧∃q,v= .mp q∧Bd lk lim H' p (H.length+1) (H.length+2) (H.length+3) c [-1] [H.length] [[]]∧(∀b x,H[b]?=some x→b≠p→H'[b]?=some x)∧H.length≤H'.length∧IsS H' q [0]:=by
 have hX:X lk lim 37 [.hp p 4 0,.agg c] H=none:=noX1 (by decide) (by decide) (by decide)
 refine wb_callX [3] hX A37 rfl rfl ?_
 unfold t37B
 generalize callW X A=C
 simp[hp,hc]
 refine st_reg0 hp hlk hlim hc (by simp[restrict,find]) fun E' hE'=>?_
 rw[fol_nrm,wb_seq,wb_regN,hE']
 obtain⟨B1,K1,hl1⟩:=st_bd0 hp hlk hlim hc
 have p0:p<H.length:=(List.getElem?_eq_some_iff.1 hp).1
 generalize stH0 H p c=Z at B1 K1 hl1 ⊢
 have hlk:lk≤Z.length:=by omega
 have hm:mset false [1] (I 0) (.agg []) []=some [(I 0,.agg [])]:=mset_nil 0
 simp[hm,hlk]
 obtain⟨B2,K2⟩:=B1.more [HB.map (sE [0])]
 simp only[FinX,finish]
 refine⟨.mp Z.length,Z++[HB.map (sE [0])],by simp[resOf,resList,resOne,find,argOk,one];rfl,Z.length,rfl,B2,fun b x hb hne=>?_,by simp;omega,get_at0 _ _,by simp⟩
 have h1:=K1 b x hb hne
 rw[List.getElem?_append_left (List.getElem?_eq_some_iff.1 h1).1,h1]
end
end Go.Proofs.Ytnhennjliinplaa

namespace Go.Proofs.Ytnhennjliinplaa
open Go Go.Hm

theorem bump_in (i:Nat):∀(l u u':List Int),bump i l u=some u'→∀k∈l,0≤k∧k<(i:Int)
 | [],_,_,_=>fun _ h=>nomatch h
 | a::l,u,u',h=>by
  simp only[bump]at h
  split at h
  ·rename_i hc
   intro k hk
   rcases List.mem_cons.1 hk with rfl | hk
   ·exact hc
   ·exact bump_in i l _ u' h k hk
  ·cases h
theorem chkL_at:∀(R:List Nd) (i:Nat) (u u':List Int),chkL i R u=some u'→∀(j:Nat) (x:Nd),R[j]?=some x→∃v v',chkN (i+j) x v=some v'
 | [],_,_,_,_=>fun j x h=>by cases h
 | y::r,i,u,u',h=>by
  simp only[chkL]at h
  split at h
  ·rename_i u1 h1
   intro j x hj
   cases j with
   | zero=>simp at hj;subst hj;exact⟨u,u1,h1⟩
   | succ j=>
    obtain⟨v,v',hv⟩:=chkL_at r (i+1) u1 u' h j x (by simpa using hj)
    exact⟨v,v',by rw[show i+(j+1)=i+1+j from by omega];exact hv⟩
  ·cases h
theorem chkN_get {i:Nat}{x:Nd}{u u':List Int}(h:chkN i x u=some u'):arOk x.kd x.ks.length=true∧bump i x.ks u=some u':=by
 unfold chkN at h
 split at h
 ·rename_i hc;exact⟨hc.1,h⟩
 ·cases h
theorem chkR_get {R:List Nd}(h:chkR R=true):1≤R.length∧R.length≤512∧∃u,chkL 0 R (List.replicate R.length 0)=some u∧(u.take (R.length-1)).all (·==1)=true:=by
 unfold chkR at h
 simp only[Bool.and_eq_true,decide_eq_true_eq]at h
 obtain⟨⟨h1,h2⟩,h3⟩:=h
 split at h3
 ·rename_i u hu;exact⟨h1,h2,u,hu,h3⟩
 ·cases h3
theorem chkR_ok {R:List Nd}(h:chkR R=true)(hR:∀x∈R,NdOk x):RxOk R:=fun i x hx=>by
 obtain⟨_,_,u,hu,_⟩:=chkR_get h
 obtain⟨v,v',hv⟩:=chkL_at R 0 _ u hu i x hx
 rw[Nat.zero_add]at hv
 obtain⟨h1,h2⟩:=chkN_get hv
 refine⟨hR x (List.mem_of_getElem? hx),bump_in i _ _ _ h2,?_⟩
 unfold arOk at h1
 split at h1
 ·rename_i hc
  rcases hc with hc | hc
  ·exact .inl hc
  ·exact .inr (.inl hc)
 ·split at h1
  ·rename_i hc
   simp only[Bool.and_eq_true,decide_eq_true_eq]at h1
   exact .inr (.inr (.inl ⟨hc,by omega⟩))
  ·split at h1
   ·rename_i hc
    exact .inr (.inr (.inr ⟨hc,by simpa using h1⟩))
   ·cases h1
def lvC (R:List Nd):Nat→Int→Nat
 | 0,_=>0
 | f+1,k=>match R[k.toNat]? with
  | none=>0
  | some x=>if x.kd=1 then 0 else if x.kd=2 then 1 else if x.kd=3 then lvC R f (x.ks.headD 0)+(x.ks.tail.map (lvC R f)).sum
   else if x.kd=4 then (x.ks.map (lvC R f)).sum else lvC R f (x.ks.headD 0)
theorem catS_len {R:List Nd}{f:Nat}(ih:∀k s,(nodeM R f k s).1.rl.length=s.rl.length+lvC R f k):∀(l:List Int) (sp:Bs×Pl),(l.foldl (catS (nodeM R f)) sp).1.rl.length=sp.1.rl.length+(l.map (lvC R f)).sum
 | [],sp=>rfl
 | k::l,sp=>by
  show (l.foldl (catS (nodeM R f)) (catS (nodeM R f) sp k)).1.rl.length=_
  rw[catS_len ih l]
  show (nodeM R f k sp.1).1.rl.length+_=_
  rw[ih];simp;omega
theorem altS_len {R:List Nd}{f:Nat}(ih:∀k s,(nodeM R f k s).1.rl.length=s.rl.length+lvC R f k):∀(l:List Int) (sp:Bs×Pl),(l.foldl (altS (nodeM R f)) sp).1.rl.length=sp.1.rl.length+(l.map (lvC R f)).sum
 | [],sp=>rfl
 | k::l,sp=>by
  show (l.foldl (altS (nodeM R f)) (altS (nodeM R f) sp k)).1.rl.length=_
  rw[altS_len ih l]
  show (nodeM R f k sp.1).1.rl.length+_=_
  rw[ih];simp;omega
theorem nodeM_len (R:List Nd):∀f k s,(nodeM R f k s).1.rl.length=s.rl.length+lvC R f k
 | 0,k,s=>rfl
 | f+1,k,s=>by
  have ih:=nodeM_len R f
  simp only[nodeM,lvC]
  cases R[k.toNat]? with
  | none=>rfl
  | some x=>
   dsimp only
   by_cases h1:x.kd=1
   ·rw[if_pos h1,if_pos h1];rfl
   rw[if_neg h1,if_neg h1]
   by_cases h2:x.kd=2
   ·rw[if_pos h2,if_pos h2];simp[Bs.add]
   rw[if_neg h2,if_neg h2]
   by_cases h3:x.kd=3
   ·rw[if_pos h3,if_pos h3,catS_len ih,ih];omega
   rw[if_neg h3,if_neg h3]
   by_cases h4:x.kd=4
   ·rw[if_pos h4,if_pos h4,altS_len ih]
   rw[if_neg h4,if_neg h4,one1_len,ih]
theorem lvC_fuel {R:List Nd}(hR:RxOk R):∀(f g:Nat) (k:Nat),k<f→k<g→lvC R f k=lvC R g k
 | 0,_,_,h,_=>absurd h (Nat.not_lt_zero _)
 | _+1,0,_,_,h=>absurd h (Nat.not_lt_zero _)
 | f+1,g+1,k,hf,hg=>by
  simp only[lvC,Int.toNat_natCast]
  cases hx:R[k]? with
  | none=>rfl
  | some x=>
   obtain⟨_,hk,hkd⟩:=hR k x hx
   have e:∀q∈x.ks,lvC R f q=lvC R g q:=fun q hq=>by
    obtain⟨h0,h1⟩:=hk q hq
    obtain⟨q,rfl⟩:=Int.eq_ofNat_of_zero_le h0
    exact lvC_fuel hR f g q (by omega) (by omega)
   dsimp only
   split
   ·rfl
   ·split
    ·rfl
    ·rename_i h1 h2
     have hne:1≤x.ks.length:=by
      rcases hkd with h | h | h | h
      ·exact absurd h h1
      ·exact absurd h h2
      ·exact h.2
      ·omega
     obtain⟨a,l,hl⟩:∃a l,x.ks=a::l:=by
      cases hks:x.ks with
      | nil=>rw[hks]at hne;simp at hne
      | cons a l=>exact⟨a,l,rfl⟩
     rw[hl]at e ⊢
     have e1:=e a List.mem_cons_self
     have e2:l.map (lvC R f)=l.map (lvC R g):=List.map_congr_left fun q hq=>e q (List.mem_cons_of_mem _ hq)
     simp only[List.headD_cons,List.tail_cons,List.map_cons,e1,e2]
def wt (R:List Nd)(k:Nat):Int:=lvC R (k+1) k
theorem wt_le {R:List Nd}(hR:RxOk R){i:Nat}{x:Nd}(hx:R[i]?=some x):wt R i≤1+(x.ks.map fun k=>wt R k.toNat).sum:=by
 obtain⟨_,hk,hkd⟩:=hR i x hx
 have e:∀q∈x.ks,(lvC R i q:Int)=wt R q.toNat:=fun q hq=>by
  obtain⟨h0,h1⟩:=hk q hq
  obtain⟨q,rfl⟩:=Int.eq_ofNat_of_zero_le h0
  unfold wt
  rw[Int.toNat_natCast,lvC_fuel hR i (q+1) q (by omega) (by omega)]
 have hs:∀l:List Int,(∀q∈l,q∈x.ks)→(((l.map (lvC R i)).sum:Nat):Int)=(l.map fun k=>wt R k.toNat).sum:=fun l=>by
  induction l with
  | nil=>intro _;rfl
  | cons a l ih=>
   intro h
   rw[List.map_cons,List.map_cons,List.sum_cons,List.sum_cons,←ih fun q hq=>h q (List.mem_cons_of_mem _ hq),←e a (h a List.mem_cons_self)]
   omega
 have hnn:0≤(x.ks.map fun k=>wt R k.toNat).sum:=by rw[←hs x.ks fun _ h=>h];omega
 have h:=hs x.ks fun _ h=>h
 rw[wt]
 simp only[lvC,Int.toNat_natCast,hx]
 split
 ·simpa using by omega
 ·split
  ·show ((1:Nat):Int)≤_
   omega
  ·rename_i h1 h2
   have hne:1≤x.ks.length:=by
    rcases hkd with h | h | h | h
    ·exact absurd h h1
    ·exact absurd h h2
    ·exact h.2
    ·omega
   obtain⟨a,l,hl⟩:∃a l,x.ks=a::l:=by
    cases hks:x.ks with
    | nil=>rw[hks]at hne;simp at hne
    | cons a l=>exact⟨a,l,rfl⟩
   rw[hl]at h ⊢
   simp only[List.map_cons,List.sum_cons,List.headD_cons,List.tail_cons]at h ⊢
   split
   ·omega
   ·split
    ·omega
    ·have:(0:Int)≤((l.map (lvC R i)).sum:Nat):=by omega
     omega
def phi (w:Nat→Int)(u:List Int):Nat→Int
 | 0=>0
 | m+1=>phi w u m+w m*(1-u.getD m 0)
theorem phi_set (w:Nat→Int)(u:List Int)(k:Nat)(v:Int)(hk:k<u.length):∀m,phi w (u.set k v) m=phi w u m-if k<m then w k*(v-u.getD k 0) else 0
 | 0=>by simp[phi]
 | m+1=>by
  simp only[phi]
  rw[phi_set w u k v hk m]
  by_cases h1:k=m
  ·subst h1
   rw[if_neg (Nat.lt_irrefl _),if_pos (Nat.lt_succ_self _),List.getD_eq_getElem?_getD,List.getElem?_set_self hk]
   simp only[Option.getD_some,Int.mul_sub]
   omega
  ·have e:(u.set k v).getD m 0=u.getD m 0:=by rw[List.getD_eq_getElem?_getD,List.getD_eq_getElem?_getD,List.getElem?_set_ne h1]
   rw[e]
   by_cases h2:k<m
   ·rw[if_pos h2,if_pos (by omega)];omega
   ·rw[if_neg h2,if_neg (by omega)];omega
theorem bump_phi (w:Nat→Int)(i:Nat):∀(l u u':List Int),bump i l u=some u'→i≤u.length→phi w u' i=phi w u i-(l.map fun k=>w k.toNat).sum
 | [],u,u',h,_=>by simp only[bump,Option.some.injEq]at h;subst h;simp
 | a::l,u,u',h,hi=>by
  simp only[bump]at h
  split at h
  ·rename_i hc
   obtain⟨q,rfl⟩:=Int.eq_ofNat_of_zero_le hc.1
   rw[bump_phi w i l _ u' h (by simpa using hi),Int.toNat_natCast,phi_set w u q _ (by omega),if_pos (by omega)]
   simp only[List.map_cons,List.sum_cons,Int.toNat_natCast]
   rw[show u.getD q 0+1-u.getD q 0=1 from by omega,Int.mul_one];omega
  ·cases h
theorem bump_hi (i:Nat):∀(l u u':List Int),bump i l u=some u'→∀j,i≤j→u'.getD j 0=u.getD j 0
 | [],u,u',h=>by simp only[bump,Option.some.injEq]at h;subst h;intro _ _;rfl
 | a::l,u,u',h=>by
  simp only[bump]at h
  split at h
  ·rename_i hc
   intro j hj
   rw[bump_hi i l _ u' h j hj]
   simp only[List.getD_eq_getElem?_getD]
   rw[List.getElem?_set_ne (by omega)]
  ·cases h
theorem chkL_phi {R:List Nd}(hR:RxOk R):∀(n i:Nat) (u u':List Int),R.length-i=n→i≤R.length→u.length=R.length→chkL i (R.drop i) u=some u'→(∀j,i≤j→u.getD j 0=0)→phi (wt R) u i≤i→
   phi (wt R) u' R.length≤R.length∧(1≤R.length→i<R.length→u'.getD (R.length-1) 0=0)
 | 0,i,u,u',hn,hi,hul,h,hz,hp=>by
  obtain rfl:i=R.length:=by omega
  rw[List.drop_length]at h
  simp only[chkL,Option.some.injEq]at h
  subst h
  exact⟨hp,fun _ h=>absurd h (Nat.lt_irrefl _)⟩
 | n+1,i,u,u',hn,hi,hul,h,hz,hp=>by
  have hik:i<R.length:=by omega
  rw[List.drop_eq_getElem_cons hik]at h
  simp only[chkL]at h
  split at h
  ·rename_i u1 h1
   obtain⟨_,h2⟩:=chkN_get h1
   have hx:R[i]?=some R[i]:=List.getElem?_eq_getElem hik
   have hw:=wt_le hR hx
   have hb:=bump_phi (wt R) i _ u u1 h2 (by omega)
   have hz1:∀j,i≤j→u1.getD j 0=0:=fun j hj=>by rw[bump_hi i _ u u1 h2 j hj,hz j hj]
   have h3:phi (wt R) u1 (i+1)≤((i+1:Nat):Int):=by
    simp only[phi]
    rw[hz1 i (Nat.le_refl _),show (1:Int)-0=1 from rfl,Int.mul_one,hb]
    omega
   obtain⟨h4,h5⟩:=chkL_phi hR n (i+1) u1 u' (by omega) hik ((bump_len i _ u u1 h2).trans hul) h (fun j hj=>hz1 j (by omega)) h3
   refine⟨h4,fun h6 _=>?_⟩
   by_cases h7:i+1<R.length
   ·exact h5 h6 h7
   ·have:i+1=R.length:=by omega
    rw[this,List.drop_length]at h
    simp only[chkL,Option.some.injEq]at h
    subst h
    exact hz1 _ (by omega)
  ·cases h
theorem phi_ones (w:Nat→Int)(u:List Int):∀m,(∀j,j<m→u.getD j 0=1)→phi w u m=0
 | 0,_=>rfl
 | m+1,h=>by
  simp only[phi]
  rw[phi_ones w u m fun j hj=>h j (by omega),h m (Nat.lt_succ_self _)];simp
theorem node_few {R:List Nd}(hR:RxOk R)(h:chkR R=true)(s:Bs):(nodeM R R.length ((R.length-1:Nat):Int) s).1.rl.length≤s.rl.length+R.length:=by
 obtain⟨h1,_,u,hu,hall⟩:=chkR_get h
 obtain⟨h3,h4⟩:=chkL_phi hR R.length 0 (List.replicate R.length 0) u (by omega) (Nat.zero_le _) (by simp) (by simpa using hu) (fun j _=>by rw[List.getD_eq_getElem?_getD,List.getElem?_replicate];split<;>rfl) (by simp[phi])
 have h5:=h4 h1 (by omega)
 rw[nodeM_len]
 have hul:=chkL_len R 0 _ u hu
 rw[List.length_replicate]at hul
 have hone:∀j,j<R.length-1→u.getD j 0=1:=fun j hj=>by
  have hj2:j<(u.take (R.length-1)).length:=by rw[List.length_take];omega
  have:=List.all_eq_true.1 hall _ (List.getElem_mem hj2)
  rw[List.getElem_take]at this
  rw[List.getD_eq_getElem?_getD,List.getElem?_eq_getElem (by omega)]
  simpa using this
 obtain⟨m,hm⟩:∃m,R.length=m+1:=⟨R.length-1,by omega⟩
 rw[hm]at h3 hone h5 ⊢
 simp only[Nat.add_sub_cancel]at hone h5 ⊢
 simp only[phi]at h3
 rw[phi_ones _ _ m hone,h5]at h3
 have:wt R m=(lvC R (m+1) m:Int):=rfl
 omega
end Go.Proofs.Ytnhennjliinplaa

namespace Go.Proofs.Ytnhennjliinplaa
open Go Go.Hm

def fillI (z:Int):List Int→List Int→List Int
 | [],cs=>cs
 | k::l,cs=>fillI z l (cs.set k.toNat z)
theorem fillC_ints (z:Int):∀(l cs:List Int),fillC z l (ints cs)=ints (fillI z l cs)
 | [],cs=>rfl
 | k::l,cs=>by
  show fillC z l ((ints cs).set k.toNat (I z))=ints (fillI z l (cs.set k.toNat z))
  rw[←fillC_ints z l];simp[ints,List.map_set]
@[simp] theorem fillI_len (z:Int):∀(l cs:List Int),(fillI z l cs).length=cs.length
 | [],_=>rfl
 | k::l,cs=>by simp[fillI,fillI_len z l]
def a13:AC:=.regN [2,7,8,33,37,38,39] [kM 41 39,kI 42 1 37 39,kL 43 42,kM 9 41,kM 10 43]
def b13:AC:=.regN [2,7,8,9,10,33,37,38,39] [
 kM 44 7,kM 45 10,kM 46 10,kN 47 46,kx 48 (.bini .sub (ux 47) c1),kx 49 (.call 38 [(ux 44),(ux 45),(ux 48)]),kx 11 (.allocH [(.val (.bool false)),(.val (.map none)),(.val (.map none))]),kn (.st none 3 (ux 11) (ux 49))]
def jn13:AC:=.regN [2,7,8,9,11,33,37,38,39] [
 kM 50 7,kM 51 8,kF 52 1 11,kL 53 52,kx 54 (.call 39 [(ux 50),(ux 51),(ux 53)])]
def d13:AC:=.seq (.regN [2,7,8,9,11,33,37,38,39] [kF 55 2 11,kL 56 55]) (.rangeM [2,7,8,9,11,33,37,38,39] (preN 13 57) (ux 56) 57 60 t13R1)
def e13r:AC:=.regN [2,7,8,9,11,33,37,38,39] [
kF 70 0 11,kL 71 70,kM 72 71,yM 73 72 7,ky 74 72 (.nilc (ux 73)),yF 75 72 0 74,yF 76 72 2 75,yL 77 72 76,ky 78 72 (.ixA 1 (ux 77) c0),yL 79 72 78,ky 80 72 (.bini .lss (ux 79) c0),kx 81 (.pick (ux 72) (ux 80) cF)]
def f13r:AC:=.regN [2,7,8,9,33,37,38,39] [
kM 82 7,kx 83 (.nilc (ux 82)),kF 84 0 83,kF 85 2 84,kL 86 85,kM 87 9,kx 88 (.ixA 1 (ux 86) c0),kn (.st none 1 (ux 88) (ux 87))]
def g13:AC:=.regN [2,7,8,33,37,38,39] [kU 89 39,kM 39 89]
theorem e13:t13L3= .seq (.regN [2,7,8,33,37,38,39] [kT 40 39 38]) (.seq (.cond (ux 40) .skip (.exit 2)) (.seq (.block 3 (.seq a13 (.seq b13 (.seq jn13 (.seq d13 (.seq e13r (.cond (ux 81) f13r .skip))))))) g13)):=rfl
section
variable {C:Orc}{Q:Ex→Kt}{E:Env}{lk lim p q:Nat}{H H':Heap}{v2 v8 v33 v37 v38 v39:AV}{i n:Nat}{vs:List AV}
theorem a13_ok {m:Nat}{cs:List AV}(hi:i<n)(hv:vs[i]?=some (.sl m cs))
  (hE:restrict [2,7,8,33,37,38,39] E=[(2,v2),(7,.hp p 4 0),(8,v8),(33,v33),(37,.sl n vs),(38,v38),(39,I i)])
  (hQ:∀E',restrict [2,7,8,9,10,33,37,38,39] E'=[(2,v2),(7,.hp p 4 0),(8,v8),(9,I i),(10,.sl m cs),(33,v33),(37,.sl n vs),(38,v38),(39,I i)]→Q .nrm E' H):
  WB ⟨C,lk,lim,[]⟩ a13 Q E H:=by
 unfold a13
 rw[wb_regN,hE]
 simp[hi,hv]
 exact hQ _ rfl
theorem b13_ok {R:List Nd}{em:Bool}{f l:Nat}(hk:lk≤H'.length)(hlim:lim≤H'.length)(hR:1≤R.length)(hR2:R.length≤100000)(hc:C lk lim 38 [.hp p 4 0,.sl R.length (rxC R),I ((R.length-1:Nat):Int)] H=some (.agg [Bo em,.mp f,.mp l],H'))
  (hE:restrict [2,7,8,9,10,33,37,38,39] E=[(2,v2),(7,.hp p 4 0),(8,v8),(9,I i),(10,.sl R.length (rxC R)),(33,v33),(37,v37),(38,v38),(39,v39)])
  (hQ:∀E',restrict [2,7,8,9,11,33,37,38,39] E'=[(2,v2),(7,.hp p 4 0),(8,v8),(9,I i),(11,.hp H'.length 3 0),(33,v33),(37,v37),(38,v38),(39,v39)]→Q .nrm E' (H'++[.cells [Bo em,.mp f,.mp l]])):
  WB ⟨C,lk,lim,[]⟩ b13 Q E H:=by
 have w:IntKind.i64.wrap ((R.length:Int)-1)=((R.length-1:Nat):Int):=by rw[wrap64 (by omega) (by omega)];omega
 unfold b13
 rw[wb_regN,hE]
 generalize rxC R=cells at hc ⊢
 simp[w,hc,hk,hlim,setH]
 exact hQ _ rfl
theorem c13_ok {em:Bool}{f l b:Nat}(hb:H[b]?=some (.cells [Bo em,.mp f,.mp l]))(hc:C lk lim 39 [.hp p 4 0,.mp q,.mp f] H=some (.tup [],H'))
  (hE:restrict [2,7,8,9,11,33,37,38,39] E=[(2,v2),(7,.hp p 4 0),(8,.mp q),(9,I i),(11,.hp b 3 0),(33,v33),(37,v37),(38,v38),(39,v39)])
  (hQ:∀E',restrict [2,7,8,9,11,33,37,38,39] E'=[(2,v2),(7,.hp p 4 0),(8,.mp q),(9,I i),(11,.hp b 3 0),(33,v33),(37,v37),(38,v38),(39,v39)]→Q .nrm E' H'):
  WB ⟨C,lk,lim,[]⟩ jn13 Q E H:=by
 unfold jn13
 rw[wb_regN,hE]
 simp[hb,hc]
 exact hQ _ rfl
theorem d13_ok {em:Bool}{f l b rb:Nat}{ls:List Int}{cs:List AV}{c0 c1 c3:AV}(hb:H[b]?=some (.cells [Bo em,.mp f,.mp l]))(hl:IsS H l ls)(hp:H[p]?=some (.cells [c0,c1,.hs rb cs.length 0 cs.length 1,c3]))(hx:H[rb]?=some (.cells cs))(hlk:lk≤rb)(hpr:p≠rb)(hks:∀k∈ls,0≤k∧k<(cs.length:Int))
  (hbx:noBx [(2,v2),(7,.hp p 4 0),(8,.mp q),(9,I i),(11,.hp b 3 0),(33,v33),(37,v37),(38,v38),(39,v39)]=true)
  (hE:restrict [2,7,8,9,11,33,37,38,39] E=[(2,v2),(7,.hp p 4 0),(8,.mp q),(9,I i),(11,.hp b 3 0),(33,v33),(37,v37),(38,v38),(39,v39)])
  (hQ:∀E',restrict [2,7,8,9,11,33,37,38,39] E'=[(2,v2),(7,.hp p 4 0),(8,.mp q),(9,I i),(11,.hp b 3 0),(33,v33),(37,v37),(38,v38),(39,v39)]→Q .nrm E' ((H++[HB.cells []]).set rb (.cells (fillC i ls cs)))):
  WB ⟨C,lk,lim,[]⟩ d13 Q E H:=by
 have lt:∀{i:Nat} {x:HB},H[i]?=some x→i<H.length:=fun h=>(List.getElem?_eq_some_iff.1 h).1
 have up:∀{i:Nat} {x:HB},H[i]?=some x→(H++[HB.cells []])[i]?=some x:=fun h=>by rw[List.getElem?_append_left (lt h),h]
 have hrl:=lt hx
 have hkeys:keysIn cs.length (sE ls)=true:=List.all_eq_true.2 fun q hq=>by
  obtain⟨k,hk',rfl⟩:=List.mem_map.1 hq
  simpa[ent] using hks k hk'
 have hdec:(match Nat.decEq p rb with | .isTrue _=>false | .isFalse _=>true)=true:=by
  cases h:Nat.decEq p rb with
  | isTrue h'=>exact absurd h' hpr
  | isFalse h'=>rfl
 unfold d13
 rw[wb_seq,wb_regN,hE]
 simp[hb]
 have hpre:preFill lk (sE ls) [(2,v2),(7,.hp p 4 0),(8,.mp q),(9,I i),(11,.hp b 3 0),(33,v33),(37,v37),(38,v38),(39,v39)] H=true:=by
  simp[preFill,find,hp,hx,hkeys,hlk]
  exact hdec
 refine⟨l,sE ls,?_,?_⟩
 ·simp only[ev,find]
  exact rangeOf_sE hl.1 hl.2 hbx hpre
 ·rw[sE_len]
  refine fill_rounds (C:=C) (lk:=lk) (lim:=lim) (L:=H.length) (p:=p) (rb:=rb) (b:=l) (z:=i) (l0:=ls) rfl hlk hpr (by omega) ls rfl (up hp) (up hx) hks (up hl.1) (by rw[List.getElem?_append_right (Nat.le_refl _)];simp) ?_
  exact hQ _ rfl
theorem e13_ok {em:Bool}{v1 v3:AV}{b rb m:Nat}{rl:List Int}{c0 c1 c3:AV}(hb:H[b]?=some (.cells [Bo em,v1,v3]))(hp:H[p]?=some (.cells [c0,c1,.hs rb m 0 m 1,c3]))(hx:H[rb]?=some (.cells (ints rl)))(hm:rl.length=m)(h1:1≤m)
  (hE:restrict [2,7,8,9,11,33,37,38,39] E=[(2,v2),(7,.hp p 4 0),(8,.mp q),(9,I i),(11,.hp b 3 0),(33,v33),(37,v37),(38,v38),(39,v39)])
  (hQ:∀E',restrict [2,7,8,9,33,37,38,39] E'=[(2,v2),(7,.hp p 4 0),(8,.mp q),(9,I i),(33,v33),(37,v37),(38,v38),(39,v39)]→find E' 81=Bo (em&&decide (rl.getD 0 0<0))→Q .nrm E' H):
  WB ⟨C,lk,lim,[]⟩ e13r Q E H:=by
 obtain⟨z,hz⟩:∃z,rl.getD 0 0=z:=⟨_,rfl⟩
 obtain⟨r,rfl⟩:∃r,rl=z::r:=by
  cases rl with
  | nil=>simp at hm;omega
  | cons a r=>exact⟨r,by simp at hz;rw[hz]⟩
 have hl:(ints (z::r)).length=m:=by rw[ints_len,hm]
 have h0:(ints (z::r))[0]'(by omega)=I z:=rfl
 have h01:0<m:=h1
 unfold e13r
 rw[wb_regN,hE]
 cases em
 ·simp[hb]
  exact hQ _ rfl rfl
 ·by_cases hz0:z<0
  ·simp[hb,hp,hx,hl,h01,h1,h0,hz0]
   exact hQ _ rfl (by simp[find,hz0])
  ·simp[hb,hp,hx,hl,h01,h1,h0,hz0]
   exact hQ _ rfl (by simp[find,hz0])
theorem f13_ok {rb m:Nat}{cs:List AV}{c0 c1 c3:AV}(hp:H[p]?=some (.cells [c0,c1,.hs rb m 0 m 1,c3]))(hx:H[rb]?=some (.cells cs))(hm:cs.length=m)(h1:1≤m)(hlk:lk≤rb)(hlim:lim≤rb)
  (hE:restrict [2,7,8,9,33,37,38,39] E=[(2,v2),(7,.hp p 4 0),(8,.mp q),(9,I i),(33,v33),(37,v37),(38,v38),(39,v39)])
  (hQ:∀E',restrict [2,7,8,33,37,38,39] E'=[(2,v2),(7,.hp p 4 0),(8,.mp q),(33,v33),(37,v37),(38,v38),(39,v39)]→Q .nrm E' (H.set rb (.cells (cs.set 0 (I i))))):
  WB ⟨C,lk,lim,[]⟩ f13r Q E H:=by
 have h01:0<m:=h1
 have hrl:rb<H.length:=(List.getElem?_eq_some_iff.1 hx).1
 have hr:replaceAt cs 0 [I i]=cs.set 0 (I i):=replaceAt_one _ (by omega)
 unfold f13r
 rw[wb_regN,hE]
 simp[hp,hx,hm,h01,h1,hlk,hlim,setH,hr]
 exact hQ _ rfl
end
end Go.Proofs.Ytnhennjliinplaa

namespace Go.Proofs.Ytnhennjliinplaa
open Go Go.Hm

section
variable {lk lim p bc br bx:Nat}{H:Heap}{s:Bs}
theorem setr_bd (B:BdS lk lim H p bc br bx s)(rl:List Int)(h:rl.length=s.rl.length):BdS lk lim (H.set br (.cells (ints rl))) p bc br bx ⟨s.cl,rl,s.nx⟩∧Kp H (H.set br (.cells (ints rl))) p bc br bx:=by
 obtain⟨ms,B⟩:=B
 have hb:=(List.getElem?_eq_some_iff.1 B.hr).1
 have old:∀{i:Nat} {x:HB},i≠br→H[i]?=some x→(H.set br (.cells (ints rl)))[i]?=some x:=fun hne hi=>by
  rw[List.getElem?_set_ne (Ne.symm hne)];exact hi
 obtain⟨n1,n2,n3,n4,n5,n6⟩:=B.ne
 refine⟨⟨ms,?_,old n4 B.hc,?_,List.getElem?_set_self hb,old n6.symm B.hx,?_,?_,fun j m hj=>?_,B.ne,B.lk_,B.lim_⟩,by simp,fun b x hb _ _ hne _=>old hne hb⟩
 ·rw[h];exact old n2 B.hp
 ·rw[h];exact B.lc
 ·rw[h];exact B.lx
 ·rw[h];exact B.ln
 ·obtain⟨h1,h2⟩:=B.hs j m hj
  exact⟨old (B.nmap h1).2.2.1 h1,h2⟩
theorem BdS.more (B:BdS lk lim H p bc br bx s)(X:Heap):BdS lk lim (H++X) p bc br bx s∧Kp H (H++X) p bc br bx:=by
 obtain⟨ms,B⟩:=B
 exact⟨⟨ms,(B.more X).1⟩,(B.more X).2⟩
end
def oneB (i:Nat)(R:List Nd)(s:Bs):Bs:=
 ⟨(nodeM R R.length ((R.length-1:Nat):Int) s).1.cl,
  if ((nodeM R R.length ((R.length-1:Nat):Int) s).2.em&&decide ((fillI i (nodeM R R.length ((R.length-1:Nat):Int) s).2.la (nodeM R R.length ((R.length-1:Nat):Int) s).1.rl).getD 0 0<0))=true then (fillI i (nodeM R R.length ((R.length-1:Nat):Int) s).2.la (nodeM R R.length ((R.length-1:Nat):Int) s).1.rl).set 0 i
  else fillI i (nodeM R R.length ((R.length-1:Nat):Int) s).2.la (nodeM R R.length ((R.length-1:Nat):Int) s).1.rl,
  joinM (nodeM R R.length ((R.length-1:Nat):Int) s).1.nx [0] (nodeM R R.length ((R.length-1:Nat):Int) s).2.fi⟩
theorem oneB_len (i:Nat)(R:List Nd)(s:Bs):(oneB i R s).rl.length=(nodeM R R.length ((R.length-1:Nat):Int) s).1.rl.length:=by
 unfold oneB;dsimp only;split<;>simp
def buildM:Nat→List (List Nd)→Bs→Bs
 | _,[],s=>s
 | i,R::r,s=>buildM (i+1) r (oneB i R s)
def RvOk (v:AV)(R:List Nd):Prop:=((v= .e0∧R=[])∨v= .sl R.length (rxC R))∧∀x∈R,NdOk x∧Cl4 x∧x.ks.length≤100000
section
variable {Q:Ex→Kt}{E:Env}{lk lim p bc br bx q a i n:Nat}{H0 H:Heap}{s:Bs}{lv v38 v39:AV}{vs:List AV}{Ls:List (List Nd)}
def Sd (H0 H:Heap)(p bc br bx q a:Nat):Prop:=IsS H q [0]∧H[a]?=some (.cells [.e0,.e0,.e0])∧(a≠p∧a≠bc∧a≠br∧a≠bx)∧(∀(b:Nat) (x:HB),H0[b]?=some x→H[b]?=some x)∧H0.length≤p∧H0.length≤bc∧H0.length≤br∧H0.length≤bx
theorem Sd.kp {H0 H H':Heap}(B:BdS lk lim H p bc br bx s)(k:Kp H H' p bc br bx)(h:Sd H0 H p bc br bx q a):Sd H0 H' p bc br bx q a:=by
 obtain⟨ms,B⟩:=B
 obtain⟨h1,h2,⟨h3,h4,h5,h6⟩,h7,h8,h9,h10,h11⟩:=h
 exact⟨h1.kp B k,k.2 a _ h2 h3 h4 h5 h6,⟨h3,h4,h5,h6⟩,fun b x hb=>by
  have:=(List.getElem?_eq_some_iff.1 hb).1
  exact k.2 b x (h7 b x hb) (by omega) (by omega) (by omega) (by omega),h8,h9,h10,h11⟩
abbrev bl13:AC:=.seq a13 (.seq b13 (.seq jn13 (.seq d13 (.seq e13r (.cond (ux 81) f13r .skip)))))
theorem round13 {R:List Nd}(hi:i<n)(hv:vs[i]?=some (.sl R.length (rxC R)))(hok:RxOk R)(hch:chkR R=true)(B:BdS lk lim H p bc br bx s)(S:Sd H0 H p bc br bx q a)(h1:1≤s.rl.length)(hn:s.rl.length≤900000)
  (hE:restrict [2,7,8,33,37,38,39] E=[(2,.hp a 3 0),(7,.hp p 4 0),(8,.mp q),(33,.hp p 4 0),(37,.sl n vs),(38,I n),(39,I i)])
  (hQ:∀E' H',restrict [2,7,8,33,37,38,39] E'=[(2,.hp a 3 0),(7,.hp p 4 0),(8,.mp q),(33,.hp p 4 0),(37,.sl n vs),(38,I n),(39,I i)]→BdS lk lim H' p bc br bx (oneB i R s)→Sd H0 H' p bc br bx q a→Q .nrm E' H'):
  WB ⟨callW X A,lk,lim,[]⟩ bl13 Q E H:=by
 obtain⟨g1,g2,_⟩:=chkR_get hch
 have hfew:=node_few hok hch s
 have hN:=node_bd (lk:=lk) (lim:=lim) (p:=p) (bc:=bc) (br:=br) (bx:=bx) hok R.length (R.length-1) (by omega) (by omega) H s B (by omega)
 have hge:=nodeM_le R R.length ((R.length-1:Nat):Int) s
 have hoM:oneB i R s=oneB i R s:=rfl
 unfold oneB at hQ
 generalize nodeM R R.length ((R.length-1:Nat):Int) s=qq at hN hQ hfew hge
 obtain⟨s1,P⟩:=qq
 obtain⟨em,fi,la⟩:=P
 dsimp only at hN hQ hfew hge
 obtain⟨v,H1,hc,B1,K1,⟨f,l,rfl,hf,hl⟩,hfi,hla⟩:=hN
 have S1:=S.kp B K1
 clear hoM
 rw[wb_seq]
 refine a13_ok hi hv hE fun E1 hE1=>?_
 rw[fol_nrm,wb_seq]
 have hlk1:lk≤H1.length∧lim≤H1.length:=by
  obtain⟨ms,B1⟩:=B1
  have h1:=B1.lk_.1
  have h2:=B1.lim_.1
  have h3:=(List.getElem?_eq_some_iff.1 B1.hp).1
  omega
 refine b13_ok (H':=H1) hlk1.1 hlk1.2 g1 (by omega) hc hE1 fun E2 hE2=>?_
 rw[fol_nrm,wb_seq]
 obtain⟨B2,K2⟩:=B1.more [HB.cells [Bo em,.mp f,.mp l]]
 have S2:=S1.kp B1 K2
 have hcell:(H1++[HB.cells [Bo em,.mp f,.mp l]])[H1.length]?=some (.cells [Bo em,.mp f,.mp l]):=by
  rw[List.getElem?_append_right (Nat.le_refl _)];simp
 have hpl:∀{x:Nat},x<H1.length→H1.length≠x:=fun h=>by omega
 have hout:H1.length≠p∧H1.length≠bc∧H1.length≠br∧H1.length≠bx:=by
  obtain⟨ms,B1⟩:=B1
  exact⟨hpl (List.getElem?_eq_some_iff.1 B1.hp).1,hpl (List.getElem?_eq_some_iff.1 B1.hc).1,hpl (List.getElem?_eq_some_iff.1 B1.hr).1,hpl (List.getElem?_eq_some_iff.1 B1.hx).1⟩
 obtain⟨ms1,B1'⟩:=B1
 have hf2:=hf.kp B1' K2
 have hl2:=hl.kp B1' K2
 obtain⟨ms2,B2⟩:=B2
 generalize hHZ:H1++[HB.cells [Bo em,.mp f,.mp l]]=Z2 at *
 generalize H1.length=b at *
 obtain⟨H3,ms3,hj,B3,K3⟩:=join_bd B2 S2.1 hf2 (fun k hk=>by simp at hk;subst hk;omega)
 refine c13_ok hcell hj hE2 fun E3 hE3=>?_
 rw[fol_nrm,wb_seq]
 have hcell3:=K3.2 _ _ hcell hout.1 hout.2.1 hout.2.2.1 hout.2.2.2
 have hl3:=hl2.kp B2 K3
 have S3:=S2.kp ⟨_,B2⟩ K3
 have hrl:(ints s1.rl).length=s1.rl.length:=ints_len _
 have hp3:H3[p]?=some (.cells [.hs bc (s1.rl.length*4) 0 s1.rl.length 4,.e0,.hs br (ints s1.rl).length 0 (ints s1.rl).length 1,.hs bx s1.rl.length 0 s1.rl.length 1]):=by rw[hrl];exact B3.hp
 refine d13_ok hcell3 hl3 hp3 B3.hr B3.lk_.2.2.1 B3.ne.2.1 (fun k hk=>by rw[hrl];exact hla k hk) rfl hE3 fun E4 hE4=>?_
 rw[fol_nrm,wb_seq,fillC_ints]
 have B3':BdS lk lim H3 p bc br bx ⟨s1.cl,s1.rl,joinM s1.nx [0] fi⟩:=⟨_,B3⟩
 obtain⟨B4,K4⟩:=B3'.more [HB.cells []]
 have S4:=S3.kp B3' K4
 obtain⟨B5,K5⟩:=setr_bd B4 (fillI i la s1.rl) (by simp)
 have S5:=S4.kp B4 K5
 have hcell5:=K5.2 _ _ (K4.2 _ _ hcell3 hout.1 hout.2.1 hout.2.2.1 hout.2.2.2) hout.1 hout.2.1 hout.2.2.1 hout.2.2.2
 generalize (H3++[HB.cells []]).set br (.cells (ints (fillI i la s1.rl)))=Z5 at B5 K5 S5 hcell5 ⊢
 have B5c:=B5
 obtain⟨ms5,B5'⟩:=B5
 refine e13_ok hcell5 B5'.hp B5'.hr rfl (by simp;omega) hE4 fun E5 hE5 h81=>?_
 rw[fol_nrm]
 cases hcd:(em&&decide ((fillI i la s1.rl).getD 0 0<0))
 ·dsimp only at h81
  rw[hcd]at h81 hQ
  rw[wb_false (ev_bo h81),wb_skip]
  refine hQ _ _ ?_ B5c S5
  have e:∀t∈[2,7,8,9,33,37,38,39],find E5 t=find (restrict [2,7,8,9,33,37,38,39] E5) t:=fun t ht=>by
   simp at ht
   rcases ht with rfl | rfl | rfl | rfl | rfl | rfl | rfl | rfl<;>rfl
  simp only[restrict,List.map_cons,List.map_nil]
  rw[e 2 (by simp),e 7 (by simp),e 8 (by simp),e 33 (by simp),e 37 (by simp),e 38 (by simp),e 39 (by simp),hE5]
  rfl
 ·dsimp only at h81
  rw[hcd]at h81 hQ
  rw[wb_true (ev_bo h81)]
  refine f13_ok B5'.hp B5'.hr (by simp) (by simp;omega) B5'.lk_.2.2.1 B5'.lim_.2.2.1 hE5 fun E6 hE6=>?_
  obtain⟨B6,K6⟩:=setr_bd B5c ((fillI i la s1.rl).set 0 i) (by simp)
  have S6:=S5.kp B5c K6
  have e0:(ints (fillI i la s1.rl)).set 0 (I i)=ints ((fillI i la s1.rl).set 0 i):=by simp[ints,List.map_set]
  rw[e0]
  exact hQ _ _ hE6 B6 S6
end
end Go.Proofs.Ytnhennjliinplaa

namespace Go.Proofs.Ytnhennjliinplaa
open Go Go.Hm

def NxB (s:Bs):Prop:=(∀l∈s.nx,InB s.rl.length l)∧(∀c∈s.cl,∃z,c=U z)
theorem InB.mono {m n:Nat}(h:m≤n){l:List Int}(k:InB m l):InB n l:=fun x hx=>by have:=k x hx;omega
theorem joinM_in {nx:List (List Int)}{l v:List Int}{n:Nat}(h:∀l∈nx,InB n l)(hv:InB n v):∀r∈joinM nx l v,InB n r:=fun r hr=>by
 unfold joinM at hr
 obtain⟨j,hj,rfl⟩:=List.mem_map.1 hr
 have hj:=List.mem_range.1 hj
 have hg:InB n (nx.getD j []):=by
  rw[List.getD_eq_getElem?_getD,List.getElem?_eq_getElem hj]
  exact h _ (List.getElem_mem hj)
 split
 ·intro x hx
  rcases mem_unI.1 hx with hx | hx
  ·exact hg x hx
  ·exact hv x hx
 ·exact hg
theorem NxB.join {s:Bs}(h:NxB s){l v:List Int}(hv:InB s.rl.length v):NxB (s.join l v):=⟨joinM_in h.1 hv,h.2⟩
def Nb (R:List Nd)(f:Nat):Prop:=∀k s,NxB s→NxB (nodeM R f k s).1∧InB (nodeM R f k s).1.rl.length (nodeM R f k s).2.fi∧InB (nodeM R f k s).1.rl.length (nodeM R f k s).2.la
theorem un_in {n:Nat}{a b:List Int}(ha:InB n a)(hb:InB n b):InB n (unI a b):=fun x hx=>by
 rcases mem_unI.1 hx with hx | hx
 ·exact ha x hx
 ·exact hb x hx
theorem catS_nb {R:List Nd}{f:Nat}(ih:Nb R f):∀(l:List Int) (sp:Bs×Pl),NxB sp.1→InB sp.1.rl.length sp.2.fi→InB sp.1.rl.length sp.2.la→NxB (l.foldl (catS (nodeM R f)) sp).1∧InB (l.foldl (catS (nodeM R f)) sp).1.rl.length (l.foldl (catS (nodeM R f)) sp).2.fi∧InB (l.foldl (catS (nodeM R f)) sp).1.rl.length (l.foldl (catS (nodeM R f)) sp).2.la
 | [],sp,h,h1,h2=>⟨h,h1,h2⟩
 | k::l,sp,h,h1,h2=>by
  obtain⟨k1,k2,k3⟩:=ih k sp.1 h
  have hle:=nodeM_le R f k sp.1
  refine catS_nb ih l (catS (nodeM R f) sp k) (k1.join k2) ?_ ?_
  ·show InB (nodeM R f k sp.1).1.rl.length (if _ then _ else _)
   split
   ·exact un_in (h1.mono hle) k2
   ·exact h1.mono hle
  ·show InB (nodeM R f k sp.1).1.rl.length (if _ then _ else _)
   split
   ·exact un_in (h2.mono hle) k3
   ·exact k3
theorem altS_nb {R:List Nd}{f:Nat}(ih:Nb R f):∀(l:List Int) (sp:Bs×Pl),NxB sp.1→InB sp.1.rl.length sp.2.fi→InB sp.1.rl.length sp.2.la→NxB (l.foldl (altS (nodeM R f)) sp).1∧InB (l.foldl (altS (nodeM R f)) sp).1.rl.length (l.foldl (altS (nodeM R f)) sp).2.fi∧InB (l.foldl (altS (nodeM R f)) sp).1.rl.length (l.foldl (altS (nodeM R f)) sp).2.la
 | [],sp,h,h1,h2=>⟨h,h1,h2⟩
 | k::l,sp,h,h1,h2=>by
  obtain⟨k1,k2,k3⟩:=ih k sp.1 h
  have hle:=nodeM_le R f k sp.1
  exact altS_nb ih l (altS (nodeM R f) sp k) k1 (un_in (h1.mono hle) k2) (un_in (h2.mono hle) k3)
theorem in_nil {n:Nat}:InB n []:=fun _ h=>nomatch h
theorem nodeM_nb {R:List Nd}(hcl:∀x∈R,Cl4 x):∀f,Nb R f
 | 0=>fun k s h=>⟨h,in_nil,in_nil⟩
 | f+1=>fun k s h=>by
  have ih:=nodeM_nb hcl f
  simp only[nodeM]
  cases hx:R[k.toNat]? with
  | none=>exact⟨h,in_nil,in_nil⟩
  | some x=>
   dsimp only
   by_cases h1:x.kd=1
   ·rw[if_pos h1];exact⟨h,in_nil,in_nil⟩
   rw[if_neg h1]
   by_cases h2:x.kd=2
   ·rw[if_pos h2]
    have hin:InB (s.add x.cs).rl.length [(s.rl.length:Int)]:=fun z hz=>by simp at hz;subst hz;simp[Bs.add];omega
    refine⟨⟨fun l hl=>?_,fun c hc=>?_⟩,hin,hin⟩
    ·rcases List.mem_append.1 hl with hl | hl
     ·exact(h.1 l hl).mono (by simp[Bs.add])
     ·simp at hl;subst hl;exact in_nil
    ·rcases List.mem_append.1 hc with hc | hc
     ·exact h.2 c hc
     ·obtain⟨a,b,c',d,e⟩:=hcl x (List.mem_of_getElem? hx)
      rw[e]at hc
      simp at hc
      rcases hc with rfl | rfl | rfl | rfl<;>exact⟨_,rfl⟩
   rw[if_neg h2]
   by_cases h3:x.kd=3
   ·rw[if_pos h3]
    obtain⟨k1,k2,k3⟩:=ih (x.ks.headD 0) s h
    exact catS_nb ih _ _ k1 k2 k3
   rw[if_neg h3]
   by_cases h4:x.kd=4
   ·rw[if_pos h4];exact altS_nb ih _ _ h in_nil in_nil
   rw[if_neg h4]
   obtain⟨k1,k2,k3⟩:=ih (x.ks.headD 0) s h
   rw[one1_len]
   refine⟨?_,k2,k3⟩
   unfold one1
   dsimp only
   split
   ·exact k1
   ·exact k1.join k2
theorem oneB_nb {R:List Nd}(hcl:∀x∈R,Cl4 x)(i:Nat){s:Bs}(h:NxB s):NxB (oneB i R s):=by
 obtain⟨k1,k2,k3⟩:=nodeM_nb hcl R.length ((R.length-1:Nat):Int) s h
 refine⟨?_,k1.2⟩
 rw[oneB_len]
 exact joinM_in k1.1 k2
theorem buildM_nb:∀(Ls:List (List Nd)) (i:Nat) (s:Bs),(∀R∈Ls,∀x∈R,Cl4 x)→NxB s→NxB (buildM i Ls s)
 | [],_,s,_,h=>h
 | R::r,i,s,hc,h=>buildM_nb r (i+1) (oneB i R s) (fun R hR=>hc R (List.mem_cons_of_mem _ hR)) (oneB_nb (hc R List.mem_cons_self) i h)
theorem oneB_few {R:List Nd}(hok:RxOk R)(hch:chkR R=true)(i:Nat)(s:Bs):s.rl.length≤(oneB i R s).rl.length∧(oneB i R s).rl.length≤s.rl.length+512:=by
 rw[oneB_len]
 have h1:=node_few hok hch s
 have h2:=nodeM_le R R.length ((R.length-1:Nat):Int) s
 have h3:=(chkR_get hch).2.1
 omega
def s00:Bs:=⟨[U 0,U 0,U 0,U 0],[-1],[[]]⟩
theorem s00_nb:NxB s00:=⟨fun l hl=>by simp[s00]at hl;subst hl;exact in_nil,fun c hc=>by simp[s00]at hc;exact⟨0,hc⟩⟩
def rowV (l:List Int):AV:=.sl (normI l).length (ints (normI l))
def erB (e:Int):AV:=.tup [.agg [.e0,.e0,.e0],I e]
def buildR (Ls:List (List Nd)):AV:=if 16<Ls.length then erB 3 else if Ls.all chkR=false then erB 2 else
 if 1024<(buildM 0 Ls s00).rl.length then erB 10
 else .tup [.agg [.sl (buildM 0 Ls s00).rl.length (buildM 0 Ls s00).cl,.sl (buildM 0 Ls s00).rl.length ((buildM 0 Ls s00).nx.map rowV),.sl (buildM 0 Ls s00).rl.length (ints (buildM 0 Ls s00).rl)],I 0]
end Go.Proofs.Ytnhennjliinplaa

namespace Go.Proofs.Ytnhennjliinplaa
open Go Go.Hm

section
variable {C:Orc}{Q:Ex→Kt}{E:Env}{lk lim p bc br bx q a:Nat}{H0 H:Heap}{lv:AV}{vs:List AV}{Ls:List (List Nd)}
def LsOk (lv:AV)(vs:List AV)(Ls:List (List Nd)):Prop:=((lv= .e0∧Ls=[])∨lv= .sl Ls.length vs)∧∀(j:Nat) R,Ls[j]?=some R→∃v,vs[j]?=some v∧RvOk v R
set_option maxRecDepth 20000 in
theorem chks13 (hL:LsOk lv vs Ls)(hn:Ls.length≤1000)(hC:∀v R,RvOk v R→C lk lim 36 [v] H=some (I (if chkR R then 0 else 2),H))(ha:H[a]?=some (.cells [.e0,.e0,.e0]))(hlk:lk≤a)(hlim:lim≤a)
  (hE:restrict [0,2,19,20,21] E=[(0,lv),(2,.hp a 3 0),(19,lv),(20,I Ls.length),(21,I 0)])
  (hQ:Ls.all chkR=true→∀E',restrict [0,2] E'=[(0,lv),(2,.hp a 3 0)]→Q .nrm E' H)
  (hR:Ls.all chkR=false→∀E',find E' 2= .hp a 3 0→find E' 3=I 2→Q .ret E' H):
  WB ⟨C,lk,lim,[]⟩ (.block 0 (.loop [0,2,19,20,21] t13L2)) Q E H:=by
 refine wb_loop (σ:=Nat) (fun i=>[(0,lv),(2,.hp a 3 0),(19,lv),(20,I Ls.length),(21,I i)]) (fun _=>H) (fun i=>i≤Ls.length∧(Ls.take i).all chkR=true) (fun i=>Ls.length-i) ?_ 0 ⟨Nat.zero_le _,rfl⟩ hE rfl
 rintro i ⟨hi,hall⟩
 unfold t13L2
 by_cases hk:i<Ls.length
 case neg=>
  obtain rfl:i=Ls.length:=by omega
  rw[List.take_length]at hall
  simp
  exact hQ hall _ rfl
 obtain⟨R,hRi⟩:∃R,Ls[i]?=some R:=⟨Ls[i],List.getElem?_eq_getElem hk⟩
 obtain⟨hlv,hvs⟩:=hL
 obtain⟨v,hv,hvR⟩:=hvs i R hRi
 obtain rfl:lv= .sl Ls.length vs:=by
  rcases hlv with⟨_,h⟩ | h
  ·subst h;simp at hk
  ·exact h
 have hcv:=hC v R hvR
 have hset:H.set a (.cells [.e0,.e0,.e0])=H:=set_self ha
 have hal:a<H.length:=(List.getElem?_eq_some_iff.1 ha).1
 have w:IntKind.i64.wrap ((i:Int)+1)=(i:Int)+1:=wrap64 (by omega) (by omega)
 have hnext:(Ls.take (i+1)).all chkR=((Ls.take i).all chkR&&chkR R):=by
  rw[List.take_add_one,hRi];simp
 have hki:(i:Int)<(Ls.length:Int):=by omega
 generalize hP:Rnd _ _ _ _ _ _ _=P
 cases hc:chkR R with
 | true=>
  rw[hc,if_pos rfl]at hcv
  rcases hvR.1 with⟨rfl,_⟩ | rfl
  ·simp[hk,hv,hcv,w]
   rw[←hP,rnd_nrm]
   exact⟨i+1,⟨hk,by rw[hnext,hall,hc];rfl⟩,by omega,rfl,rfl⟩
  ·generalize rxC R=cs at hv hcv
   simp[hk,hv,hcv,w]
   rw[←hP,rnd_nrm]
   exact⟨i+1,⟨hk,by rw[hnext,hall,hc];rfl⟩,by omega,rfl,rfl⟩
 | false=>
  rw[hc,if_neg (by decide)]at hcv
  have hno:Ls.all chkR=false:=by
   rw[Bool.eq_false_iff]
   intro h
   have:=List.all_eq_true.1 h R (List.mem_of_getElem? hRi)
   rw[hc]at this;cases this
  rcases hvR.1 with⟨rfl,_⟩ | rfl
  ·simp[hk,hv,hcv,ha,hlk,hlim,setH,hset]
   rw[←hP]
   exact hR hno _ rfl rfl
  ·generalize rxC R=cs at hv hcv
   simp[hk,hv,hcv,ha,hlk,hlim,setH,hset]
   rw[←hP]
   exact hR hno _ rfl rfl
theorem buildM_cons {i:Nat}{R:List Nd}{s:Bs}(h:Ls[i]?=some R):buildM i (Ls.drop i) s=buildM (i+1) (Ls.drop (i+1)) (oneB i R s):=by
 obtain⟨hi,hR⟩:=List.getElem?_eq_some_iff.1 h
 rw[List.drop_eq_getElem_cons hi,hR]
 rfl
set_option maxRecDepth 20000 in
theorem rules13 {s0:Bs}(hL:LsOk lv vs Ls)(hn:Ls.length≤16)(hall:Ls.all chkR=true)(B:BdS lk lim H p bc br bx s0)(S:Sd H0 H p bc br bx q a)(h1:s0.rl.length=1)
  (hE:restrict [2,7,8,33,37,38,39] E=[(2,.hp a 3 0),(7,.hp p 4 0),(8,.mp q),(33,.hp p 4 0),(37,lv),(38,I Ls.length),(39,I 0)])
  (hQ:∀E' H',restrict [2,7,33] E'=[(2,.hp a 3 0),(7,.hp p 4 0),(33,.hp p 4 0)]→BdS lk lim H' p bc br bx (buildM 0 Ls s0)→Sd H0 H' p bc br bx q a→1≤(buildM 0 Ls s0).rl.length→(buildM 0 Ls s0).rl.length≤10000→Q .nrm E' H'):
  WB ⟨callW X A,lk,lim,[]⟩ (.block 2 (.loop [2,7,8,33,37,38,39] t13L3)) Q E H:=by
 refine wb_loop (σ:=Nat×Bs×Heap) (fun z=>[(2,.hp a 3 0),(7,.hp p 4 0),(8,.mp q),(33,.hp p 4 0),(37,lv),(38,I Ls.length),(39,I z.1)]) (fun z=>z.2.2)
  (fun z=>z.1≤Ls.length∧buildM z.1 (Ls.drop z.1) z.2.1=buildM 0 Ls s0∧BdS lk lim z.2.2 p bc br bx z.2.1∧Sd H0 z.2.2 p bc br bx q a∧1≤z.2.1.rl.length∧z.2.1.rl.length≤1+512*z.1) (fun z=>Ls.length-z.1) ?_ (0,s0,H) ⟨Nat.zero_le _,rfl,B,S,by simp[h1],by simp[h1]⟩ hE rfl
 rintro⟨i,s,H⟩ ⟨hi,hb,B,S,hl1,hl2⟩
 dsimp only at hi hb B S hl1 hl2 ⊢
 by_cases hk:i<Ls.length
 case neg=>
  obtain rfl:i=Ls.length:=by omega
  rw[List.drop_length]at hb
  have hb:s=buildM 0 Ls s0:=hb
  rw[←hb]at hQ
  unfold t13L3
  generalize hP:Rnd _ _ _ _ _ _ _=P
  simp
  rw[←hP]
  exact hQ _ _ rfl B S hl1 (by omega)
 obtain⟨R,hRi⟩:∃R,Ls[i]?=some R:=⟨Ls[i],List.getElem?_eq_getElem hk⟩
 obtain⟨hlv,hvs⟩:=hL
 obtain⟨v,hv,hvR⟩:=hvs i R hRi
 obtain rfl:lv= .sl Ls.length vs:=by
  rcases hlv with⟨_,h⟩ | h
  ·subst h;simp at hk
  ·exact h
 have hch:=List.all_eq_true.1 hall R (List.mem_of_getElem? hRi)
 obtain⟨g1,_⟩:=chkR_get hch
 obtain rfl:v= .sl R.length (rxC R):=by
  rcases hvR.1 with⟨_,h⟩ | h
  ·subst h;simp at g1
  ·exact h
 have hok:RxOk R:=chkR_ok hch fun x hx=>(hvR.2 x hx).1
 have w:IntKind.i64.wrap ((i:Int)+1)=(i:Int)+1:=wrap64 (by omega) (by omega)
 rw[e13]
 generalize hP:Rnd _ _ _ _ _ _ _=P
 rw[wb_seq,wb_regN]
 simp[-wb_true,-wb_false,-wb_seq,-wb_block,-wb_regN,hk]
 rw[wb_seq,wb_true (ev_bo rfl),wb_skip,fol_nrm,wb_seq,wb_block]
 refine round13 (lk:=lk) (lim:=lim) (bc:=bc) (br:=br) (bx:=bx) (a:=a) (s:=s) (R:=R) (n:=Ls.length) hk hv hok hch B S hl1 (by omega) rfl fun E' H' hE' B' S'=>?_
 rw[blk_nrm,fol_nrm]
 unfold g13
 rw[wb_regN,hE']
 simp[w]
 rw[←hP,rnd_nrm]
 obtain⟨f1,f2⟩:=oneB_few hok hch i s
 exact⟨(i+1,oneB i R s,H'),⟨hk,by rw[←hb,buildM_cons hRi],B',S',by show 1≤(oneB i R s).rl.length;omega,by show (oneB i R s).rl.length≤1+512*(i+1);omega⟩,by show Ls.length-(i+1)<Ls.length-i;omega,rfl,rfl⟩
end
end Go.Proofs.Ytnhennjliinplaa

namespace Go.Proofs.Ytnhennjliinplaa
open Go Go.Hm

theorem nd_len:∀(n:Nat) (l:List Int),l.Nodup→InB n l→l.length≤n
 | 0,[],_,_=>Nat.le_refl _
 | 0,a::l,_,h=>by have:=h a List.mem_cons_self;omega
 | n+1,l,hn,h=>by
  have h1:=nd_len n (l.erase (n:Int)) (hn.erase _) fun k hk=>by
   obtain⟨k1,k2⟩:=(hn.mem_erase_iff).1 hk
   have:=h k k2
   omega
  rw[List.length_erase]at h1
  split at h1<;>omega
section
variable {Q:Ex→Kt}{E:Env}{lk lim p bc br bx q a n b:Nat}{H0 H:Heap}{s:Bs}{l:List Int}{ms:List Nat}{nx:List (List Int)}
theorem keys41 (hb:b<H.length):callW X A lk lim 41 [.mp b] H=some (.fn 64 [.rop [.mp b] 0],H):=by
 have hX:X lk lim 41 [.mp b] H=none:=noX1 (by decide) (by decide) (by decide)
 refine wb_callB [] hX A41 rfl rfl ?_
 unfold t41B
 generalize callW X A=C
 simp[hb,below,belowL]
theorem sort40 (hl:IsS H b l)(hi:InB n l)(hn:n≤1000000):callW X A lk lim 40 [.fn 64 [.rop [.mp b] 0]] H=some (rowV l,H):=by
 refine callW_prim ?_
 unfold X
 refine callW_prim ?_
 have hlen:=nd_len n l hl.2 hi
 have hall:l.all inR=true:=List.all_eq_true.2 fun k hk=>by
  have:=hi k hk
  simp only[inR,Bool.and_eq_true,decide_eq_true_eq]
  omega
 have hk:keysG [.fn 64 [.rop [.mp b] 0]] H=some (rowV l):=by
  simp only[keysG,hl.1,intsL_sE,rowV]
  rw[if_pos ⟨by omega,hall⟩]
 simp[withFun,hk]
structure N4 (H0:Heap)(lk lim p bc br bx a:Nat)(s:Bs)(ms:List Nat)(j:Nat)(Z:Heap):Prop where
 hp:∃nv,Z[p]?=some (.cells [.hs bc (s.rl.length*4) 0 s.rl.length 4,nv,.hs br s.rl.length 0 s.rl.length 1,.hs bx s.rl.length 0 s.rl.length 1])∧
  ((j=0∧nv= .e0)∨∃bn,nv= .hs bn j 0 j 1∧Z[bn]?=some (.cells ((s.nx.take j).map rowV))∧bn≠p∧bn≠bc∧bn≠br∧bn≠bx∧bn≠a∧lk≤bn∧lim≤bn∧H0.length≤bn)
 hc:Z[bc]?=some (.cells s.cl)
 hr:Z[br]?=some (.cells (ints s.rl))
 hx:Z[bx]?=some (.cells (mps ms))
 ha:Z[a]?=some (.cells [.e0,.e0,.e0])
 lc:s.cl.length=s.rl.length*4
 lx:ms.length=s.rl.length
 ln:s.nx.length=s.rl.length
 hs:∀(j m:Nat),ms[j]?=some m→IsS Z m (s.nx.getD j [])
 ne:p≠bc∧p≠br∧p≠bx∧bc≠br∧bc≠bx∧br≠bx
 na:a≠p∧a≠bc∧a≠br∧a≠bx
 lk_:lk≤p
 lim_:lim≤p
 pr:(∀(b:Nat) (x:HB),H0[b]?=some x→Z[b]?=some x)∧H0.length≤p
theorem n4_start (B:BdS lk lim H p bc br bx s)(S:Sd H0 H p bc br bx q a):∃ms,N4 H0 lk lim p bc br bx a s ms 0 H:=by
 obtain⟨ms,B⟩:=B
 exact⟨ms,⟨⟨_,B.hp,.inl ⟨rfl,rfl⟩⟩,B.hc,B.hr,B.hx,S.2.1,B.lc,B.lx,B.ln,B.hs,B.ne,S.2.2.1,B.lk_.1,B.lim_.1,S.2.2.2.1,S.2.2.2.2.1⟩⟩
def sort13:AC:=.regD [2,7,14,33,100,101,102] 0 [
 kM 106 7,kM 107 7,kx 108 (.nilc (ux 107)),kF 109 0 108,kF 110 1 109,kL 111 110,kM 112 14,kC 113 41 112,kC 114 40 113,kx 115 (.buildS 1 [.e0] [(0,1,(ux 114))]),kx 116 (.app 1 24 (ux 111) (ux 115)),kx 117 (.nilc (ux 106)),kF 118 0 117,kF 119 1 118,kn (.st none 1 (ux 119) (ux 116))]
set_option maxRecDepth 20000 in
theorem sort13_ok {C:Orc}{ms:List Nat}{j m:Nat}(N:N4 H0 lk lim p bc br bx a s ms j H)(hm:ms[j]?=some m)(hn:s.rl.length≤1000000)
  (h41:∀lk,C lk lim 41 [.mp m] H=some (.fn 64 [.rop [.mp m] 0],H)) (h40:∀lk,C lk lim 40 [.fn 64 [.rop [.mp m] 0]] H=some (rowV (s.nx.getD j []),H))
  (hE:restrict [2,7,14,33,100,101,102] E=[(2,.hp a 3 0),(7,.hp p 4 0),(14,.mp m),(33,.hp p 4 0),(100,.hs bx s.rl.length 0 s.rl.length 1),(101,I n),(102,I j)])
  (hQ:∀E' H',restrict [2,7,33,100,101,102] E'=[(2,.hp a 3 0),(7,.hp p 4 0),(33,.hp p 4 0),(100,.hs bx s.rl.length 0 s.rl.length 1),(101,I n),(102,I j)]→N4 H0 lk lim p bc br bx a s ms (j+1) H'→Q .nrm E' H'):
  WB ⟨C,lk,lim,[]⟩ sort13 Q E H:=by
 obtain⟨⟨nv,hp,hnv⟩,hc,hr,hx,ha,lc,lx,ln,hs,⟨n1,n2,n3,n4,n5,n6⟩,⟨a1,a2,a3,a4⟩,hlk,hlim,hpr,hpp⟩:=N
 have lt:∀{i:Nat} {x:HB},H[i]?=some x→i<H.length:=fun h=>(List.getElem?_eq_some_iff.1 h).1
 have hpl:=lt hp
 have hml:=lt (hs j m hm).1
 have hjn:j<s.rl.length:=by
  have:=(List.getElem?_eq_some_iff.1 hm).1
  omega
 have hrow:(s.nx.take (j+1)).map rowV=(s.nx.take j).map rowV++[rowV (s.nx.getD j [])]:=by
  rw[List.take_add_one,List.getD_eq_getElem?_getD,List.getElem?_eq_getElem (by omega),List.map_append];rfl
 generalize hro:rowV (s.nx.getD j [])=ro at h40 hrow
 obtain⟨k,cs,rfl⟩:∃k cs,ro= .sl k cs:=⟨_,_,hro.symm⟩
 have r1:24≤room:=by unfold room;omega
 have r2:(j+1)*24≤room:=by unfold room;omega
 unfold sort13
 rcases hnv with⟨rfl,rfl⟩ | ⟨bn,rfl,hbn,b1,b2,b3,b4,b5,b6,b7,b8⟩
 ·rw[wb_regD rfl,hE]
  have g1:(H++[HB.cells [AV.sl k cs]])[p]?=some (.cells [.hs bc (s.rl.length*4) 0 s.rl.length 4,.e0,.hs br s.rl.length 0 s.rl.length 1,.hs bx s.rl.length 0 s.rl.length 1]):=by rw[List.getElem?_append_left hpl,hp]
  simp[hp,h41,h40,hml,srcCells,slCells,slN,r1,g1,setH,hlk,hlim]
  have old:∀{i:Nat} {x:HB},i≠p→H[i]?=some x→((H++[HB.cells [AV.sl k cs]]).set p (.cells [.hs bc (s.rl.length*4) 0 s.rl.length 4,.hs H.length 1 0 1 1,.hs br s.rl.length 0 s.rl.length 1,.hs bx s.rl.length 0 s.rl.length 1]))[i]?=some x:=fun hne hi=>by
   rw[List.getElem?_set_ne (Ne.symm hne),List.getElem?_append_left (lt hi),hi]
  refine hQ _ _ rfl ⟨⟨_,List.getElem?_set_self (by simp;omega),.inr ⟨H.length,rfl,?_,by omega,by have:=lt hc;omega,by have:=lt hr;omega,by have:=lt hx;omega,by have:=lt ha;omega,by omega,by omega,by omega⟩⟩,old n1.symm hc,old n2.symm hr,old n3.symm hx,old a1 ha,lc,lx,ln,fun j m hj=>?_,⟨n1,n2,n3,n4,n5,n6⟩,⟨a1,a2,a3,a4⟩,hlk,hlim,fun b x hb=>old (by have:=(List.getElem?_eq_some_iff.1 hb).1;omega) (hpr b x hb),hpp⟩
  ·rw[List.getElem?_set_ne (by omega),List.getElem?_append_right (Nat.le_refl _),hrow];simp
  ·obtain⟨h1,h2⟩:=hs j m hj
   exact⟨old (fun e=>by subst e;rw[hp]at h1;cases h1) h1,h2⟩
 ·rw[wb_regD rfl,hE]
  have hbl:=lt hbn
  have hcl:((s.nx.take j).map rowV).length=j:=by simp;omega
  have hcl2:min j s.nx.length=j:=by omega
  have hap:=app_end (k:=1) (new:=[AV.sl k cs]) hcl
  have g1:(H.set bn (.cells ((s.nx.take j).map rowV++[AV.sl k cs])))[p]?=some (.cells [.hs bc (s.rl.length*4) 0 s.rl.length 4,.hs bn j 0 j 1,.hs br s.rl.length 0 s.rl.length 1,.hs bx s.rl.length 0 s.rl.length 1]):=by rw[List.getElem?_set_ne b1,hp]
  generalize hrw:(s.nx.take j).map rowV=rw0 at *
  simp[hp,h41,h40,hml,srcCells,slCells,slN,r2,hbn,hcl,hap.1,hap.2,g1,setH,hlk,hlim,b6,b7]
  have old:∀{i:Nat} {x:HB},i≠p→i≠bn→H[i]?=some x→((H.set bn (HB.cells (rw0++[AV.sl k cs]))).set p (.cells [.hs bc (s.rl.length*4) 0 s.rl.length 4,.hs bn (j+1) 0 (j+1) 1,.hs br s.rl.length 0 s.rl.length 1,.hs bx s.rl.length 0 s.rl.length 1]))[i]?=some x:=fun hne hne2 hi=>by
   rw[List.getElem?_set_ne (Ne.symm hne),List.getElem?_set_ne (Ne.symm hne2),hi]
  refine hQ _ _ rfl ⟨⟨_,List.getElem?_set_self (by simp;omega),.inr ⟨bn,rfl,?_,b1,b2,b3,b4,b5,b6,b7,b8⟩⟩,old n1.symm b2.symm hc,old n2.symm b3.symm hr,old n3.symm b4.symm hx,old a1 b5.symm ha,lc,lx,ln,fun j m hj=>?_,⟨n1,n2,n3,n4,n5,n6⟩,⟨a1,a2,a3,a4⟩,hlk,hlim,fun b x hb=>old (by have:=(List.getElem?_eq_some_iff.1 hb).1;omega) (by have:=(List.getElem?_eq_some_iff.1 hb).1;omega) (hpr b x hb),hpp⟩
  ·rw[List.getElem?_set_ne b1.symm,List.getElem?_set_self hbl,hrow]
  ·obtain⟨h1,h2⟩:=hs j m hj
   exact⟨old (fun e=>by subst e;rw[hp]at h1;cases h1) (fun e=>by subst e;rw[hbn]at h1;cases h1) h1,h2⟩
end
end Go.Proofs.Ytnhennjliinplaa

namespace Go.Proofs.Ytnhennjliinplaa
open Go Go.Hm

section
variable {Q:Ex→Kt}{E:Env}{lk lim p bc br bx q a:Nat}{H0 H:Heap}{s:Bs}{ms:List Nat}{lv:AV}{vs:List AV}{Ls:List (List Nd)}
theorem e134:t13L4= .seq (.regN [2,7,33,100,101,102] [kT 103 102 101]) (.seq (.cond (ux 103) .skip (.exit 6)) (.seq (.block 7 (.seq (.regN [2,7,33,100,101,102] [kI 104 1 100 102,kL 105 104,kM 14 105]) sort13)) (.regN [2,7,33,100,101,102] [kU 120 102,kM 102 120]))):=rfl
set_option maxRecDepth 20000 in
theorem sorts13 (N:N4 H0 lk lim p bc br bx a s ms 0 H)(hb:NxB s)(hn:s.rl.length≤1000000)
  (hE:restrict [2,7,33,100,101,102] E=[(2,.hp a 3 0),(7,.hp p 4 0),(33,.hp p 4 0),(100,.hs bx s.rl.length 0 s.rl.length 1),(101,I s.rl.length),(102,I 0)])
  (hQ:∀E' H',restrict [2,7,33] E'=[(2,.hp a 3 0),(7,.hp p 4 0),(33,.hp p 4 0)]→N4 H0 lk lim p bc br bx a s ms s.rl.length H'→Q .nrm E' H'):
  WB ⟨callW X A,lk,lim,[]⟩ (.block 6 (.loop [2,7,33,100,101,102] t13L4)) Q E H:=by
 refine wb_loop (σ:=Nat×Heap) (fun z=>[(2,.hp a 3 0),(7,.hp p 4 0),(33,.hp p 4 0),(100,.hs bx s.rl.length 0 s.rl.length 1),(101,I s.rl.length),(102,I z.1)]) (fun z=>z.2)
  (fun z=>z.1≤s.rl.length∧N4 H0 lk lim p bc br bx a s ms z.1 z.2) (fun z=>s.rl.length-z.1) ?_ (0,H) ⟨Nat.zero_le _,N⟩ hE rfl
 rintro⟨j,Z⟩ ⟨hj,N⟩
 dsimp only at hj N ⊢
 by_cases hk:j<s.rl.length
 case neg=>
  obtain rfl:j=s.rl.length:=by omega
  unfold t13L4
  generalize hP:Rnd _ _ _ _ _ _ _=P
  simp
  rw[←hP]
  exact hQ _ _ rfl N
 have hjm:j<ms.length:=by rw[N.lx];exact hk
 obtain⟨m,hm⟩:∃m,ms[j]?=some m:=⟨ms[j],List.getElem?_eq_getElem hjm⟩
 have hS:=N.hs j m hm
 have hml:=(List.getElem?_eq_some_iff.1 hS.1).1
 have hin:InB s.rl.length (s.nx.getD j []):=by
  have hjn:j<s.nx.length:=by rw[N.ln];exact hk
  rw[List.getD_eq_getElem?_getD,List.getElem?_eq_getElem hjn]
  exact hb.1 _ (List.getElem_mem hjn)
 have h41:∀lk,callW X A lk lim 41 [.mp m] Z=some (.fn 64 [.rop [.mp m] 0],Z):=fun lk=>keys41 hml
 have h40:∀lk,callW X A lk lim 40 [.fn 64 [.rop [.mp m] 0]] Z=some (rowV (s.nx.getD j []),Z):=fun lk=>sort40 hS hin hn
 have w:IntKind.i64.wrap ((j:Int)+1)=(j:Int)+1:=wrap64 (by omega) (by omega)
 have hx:=N.hx
 have hlx:(mps ms).length=s.rl.length:=by rw[mps_len,N.lx]
 have hmg:(mps ms)[j]'(by omega)= .mp m:=by
  have:=mps_get hm
  rwa [List.getElem?_eq_getElem (by omega),Option.some.injEq]at this
 generalize callW X A=C at h41 h40 ⊢
 rw[e134]
 generalize hP:Rnd _ _ _ _ _ _ _=P
 rw[wb_seq,wb_regN]
 simp[-wb_true,-wb_false,-wb_seq,-wb_block,-wb_regN,hk]
 rw[wb_seq,wb_true (ev_bo rfl),wb_skip,fol_nrm,wb_seq,wb_block,wb_seq,wb_regN]
 have hj1:j+1≤s.rl.length:=hk
 generalize hS0:sort13=SS
 simp[-wb_true,-wb_false,-wb_seq,-wb_block,-wb_regN,hk,hx,hlx,hmg,hj1]
 subst hS0
 refine sort13_ok N hm hn h41 h40 rfl fun E' H' hE' N'=>?_
 rw[blk_nrm,fol_nrm,wb_regN,hE']
 simp[w]
 rw[←hP,rnd_nrm]
 exact⟨(j+1,H'),⟨hk,N'⟩,by show s.rl.length-(j+1)<s.rl.length-j;omega,rfl,rfl⟩
theorem pre_take {H Z:Heap}(h:∀(b:Nat) (x:HB),H[b]?=some x→Z[b]?=some x):Z.take H.length=H:=by
 apply List.ext_getElem?
 intro b
 rw[List.getElem?_take]
 by_cases hb:b<H.length
 ·rw[if_pos hb,h b _ (List.getElem?_eq_getElem hb),List.getElem?_eq_getElem hb]
 ·rw[if_neg hb,List.getElem?_eq_none (by omega)]
theorem er_fin {e:Int}{E:Env}{Z:Heap}{r:AV×Heap}(hr:r=(erB e,H))(h2:find E 2= .hp a 3 0)(h3:find E 3=I e)(ha:Z[a]?=some (.cells [.e0,.e0,.e0]))(hp:∀(b:Nat) (x:HB),H[b]?=some x→Z[b]?=some x):
  FinT [.cell 2 3 true,.tmp 3] true H r .ret E Z:=by
 subst hr
 have ht:=pre_take hp
 simp[FinT,finish,resOf,resList,resOne,h2,h3,ptrCells,ha,frz,mapO,below,belowL,erB,ht]
def L13a:AC:=.block 0 (.loop [0,2,19,20,21] t13L2)
def L13b:AC:=.block 2 (.loop [2,7,8,33,37,38,39] t13L3)
def L13c:AC:=.block 6 (.loop [2,7,33,100,101,102] t13L4)
def z13:AC:=.seq (.regN [2,7,33] [kM 121 7,kx 122 (.nilc (ux 121)),kF 123 0 122,kx 124 (.ldA none 3 (ux 123)),kn (.st none 3 (ux 2) (ux 124)),kZ 3]) .ret
def y13:AC:=.seq (.seq (.regN [2,7,33] [kM 90 7,kx 91 (.nilc (ux 90)),kF 92 3 91,kL 93 92,kN 94 93,kx 95 (.bini .gtr (ux 94) (.con (.val (.int .i64 1024))))])
 (.cond (ux 95) (.seq (.regN [2] [kx 96 (.build [.e0,.e0,.e0] []),kn (.st none 3 (ux 2) (ux 96)),kx 3 (.mv (.con (.val (.int .i64 10))))]) .ret) .skip))
 (.seq (.seq (.regN [2,7,33] [kM 97 7,kx 98 (.nilc (ux 97)),kF 99 3 98,kL 100 99,kN 101 100,kZ 102]) L13c) z13)
def x13:AC:=.seq (.regN [0,2] [kx 32 (.build [.e0,.e0,.e0,.e0] []),kx 33 (.boxH 4 (ux 32)),kM 7 33])
 (.seq (.regN [0,2,7,33] [kM 34 7,kx 35 (.build [(.val (.int .u64 0)),(.val (.int .u64 0)),(.val (.int .u64 0)),(.val (.int .u64 0))] []),kx 36 (.call 37 [(ux 34),(ux 35)]),kM 8 36])
 (.seq (.seq (.regN [0,2,7,8,33] [kM 37 0,kN 38 37,kZ 39]) L13b) y13))
theorem e13B:t13B= .seq (.regN [0] [kx 2 (.allocH [.e0,.e0,.e0]),kZ 3]) (.seq (.seq (.regN [0,2] [kM 15 0,kN 16 15,kx 17 (.bini .gtr (ux 16) (.con (.val (.int .i64 16))))])
 (.cond (ux 17) (.seq (.regN [2] [kx 18 (.build [.e0,.e0,.e0] []),kn (.st none 3 (ux 2) (ux 18)),kx 3 (.mv (.con (.val (.int .i64 3))))]) .ret) .skip))
 (.seq (.seq (.regN [0,2] [kM 19 0,kN 20 19,kZ 21]) L13a) x13)):=rfl
theorem mapO_self {f:AV→Option AV}:∀{l:List AV},(∀c∈l,f c=some c)→mapO f l=some l
 | [],_=>rfl
 | c::l,h=>by
  simp only[mapO,h c List.mem_cons_self,mapO_self fun c hc=>h c (List.mem_cons_of_mem _ hc)]
theorem belowL_self {n:Nat}:∀{l:List AV},(∀c∈l,below n c=true)→belowL n l=true
 | [],_=>rfl
 | c::l,h=>by
  simp only[belowL,h c List.mem_cons_self,belowL_self fun c hc=>h c (List.mem_cons_of_mem _ hc)];rfl
theorem mem_ints {l:List Int}{c:AV}(h:c∈ints l):∃z,c=I z:=by
 obtain⟨z,_,rfl⟩:=List.mem_map.1 h
 exact⟨z,rfl⟩
theorem frz_i (n:Nat)(Z:Heap)(d:Nat)(l:List Int):mapO (frz n Z d) (ints l)=some (ints l):=mapO_self fun c hc=>by
 obtain⟨z,rfl⟩:=mem_ints hc
 cases d<;>rfl
theorem bel_i (n:Nat)(l:List Int):belowL n (ints l)=true:=belowL_self fun c hc=>by
 obtain⟨z,rfl⟩:=mem_ints hc
 rfl
theorem frz_r (n:Nat)(Z:Heap)(d:Nat)(l:List (List Int)):mapO (frz n Z d) (l.map rowV)=some (l.map rowV):=mapO_self fun c hc=>by
 obtain⟨z,_,rfl⟩:=List.mem_map.1 hc
 cases d<;>rfl
theorem bel_r (n:Nat)(l:List (List Int)):belowL n (l.map rowV)=true:=belowL_self fun c hc=>by
 obtain⟨z,_,rfl⟩:=List.mem_map.1 hc
 unfold rowV
 simp only[below]
 exact bel_i n _
theorem frz_u {s:Bs}(h:NxB s)(n:Nat)(Z:Heap)(d:Nat):mapO (frz n Z d) s.cl=some s.cl:=mapO_self fun c hc=>by
 obtain⟨z,rfl⟩:=h.2 c hc
 cases d<;>rfl
theorem bel_u {s:Bs}(h:NxB s)(n:Nat):belowL n s.cl=true:=belowL_self fun c hc=>by
 obtain⟨z,rfl⟩:=h.2 c hc
 rfl
theorem z13_ok {Z:Heap}(N:N4 H lk H.length p bc br bx a s ms s.rl.length Z)(hb:NxB s)(hla:lk≤a)(hH:H.length≤a)(hbc:H.length≤bc∧H.length≤br)
  (hn1:1≤s.rl.length)
  (hE:restrict [2,7,33] E=[(2,.hp a 3 0),(7,.hp p 4 0),(33,.hp p 4 0)]) {C:Orc} {r:AV×Heap} (hr:r=(.tup [.agg [.sl s.rl.length s.cl,.sl s.rl.length (s.nx.map rowV),.sl s.rl.length (ints s.rl)],I 0],H)):
  WB ⟨C,lk,H.length,[]⟩ z13 (FinT [.cell 2 3 true,.tmp 3] true H r) E Z:=by
 obtain⟨⟨nv,hp,hnv⟩,hc,hr',hx,ha,lc,lx,ln,hs,⟨n1,n2,n3,n4,n5,n6⟩,⟨a1,a2,a3,a4⟩,hlk,hlim,hpr,hpp⟩:=N
 rcases hnv with⟨h0,_⟩ | ⟨bn,rfl,hbn,b1,b2,b3,b4,b5,b6,b7,b8⟩
 ·omega
 have lt:∀{i:Nat} {x:HB},Z[i]?=some x→i<Z.length:=fun h=>(List.getElem?_eq_some_iff.1 h).1
 have hal:=lt ha
 rw[show s.nx.take s.rl.length=s.nx from List.take_of_length_le (by omega)]at hbn
 have ht:(Z.set a (.cells [.hs bc (s.rl.length*4) 0 s.rl.length 4,.hs bn s.rl.length 0 s.rl.length 1,.hs br s.rl.length 0 s.rl.length 1])).take H.length=H:=by
  rw[List.take_set_of_le hH]
  exact pre_take hpr
 unfold z13
 rw[wb_seq,wb_regN,hE]
 have g1:∀x,(Z.set a x)[a]?=some x:=fun x=>List.getElem?_set_self hal
 have g2:∀x,(Z.set a x)[bc]?=some (.cells s.cl):=fun x=>by rw[List.getElem?_set_ne a2,hc]
 have g3:∀x,(Z.set a x)[br]?=some (.cells (ints s.rl)):=fun x=>by rw[List.getElem?_set_ne a3,hr']
 have g4:∀x,(Z.set a x)[bn]?=some (.cells (s.nx.map rowV)):=fun x=>by rw[List.getElem?_set_ne b5.symm,hbn]
 have hil:(ints s.rl).length=s.rl.length:=ints_len _
 have hbc':¬bc<H.length:=by omega
 have hbr':¬br<H.length:=by omega
 have hbn':¬bn<H.length:=by omega
 have m1:=frz_u hb H.length
 have m2:=frz_i H.length
 have m3:=frz_r H.length
 have tk1:s.cl.take (s.rl.length*4)=s.cl:=List.take_of_length_le (by omega)
 have tk2:(s.nx.map rowV).take s.rl.length=s.nx.map rowV:=List.take_of_length_le (by simp;omega)
 have w1:=bel_u hb H.length
 have w2:=bel_i H.length
 have w3:=bel_r H.length
 simp[hp,ha,hla,hH,setH]
 subst hr
 simp[FinT,finish,resOf,resList,resOne,find,ptrCells,g1,frz,mapO,slCells,g2,g3,g4,lc,ln,hil,hbc',hbr',hbn',m1,m2,m3,w1,w2,w3,below,belowL,ht,tk1,tk2]
theorem y13_ok {Z:Heap}(B:BdS lk H.length Z p bc br bx s)(S:Sd H Z p bc br bx q a)(hb:NxB s)(hla:lk≤a)(hH:H.length≤a)(h1:1≤s.rl.length)(hn:s.rl.length≤10000)
  (hE:restrict [2,7,33] E=[(2,.hp a 3 0),(7,.hp p 4 0),(33,.hp p 4 0)]) {r:AV×Heap}
  (hr:r=(if 1024<s.rl.length then erB 10 else .tup [.agg [.sl s.rl.length s.cl,.sl s.rl.length (s.nx.map rowV),.sl s.rl.length (ints s.rl)],I 0],H)):
  WB ⟨callW X A,lk,H.length,[]⟩ y13 (FinT [.cell 2 3 true,.tmp 3] true H r) E Z:=by
 have ha:=S.2.1
 have hal:=(List.getElem?_eq_some_iff.1 ha).1
 have hset:Z.set a (.cells [.e0,.e0,.e0])=Z:=set_self ha
 obtain⟨ms0,B0⟩:=B
 have hp:=B0.hp
 have hpre:=S.2.2.2.1
 unfold y13
 rw[wb_seq,wb_seq,wb_regN,hE]
 by_cases hbig:1024<s.rl.length
 ·rw[if_pos hbig]at hr
  have hbig2:(1024:Int)<(s.rl.length:Int):=by omega
  generalize hP:FinT [.cell 2 3 true,.tmp 3] true H r=P
  simp[hp,hbig2,ha,hla,hH,setH,hset]
  rw[←hP]
  exact er_fin (e:=10) hr rfl rfl ha hpre
 ·rw[if_neg hbig]at hr
  have hbig2:¬(1024:Int)<(s.rl.length:Int):=by omega
  obtain⟨ms,N⟩:=n4_start ⟨ms0,B0⟩ S
  have hfin:∀E' H',restrict [2,7,33] E'=[(2,.hp a 3 0),(7,.hp p 4 0),(33,.hp p 4 0)]→N4 H lk H.length p bc br bx a s ms s.rl.length H'→WB ⟨callW X A,lk,H.length,[]⟩ z13 (FinT [.cell 2 3 true,.tmp 3] true H r) E' H':=fun E' H' hE' N'=>z13_ok N' hb hla hH ⟨S.2.2.2.2.2.1,S.2.2.2.2.2.2.1⟩ h1 hE' hr
  have hloop:∀E,restrict [2,7,33,100,101,102] E=[(2,.hp a 3 0),(7,.hp p 4 0),(33,.hp p 4 0),(100,.hs bx s.rl.length 0 s.rl.length 1),(101,I s.rl.length),(102,I 0)]→WB ⟨callW X A,lk,H.length,[]⟩ L13c (Fol ⟨callW X A,lk,H.length,[]⟩ z13 (FinT [.cell 2 3 true,.tmp 3] true H r)) E Z:=fun E hE=>sorts13 N hb (by omega) hE fun E' H' hE' N'=>by rw[fol_nrm];exact hfin E' H' hE' N'
  clear hfin
  generalize callW X A=C at hloop ⊢
  generalize z13=zz at hloop ⊢
  generalize L13c=LL at hloop ⊢
  generalize FinT [.cell 2 3 true,.tmp 3] true H r=P at hloop ⊢
  simp[hp,hbig,hbig2]
  exact hloop _ rfl
theorem build_code (hL:LsOk lv vs Ls)(hn:Ls.length≤1000)(hlk:lk≤H.length):callW X A lk lim 13 [lv] H=some (buildR Ls,H):=by
 have hX:X lk lim 13 [lv] H=none:=noX1 (by decide) (by decide) (by decide)
 refine wb_callB [] hX A13 rfl (by rcases hL.1 with⟨rfl,_⟩ | rfl<;>rfl) ?_
 show WB ⟨callW X A,lk,H.length,[]⟩ t13B _ _ _
 obtain⟨H1,hH1⟩:∃H1,H1=H++[HB.cells [.e0,.e0,.e0]]:=⟨_,rfl⟩
 have ha:H1[H.length]?=some (.cells [.e0,.e0,.e0]):=by rw[hH1,List.getElem?_append_right (Nat.le_refl _)];simp
 have hl1:H1.length=H.length+1:=by rw[hH1];simp
 have hpre:∀(b:Nat) (x:HB),H[b]?=some x→H1[b]?=some x:=fun b x hb=>by
  rw[hH1,List.getElem?_append_left (List.getElem?_eq_some_iff.1 hb).1,hb]
 have hset:H1.set H.length (.cells [.e0,.e0,.e0])=H1:=set_self ha
 obtain⟨r,hr⟩:∃r,r=(buildR Ls,H):=⟨_,rfl⟩
 rw[←hr]
 -- from the rows on
 have hx:Ls.all chkR=true→Ls.length≤16→∀E,restrict [0,2] E=[(0,lv),(2,.hp H.length 3 0)]→WB ⟨callW X A,lk,H.length,[]⟩ x13 (FinT [.cell 2 3 true,.tmp 3] true H r) E H1:=by
  intro hall hn16 E hE
  have hbr:buildR Ls=if 1024<(buildM 0 Ls s00).rl.length then erB 10 else .tup [.agg [.sl (buildM 0 Ls s00).rl.length (buildM 0 Ls s00).cl,.sl (buildM 0 Ls s00).rl.length ((buildM 0 Ls s00).nx.map rowV),.sl (buildM 0 Ls s00).rl.length (ints (buildM 0 Ls s00).rl)],I 0]:=by
   unfold buildR
   rw[if_neg (by omega),if_neg (by rw[hall];decide)]
  rw[hbr]at hr
  obtain⟨H2,hH2⟩:∃H2,H2=H1++[HB.cells [.e0,.e0,.e0,.e0]]:=⟨_,rfl⟩
  have hp2:H2[H1.length]?=some (.cells [.e0,.e0,.e0,.e0]):=by rw[hH2,List.getElem?_append_right (Nat.le_refl _)];simp
  have hl2:H2.length=H.length+2:=by rw[hH2];simp[hl1]
  have up:∀(b:Nat) (x:HB),H1[b]?=some x→H2[b]?=some x:=fun b x hb=>by
   rw[hH2,List.getElem?_append_left (List.getElem?_eq_some_iff.1 hb).1,hb]
  obtain⟨_,H3,hc,q,rfl,B3,K3,hle,S3⟩:=state_bd0 (lk:=lk) (lim:=H.length) (c:=[U 0,U 0,U 0,U 0]) hp2 (by omega) (by omega) rfl
  rw[hl1]at hp2 hc B3
  have hnb:NxB (buildM 0 Ls s00):=buildM_nb Ls 0 s00 (fun R hR x hx=>by
   obtain⟨j,hj⟩:=List.getElem?_of_mem hR
   obtain⟨v,_,hv⟩:=hL.2 j R hj
   exact(hv.2 x hx).2.1) s00_nb
  have S:Sd H H3 (H.length+1) (H2.length+1) (H2.length+2) (H2.length+3) q H.length:=
   ⟨S3,K3 _ _ (up _ _ ha) (by omega),⟨by omega,by omega,by omega,by omega⟩,fun b x hb=>K3 b x (up b x (hpre b x hb)) (by have:=(List.getElem?_eq_some_iff.1 hb).1;omega),by omega,by omega,by omega,by omega⟩
  have hloop:∀E,restrict [2,7,8,33,37,38,39] E=[(2,.hp H.length 3 0),(7,.hp (H.length+1) 4 0),(8,.mp q),(33,.hp (H.length+1) 4 0),(37,lv),(38,I Ls.length),(39,I 0)]→WB ⟨callW X A,lk,H.length,[]⟩ L13b (Fol ⟨callW X A,lk,H.length,[]⟩ y13 (FinT [.cell 2 3 true,.tmp 3] true H r)) E H3:=fun E hE=>
   rules13 (s0:=s00) hL hn16 hall ⟨_,B3⟩ S rfl hE fun E' H' hE' B' S' h1 h2=>by
    rw[fol_nrm]
    exact y13_ok B' S' hnb hlk (Nat.le_refl _) h1 h2 hE' hr
  generalize callW X A=C at hloop hc ⊢
  generalize hy:y13=yy at hloop
  generalize hL13:L13b=LL at hloop
  generalize FinT [.cell 2 3 true,.tmp 3] true H r=P at hloop ⊢
  unfold x13
  rw[hy,hL13,wb_seq,wb_regN,hE]
  simp[-wb_seq,-wb_regN,hl1]
  rw[←hH2,wb_seq,wb_regN]
  simp[-wb_seq,-wb_regN,hc]
  rw[wb_seq,wb_seq,wb_regN]
  rcases hL.1 with⟨rfl,rfl⟩ | rfl
  ·simp
   exact hloop _ rfl
  ·simp
   exact hloop _ rfl
 -- the checks
 have hck:Ls.length≤16→∀E,restrict [0,2,19,20,21] E=[(0,lv),(2,.hp H.length 3 0),(19,lv),(20,I Ls.length),(21,I 0)]→WB ⟨callW X A,lk,H.length,[]⟩ L13a (Fol ⟨callW X A,lk,H.length,[]⟩ x13 (FinT [.cell 2 3 true,.tmp 3] true H r)) E H1:=by
  intro hn16 E hE
  refine chks13 hL hn (fun v R h=>check_code h.1 (fun x hx=>(h.2 x hx).1) (fun x hx=>(h.2 x hx).2.1) (fun x hx=>(h.2 x hx).2.2) (by omega)) ha hlk (Nat.le_refl _) hE (fun hall E' hE'=>?_) (fun hno E' h2 h3=>?_)
  ·rw[fol_nrm]
   exact hx hall hn16 E' hE'
  ·rw[fol_ret]
   refine er_fin (e:=2) ?_ h2 h3 ha hpre
   rw[hr]
   unfold buildR
   rw[if_neg (by omega),if_pos hno]
 have her:16<Ls.length→r=(erB 3,H):=fun h=>by
  rw[hr];unfold buildR;rw[if_pos h]
 clear hx
 rw[e13B]
 generalize callW X A=C at hck ⊢
 generalize x13=xx at hck ⊢
 generalize L13a=LL at hck ⊢
 generalize hP:FinT [.cell 2 3 true,.tmp 3] true H r=P at hck ⊢
 rw[wb_seq,wb_regN]
 simp[-wb_seq,-wb_regN]
 rw[←hH1,wb_seq,wb_seq,wb_regN]
 by_cases hbig:16<Ls.length
 ·have hbig2:(16:Int)<(Ls.length:Int):=by omega
  rcases hL.1 with⟨rfl,rfl⟩ | rfl
  ·simp at hbig
  ·simp[hbig2,ha,hlk,setH,hset]
   rw[←hP]
   exact er_fin (e:=3) (her hbig) rfl rfl ha hpre
 ·have hbig2:¬(16:Int)<(Ls.length:Int):=by omega
  have hck:=hck (by omega)
  rcases hL.1 with⟨rfl,rfl⟩ | rfl
  ·simp
   exact hck _ rfl
  ·simp[hbig2]
   exact hck _ rfl
end
end Go.Proofs.Ytnhennjliinplaa

namespace Go.Proofs.Ytnhennjliinplaa
open Go Go.Hm
def WfB (s:Bs):Prop:=s.cl.length=s.rl.length*4∧s.nx.length=s.rl.length
theorem join_wf {s:Bs}(h:WfB s)(l v:List Int):WfB (s.join l v):=⟨h.1,by show (joinM s.nx l v).length=_;rw[joinM_len];exact h.2⟩
theorem catS_wf {g:Int→Bs→Bs×Pl}(ih:∀k s,WfB s→WfB (g k s).1):∀(l:List Int) (sp:Bs×Pl),WfB sp.1→WfB (l.foldl (catS g) sp).1
 | [],_,h=>h
 | k::l,sp,h=>catS_wf ih l _ (join_wf (ih k _ h) _ _)
theorem altS_wf {g:Int→Bs→Bs×Pl}(ih:∀k s,WfB s→WfB (g k s).1):∀(l:List Int) (sp:Bs×Pl),WfB sp.1→WfB (l.foldl (altS g) sp).1
 | [],_,h=>h
 | k::l,sp,h=>altS_wf ih l _ (ih k _ h)
theorem nodeM_wf {R:List Nd}(hc:∀x∈R,x.cs.length=4):∀(f:Nat) (k:Int) (s:Bs),WfB s→WfB (nodeM R f k s).1
 | 0,_,_,h=>h
 | f+1,k,s,h=>by
  have ih:=nodeM_wf hc f
  simp only[nodeM]
  cases hx:R[k.toNat]? with
  | none=>exact h
  | some x=>
   dsimp only
   split
   ·exact h
   ·split
    ·have h4:=hc x (List.mem_of_getElem? hx)
     obtain⟨h1,h2⟩:=h
     constructor
     ·show (s.cl++x.cs).length=(s.rl++[-1]).length*4
      simp;omega
     ·show (s.nx++[[]]).length=(s.rl++[-1]).length
      simp;omega
    ·split
     ·exact catS_wf ih _ _ (ih _ _ h)
     ·split
      ·exact altS_wf ih _ _ h
      ·have h1:=ih (x.ks.headD 0) s h
       unfold one1
       dsimp only
       split
       ·exact h1
       ·exact join_wf h1 _ _
theorem oneB_wf {R:List Nd}(hc:∀x∈R,x.cs.length=4)(i:Nat){s:Bs}(h:WfB s):WfB (oneB i R s):=by
 obtain⟨h1,h2⟩:=nodeM_wf hc R.length ((R.length-1:Nat):Int) s h
 constructor
 ·rw[oneB_len];exact h1
 ·rw[oneB_len]
  show (joinM _ _ _).length=_
  rw[joinM_len];exact h2
theorem s00_wf:WfB s00:=⟨rfl,rfl⟩
end Go.Proofs.Ytnhennjliinplaa
