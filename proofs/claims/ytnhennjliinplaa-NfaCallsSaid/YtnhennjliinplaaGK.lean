/- The document's node: the regions of alternatives, of what is repeated. -/
import Derived.Test.YtnhennjliinplaaGJ
set_option linter.all false
namespace Go.Proofs.Ytnhennjliinplaa
open Go Go.Hm
def nG48:AC:=(.regN [0,1,6,7,12,13] [ kM 134 0,kM 135 1,kF 136 5 7,kS 137 7 136,kM 138 13,kI 139 1 137 138,kL 140 139,kx 141 (.call 48 [(ux 134),(ux 135),(ux 140)]),kx 14 (.allocR [(.val (.bool false)),.e0,.e0]),kn (.st (some 14) 3 (ux 14) (ux 141))])
def nH48:AC:=(.regD [0,1,6,7,12,13,14] 0 [ kF 142 0 12,kS 143 12 142,kM 144 143,zF 145 144 0 14,zS 146 144 14 145,kO 147 144 146,kF 148 1 12,kS 149 12 148,kF 150 1 14,kS 151 14 150,kf 152 (.call 49 [(ux 149),(ux 151)]),kF 153 2 12,kS 154 12 153,kF 155 2 14,kS 156 14 155,kf 157 (.call 49 [(ux 154),(ux 156)]),kx 158 (.build [(.val (.bool false)),.e0,.e0] [(0,1,(ux 147)),(1,1,(ux 152)),(2,1,(ux 157))]),kn (.st (some 12) 3 (ux 12) (ux 158))])
theorem e482:t48L2= .seq (.seq (.regN [0,1,6,7,12,13] [kM 127 13,kF 128 5 7,kS 129 7 128,kN 130 129,kT 131 127 130]) (.cond (ux 131) .skip (.exit 3))) (.seq (.block 4 (.seq nG48 nH48)) (.regN [0,1,6,7,12,13] [kM 132 13,kU 133 132,kM 13 133])):=rfl
section
variable {C:Orc}{Q:Ex→Kt}{E:Env}{lk lim i n k:Nat}{H:Heap}{s:Bs}{c0 c1 c2 c3 kd kv rv:AV}
variable {L m:Nat}{cells:List AV}{ks pf pl qf ql uf ul:List Int}{pe qe:Bool}{pfv plv qfv qlv ufv ulv:AV}{Z Z':Heap}
set_option maxRecDepth 20000 in
theorem nG48_ok {k':Int}(hi:i<ks.length)(hk:ks[i]?=some k')(hC:C lk lim 48 [pA L,.sl m cells,I k'] Z=some (.agg [Bo qe,qfv,qlv],Z'))
  (hE:restrict [0,1,6,7,12,13] E=[(0,pA L),(1,.sl m cells),(6,b0),(7,xB kd c0 c1 c2 c3 ks),(12,pB pe pfv plv),(13,I i)])
  (hQ:∀E',restrict [0,1,6,7,12,13,14] E'=[(0,pA L),(1,.sl m cells),(6,b0),(7,xB kd c0 c1 c2 c3 ks),(12,pB pe pfv plv),(13,I i),(14,pB qe qfv qlv)]→Q .nrm E' Z'):
  WB ⟨C,lk,lim,B8⟩ nG48 Q E Z:=by
 have hk2:=get_some (ints_at hk) (by rw[ints_len];exact hi)
 unfold nG48
 rw[wb_regN,hE]
 simp[hi,hk2,hC,replaceAt]
 exact hQ _ rfl
set_option maxRecDepth 20000 in
theorem nH48_ok (h1:RowI pfv pf)(h2:RowI qfv qf)(h3:RowI ufv uf)(h4:RowI plv pl)(h5:RowI qlv ql)(h6:RowI ulv ul)(hC:C lk lim 49 [pfv,qfv] Z=some (ufv,Z))(hC2:C lk lim 49 [plv,qlv] Z=some (ulv,Z))
  (hE:restrict [0,1,6,7,12,13,14] E=[(0,pA L),(1,.sl m cells),(6,b0),(7,xB kd c0 c1 c2 c3 ks),(12,pB pe pfv plv),(13,I i),(14,pB qe qfv qlv)])
  (hQ:∀E',restrict [0,1,6,7,12,13] E'=[(0,pA L),(1,.sl m cells),(6,b0),(7,xB kd c0 c1 c2 c3 ks),(12,pB (pe||qe) ufv ulv),(13,I i)]→Q .nrm E' Z):
  WB ⟨C,lk,lim,B8⟩ nH48 Q E Z:=by
 unfold nH48
 rw[wb_regD rfl,hE]
 obtain⟨r,hr⟩:∃r,(pe||qe)=r:=⟨_,rfl⟩
 rw[hr]at hQ
 have hun:pfv=plv→qfv=qlv→ufv=ulv:=fun h1 h2=>by
  subst h1;subst h2
  rw[hC]at hC2
  simp only[Option.some.injEq,Prod.mk.injEq,and_true]at hC2
  exact hC2
 cases pe
 ·have hr2:qe=r:=hr
  subst hr2
  iterate 4 (rw[wrd_cons];simp[-wrd_cons,-wrd_nil])
  iterate 1 (rw[wrd_cons];simp[-wrd_cons,-wrd_nil])
  rcases h1 with⟨rfl,_⟩ | rfl<;>rcases h2 with⟨rfl,_⟩ | rfl<;>rcases h3 with⟨rfl,_⟩ | rfl
  all_goals
   iterate 6 (rw[wrd_cons];simp[-wrd_cons,-wrd_nil,hC])
   rcases h4 with⟨rfl,_⟩ | rfl<;>rcases h5 with⟨rfl,_⟩ | rfl<;>rcases h6 with⟨rfl,_⟩ | rfl
  all_goals
   simp[hC,hC2,replaceAt]
   first
   | exact hQ _ rfl
   | (have e:=hun rfl rfl;cases e;done)
   | (have e:=hun rfl rfl;rw[←e]at hQ;exact hQ _ rfl)
 ·have hr2:true=r:=hr
  subst hr2
  iterate 5 (rw[wrd_cons];simp[-wrd_cons,-wrd_nil])
  rcases h1 with⟨rfl,_⟩ | rfl<;>rcases h2 with⟨rfl,_⟩ | rfl<;>rcases h3 with⟨rfl,_⟩ | rfl
  all_goals
   iterate 6 (rw[wrd_cons];simp[-wrd_cons,-wrd_nil,hC])
   rcases h4 with⟨rfl,_⟩ | rfl<;>rcases h5 with⟨rfl,_⟩ | rfl<;>rcases h6 with⟨rfl,_⟩ | rfl
  all_goals
   simp[hC,hC2,replaceAt]
   first
   | exact hQ _ rfl
   | (have e:=hun rfl rfl;cases e;done)
   | (have e:=hun rfl rfl;rw[←e]at hQ;exact hQ _ rfl)
end
end Go.Proofs.Ytnhennjliinplaa

namespace Go.Proofs.Ytnhennjliinplaa
open Go Go.Hm
def PV (P:Pl):AV:=.agg [Bo P.em,rwN P.fi,rwN P.la]
theorem join_wf {s:Bs}(h:WfB s)(l v:List Int):WfB (s.join l v):=⟨h.1,by show (joinM s.nx l v).length=_;rw[joinM_len];exact h.2⟩
theorem catS_wf {g:Int→Bs→Bs×Pl}(ih:∀k s,WfB s→WfB (g k s).1):∀(l:List Int) (sp:Bs×Pl),WfB sp.1→WfB (l.foldl (catS g) sp).1
 | [],_,h=>h
 | k::l,sp,h=>catS_wf ih l _ (join_wf (ih k _ h) _ _)
theorem altS_wf {g:Int→Bs→Bs×Pl}(ih:∀k s,WfB s→WfB (g k s).1):∀(l:List Int) (sp:Bs×Pl),WfB sp.1→WfB (l.foldl (altS g) sp).1
 | [],_,h=>h
 | k::l,sp,h=>altS_wf ih l _ (ih k _ h)
theorem nodeM_wf {R:List Nd}(hc:∀x∈R,x.cs.length=4):∀(f:Nat) (k:Int) (s:Bs),WfB s→WfB (nodeM R f k s).1
 | 0,_,_,h=>h
 | f+1,k,s,h=>by
  have ih:=nodeM_wf hc f
  simp only[nodeM]
  cases hx:R[k.toNat]? with
  | none=>exact h
  | some x=>
   dsimp only
   split
   ·exact h
   ·split
    ·have h4:=hc x (List.mem_of_getElem? hx)
     obtain⟨h1,h2⟩:=h
     constructor
     ·show (s.cl++x.cs).length=(s.rl++[-1]).length*4
      simp;omega
     ·show (s.nx++[[]]).length=(s.rl++[-1]).length
      simp;omega
    ·split
     ·exact catS_wf ih _ _ (ih _ _ h)
     ·split
      ·exact altS_wf ih _ _ h
      ·have h1:=ih (x.ks.headD 0) s h
       unfold one1
       dsimp only
       split
       ·exact h1
       ·exact join_wf h1 _ _
def NodeR (lk lim:Nat)(H:Heap)(R:List Nd)(f:Nat)(k:Int):Prop:=∀s,WfB s→NxB s→(nodeM R f k s).1.rl.length≤100000→
 callW X A lk lim 48 [pA H.length,.sl R.length (rxC R),I k] (memR H s)=some (PV (nodeM R f k s).2,memR H (nodeM R f k s).1)
section
variable {C:Orc}{Q:Ex→Kt}{E:Env}{lk lim i n k:Nat}{H:Heap}{s:Bs}{c0 c1 c2 c3 kd kv:AV}{ks:List Int}{m:Nat}{cells:List AV}
abbrev eN (L m:Nat)(cells:List AV)(kd c0 c1 c2 c3:AV)(ks:List Int)(t:Nat)(p:AV)(u i:Nat):Env:=[(0,pA L),(1,.sl m cells),(6,b0),(7,xB kd c0 c1 c2 c3 ks),(t,p),(u,I i)]
set_option maxRecDepth 20000 in
theorem loop3 {g:Int→Bs→Bs×Pl}{k0:Int}{kr:List Int}(hks:ks=k0::kr)(hm:ks.length≤1000000)(hlk:lk≤H.length)(hlim:lim≤H.length)(gle:GrB g)(gwf:∀k s,WfB s→WfB (g k s).1)(gnb:∀k s,NxB s→NxB (g k s).1∧InB (g k s).1.rl.length (g k s).2.fi∧InB (g k s).1.rl.length (g k s).2.la)
  (hC:∀k'∈kr,∀s,WfB s→NxB s→(g k' s).1.rl.length≤100000→C lk lim 48 [pA H.length,.sl m cells,I k'] (memR H s)=some (PV (g k' s).2,memR H (g k' s).1))
  (h69:∀{s:Bs} {l f:List Int},WfB s→NxB s→s.rl.length≤100000→InB s.rl.length l→InB s.rl.length f→C lk lim 69 [pA H.length,rwN l,rwN f] (memR H s)=some (.tup [],memR H (s.join l f)))
  (h49:∀{Z:Heap} {a b:List Int},H.length≤Z.length→(normI a).length+(normI b).length≤1000000→C lk lim 49 [rwN a,rwN b] Z=some (rwN (unI a b),Z))
  {S0:Bs×Pl} (hw:WfB S0.1) (hb:NxB S0.1) (h1:InB S0.1.rl.length S0.2.fi) (h2:InB S0.1.rl.length S0.2.la) (hn:(kr.foldl (catS g) S0).1.rl.length≤100000)
  (hE:restrict [0,1,6,7,9,10] E=eN H.length m cells kd c0 c1 c2 c3 ks 9 (pB S0.2.em (rwN S0.2.fi) (rwN S0.2.la)) 10 1)
  (hQ:∀E',restrict [6,9] E'=[(6,b0),(9,pB (kr.foldl (catS g) S0).2.em (rwN (kr.foldl (catS g) S0).2.fi) (rwN (kr.foldl (catS g) S0).2.la))]→Q .nrm E' (memR H (kr.foldl (catS g) S0).1)):
  WB ⟨C,lk,lim,B8⟩ (.block 1 (.loop [0,1,6,7,9,10] t48L1)) Q E (memR H S0.1):=by
 have hkl:ks.length=kr.length+1:=by rw[hks];rfl
 refine wb_loop (σ:=Nat×(Bs×Pl)) (fun q=>eN H.length m cells kd c0 c1 c2 c3 ks 9 (pB q.2.2.em (rwN q.2.2.fi) (rwN q.2.2.la)) 10 (q.1+1)) (fun q=>memR H q.2.1)
  (fun q=>q.1≤kr.length∧(kr.drop q.1).foldl (catS g) q.2=kr.foldl (catS g) S0∧WfB q.2.1∧NxB q.2.1∧InB q.2.1.rl.length q.2.2.fi∧InB q.2.1.rl.length q.2.2.la) (fun q=>kr.length-q.1) ?_ (0,S0) ⟨Nat.zero_le _,rfl,hw,hb,h1,h2⟩ hE rfl
 rintro⟨i,S⟩ ⟨hi,hf,iw,ib,i1,i2⟩
 dsimp only at hi hf iw ib i1 i2 ⊢
 rw[e481]
 generalize hR:Rnd _ _ _ _ _ _ _=P2
 by_cases hk:i<kr.length
 case neg=>
  obtain rfl:i=kr.length:=by omega
  rw[List.drop_length]at hf
  have hf:S=kr.foldl (catS g) S0:=hf
  have hx:∀env,restrict [6,9] env=[(6,b0),(9,pB S.2.em (rwN S.2.fi) (rwN S.2.la))]→P2 (.exit 1) env (memR H S.1):=fun env h=>by
   rw[←hR]
   rw[←hf]at hQ
   exact hQ env h
  generalize memR H S.1=Z at hx ⊢
  generalize rwN S.2.fi=fv at hx ⊢
  generalize rwN S.2.la=lv at hx ⊢
  generalize (.block 2 (.seq nA48 (.seq nB48 (.seq (.seq C48c (.cond (ux 97) nC48 .skip)) (.seq (.seq D48c (.cond (ux 105) nD48 .skip)) nF48)))):AC)=F
  simp[hkl]
  exact hx _ rfl
 obtain⟨k',hk'⟩:=get_of hk
 rw[List.drop_eq_getElem_cons hk,get_some hk' hk]at hf
 have hf:(kr.drop (i+1)).foldl (catS g) (catS g S k')=kr.foldl (catS g) S0:=hf
 have hki:ks[i+1]?=some k':=by rw[hks];exact hk'
 have hle:(catS g S k').1.rl.length≤100000:=by
  refine Nat.le_trans ?_ hn
  rw[←hf]
  exact catS_le gle _ _
 have hle:(g k' S.1).1.rl.length≤100000:=hle
 have hgl:=gle k' S.1
 have kc:=hC k' (List.mem_of_getElem? hk') S.1 iw ib hle
 have gw:=gwf k' S.1 iw
 obtain⟨gb,gf,gl⟩:=gnb k' S.1 ib
 have i1':InB (g k' S.1).1.rl.length S.2.fi:=i1.mono hgl
 have i2':InB (g k' S.1).1.rl.length S.2.la:=i2.mono hgl
 have kj:=h69 gw gb hle i2' gf
 have bl:∀{l:List Int},InB (g k' S.1).1.rl.length l→(normI l).length≤100000:=fun h=>Nat.le_trans (inb_len (inb_norm h) (nd_normI _)) hle
 have ku:C lk lim 49 [rwN S.2.fi,rwN (g k' S.1).2.fi] (memR H ((g k' S.1).1.join S.2.la (g k' S.1).2.fi))=some (rwN (unI S.2.fi (g k' S.1).2.fi),memR H ((g k' S.1).1.join S.2.la (g k' S.1).2.fi)):=h49 (by rw[memR_len];omega) (by have:=bl i1';have:=bl gf;omega)
 have kv:C lk lim 49 [rwN S.2.la,rwN (g k' S.1).2.la] (memR H ((g k' S.1).1.join S.2.la (g k' S.1).2.fi))=some (rwN (unI S.2.la (g k' S.1).2.la),memR H ((g k' S.1).1.join S.2.la (g k' S.1).2.fi)):=h49 (by rw[memR_len];omega) (by have:=bl i2';have:=bl gl;omega)
 have hu:∀{b:Bool} {x y:List Int},(if b=true then rwN x else rwN y)=rwN (if b=true then x else y):=fun {b} _ _=>by cases b<;>rfl
 have next:∀env,restrict [0,1,6,7,9,10] env=eN H.length m cells kd c0 c1 c2 c3 ks 9 (pB (catS g S k').2.em (rwN (catS g S k').2.fi) (rwN (catS g S k').2.la)) 10 (i+1+1)→P2 .nrm env (memR H (catS g S k').1):=fun env h=>by
  rw[←hR,rnd_nrm]
  refine⟨(i+1,catS g S k'),⟨hk,hf,join_wf gw _ _,gb.join gf,?_,?_⟩,by show kr.length-(i+1)<kr.length-i;omega,h,rfl⟩
  ·show InB (g k' S.1).1.rl.length (if _ then _ else _)
   split
   ·exact un_in i1' gf
   ·exact i1'
  ·show InB (g k' S.1).1.rl.length (if _ then _ else _)
   split
   ·exact un_in i2' gl
   ·exact gl
 have hb:∀E,restrict [0,1,6,7,9,10] E=eN H.length m cells kd c0 c1 c2 c3 ks 9 (pB S.2.em (rwN S.2.fi) (rwN S.2.la)) 10 (i+1)→WB ⟨C,lk,lim,B8⟩ (.block 2 (.seq nA48 (.seq nB48 (.seq (.seq C48c (.cond (ux 97) nC48 .skip)) (.seq (.seq D48c (.cond (ux 105) nD48 .skip)) nF48))))) (Fol ⟨C,lk,lim,B8⟩ (.regN [0,1,6,7,9,10] [kM 80 10,kU 81 80,kM 10 81]) P2) E (memR H S.1):=fun E hE=>by
  rw[wb_block,wb_seq]
  refine nA48_ok (by omega) hki kc hE fun E1 hE1=>?_
  rw[fol_nrm,wb_seq]
  refine B48_ok (rwN_I _) (rwN_I _) kj hE1 fun E2 hE2=>?_
  rw[fol_nrm,wb_seq]
  refine C48_ok (rwN_I _) (rwN_I _) (rwN_I _) (fun _=>ku) hE2 fun E3 hE3=>?_
  rw[hu]at hE3
  rw[fol_nrm,wb_seq]
  refine D48_ok (rwN_I _) (rwN_I _) (rwN_I _) (fun _=>kv) hE3 fun E4 hE4=>?_
  rw[hu]at hE4
  rw[fol_nrm]
  refine F48_ok (rwN_I _) (rwN_I _) hE4 fun E5 hE5=>?_
  have next:=next
  unfold catS behP at next
  dsimp only at next
  rw[blk_nrm,fol_nrm,wb_regN,hE5]
  have w:IntKind.i64.wrap ((i:Int)+1+1)=(i:Int)+1+1:=wrap64 (by omega) (by omega)
  generalize memR H _=Z at next ⊢
  generalize rwN _=fv at next ⊢
  generalize rwN _=lv at next ⊢
  simp[w]
  exact next _ rfl
 generalize (.block 2 (.seq nA48 (.seq nB48 (.seq (.seq C48c (.cond (ux 97) nC48 .skip)) (.seq (.seq D48c (.cond (ux 105) nD48 .skip)) nF48)))):AC)=F at hb ⊢
 generalize memR H S.1=Z at hb ⊢
 generalize rwN S.2.fi=fv at hb ⊢
 generalize rwN S.2.la=lv at hb ⊢
 have hk2:(i:Int)<(kr.length:Int):=by omega
 simp[hkl,hk]
 exact hb _ rfl
set_option maxRecDepth 20000 in
theorem loop4 {g:Int→Bs→Bs×Pl}(hm:ks.length≤1000000)(hlk:lk≤H.length)(hlim:lim≤H.length)(gle:GrB g)(gwf:∀k s,WfB s→WfB (g k s).1)(gnb:∀k s,NxB s→NxB (g k s).1∧InB (g k s).1.rl.length (g k s).2.fi∧InB (g k s).1.rl.length (g k s).2.la)
  (hC:∀k'∈ks,∀s,WfB s→NxB s→(g k' s).1.rl.length≤100000→C lk lim 48 [pA H.length,.sl m cells,I k'] (memR H s)=some (PV (g k' s).2,memR H (g k' s).1))
  (h49:∀{Z:Heap} {a b:List Int},H.length≤Z.length→(normI a).length+(normI b).length≤1000000→C lk lim 49 [rwN a,rwN b] Z=some (rwN (unI a b),Z))
  {S0:Bs×Pl} (hw:WfB S0.1) (hb:NxB S0.1) (h1:InB S0.1.rl.length S0.2.fi) (h2:InB S0.1.rl.length S0.2.la) (hn:(ks.foldl (altS g) S0).1.rl.length≤100000)
  (hE:restrict [0,1,6,7,12,13] E=eN H.length m cells kd c0 c1 c2 c3 ks 12 (pB S0.2.em (rwN S0.2.fi) (rwN S0.2.la)) 13 0)
  (hQ:∀E',restrict [6,12] E'=[(6,b0),(12,pB (ks.foldl (altS g) S0).2.em (rwN (ks.foldl (altS g) S0).2.fi) (rwN (ks.foldl (altS g) S0).2.la))]→Q .nrm E' (memR H (ks.foldl (altS g) S0).1)):
  WB ⟨C,lk,lim,B8⟩ (.block 3 (.loop [0,1,6,7,12,13] t48L2)) Q E (memR H S0.1):=by
 refine wb_loop (σ:=Nat×(Bs×Pl)) (fun q=>eN H.length m cells kd c0 c1 c2 c3 ks 12 (pB q.2.2.em (rwN q.2.2.fi) (rwN q.2.2.la)) 13 q.1) (fun q=>memR H q.2.1)
  (fun q=>q.1≤ks.length∧(ks.drop q.1).foldl (altS g) q.2=ks.foldl (altS g) S0∧WfB q.2.1∧NxB q.2.1∧InB q.2.1.rl.length q.2.2.fi∧InB q.2.1.rl.length q.2.2.la) (fun q=>ks.length-q.1) ?_ (0,S0) ⟨Nat.zero_le _,rfl,hw,hb,h1,h2⟩ hE rfl
 rintro⟨i,S⟩ ⟨hi,hf,iw,ib,i1,i2⟩
 dsimp only at hi hf iw ib i1 i2 ⊢
 rw[e482]
 generalize hR:Rnd _ _ _ _ _ _ _=P2
 by_cases hk:i<ks.length
 case neg=>
  obtain rfl:i=ks.length:=by omega
  rw[List.drop_length]at hf
  have hf:S=ks.foldl (altS g) S0:=hf
  have hx:∀env,restrict [6,12] env=[(6,b0),(12,pB S.2.em (rwN S.2.fi) (rwN S.2.la))]→P2 (.exit 3) env (memR H S.1):=fun env h=>by
   rw[←hR]
   rw[←hf]at hQ
   exact hQ env h
  generalize memR H S.1=Z at hx ⊢
  generalize rwN S.2.fi=fv at hx ⊢
  generalize rwN S.2.la=lv at hx ⊢
  generalize (.block 4 (.seq nG48 nH48):AC)=F
  simp
  exact hx _ rfl
 obtain⟨k',hk'⟩:=get_of hk
 rw[List.drop_eq_getElem_cons hk,get_some hk' hk]at hf
 have hf:(ks.drop (i+1)).foldl (altS g) (altS g S k')=ks.foldl (altS g) S0:=hf
 have hle:(altS g S k').1.rl.length≤100000:=by
  refine Nat.le_trans ?_ hn
  rw[←hf]
  exact altS_le gle _ _
 have hle:(g k' S.1).1.rl.length≤100000:=hle
 have hgl:=gle k' S.1
 have kc:=hC k' (List.mem_of_getElem? hk') S.1 iw ib hle
 have gw:=gwf k' S.1 iw
 obtain⟨gb,gf,gl⟩:=gnb k' S.1 ib
 have i1':InB (g k' S.1).1.rl.length S.2.fi:=i1.mono hgl
 have i2':InB (g k' S.1).1.rl.length S.2.la:=i2.mono hgl
 have bl:∀{l:List Int},InB (g k' S.1).1.rl.length l→(normI l).length≤100000:=fun h=>Nat.le_trans (inb_len (inb_norm h) (nd_normI _)) hle
 have ku:C lk lim 49 [rwN S.2.fi,rwN (g k' S.1).2.fi] (memR H (g k' S.1).1)=some (rwN (unI S.2.fi (g k' S.1).2.fi),memR H (g k' S.1).1):=h49 (by rw[memR_len];omega) (by have:=bl i1';have:=bl gf;omega)
 have kv:C lk lim 49 [rwN S.2.la,rwN (g k' S.1).2.la] (memR H (g k' S.1).1)=some (rwN (unI S.2.la (g k' S.1).2.la),memR H (g k' S.1).1):=h49 (by rw[memR_len];omega) (by have:=bl i2';have:=bl gl;omega)
 have next:∀env,restrict [0,1,6,7,12,13] env=eN H.length m cells kd c0 c1 c2 c3 ks 12 (pB (altS g S k').2.em (rwN (altS g S k').2.fi) (rwN (altS g S k').2.la)) 13 (i+1)→P2 .nrm env (memR H (altS g S k').1):=fun env h=>by
  rw[←hR,rnd_nrm]
  exact⟨(i+1,altS g S k'),⟨hk,hf,gw,gb,un_in i1' gf,un_in i2' gl⟩,by show ks.length-(i+1)<ks.length-i;omega,h,rfl⟩
 have hb:∀E,restrict [0,1,6,7,12,13] E=eN H.length m cells kd c0 c1 c2 c3 ks 12 (pB S.2.em (rwN S.2.fi) (rwN S.2.la)) 13 i→WB ⟨C,lk,lim,B8⟩ (.block 4 (.seq nG48 nH48)) (Fol ⟨C,lk,lim,B8⟩ (.regN [0,1,6,7,12,13] [kM 132 13,kU 133 132,kM 13 133]) P2) E (memR H S.1):=fun E hE=>by
  rw[wb_block,wb_seq]
  refine nG48_ok hk hk' kc hE fun E1 hE1=>?_
  rw[fol_nrm]
  refine nH48_ok (rwN_I _) (rwN_I _) (rwN_I _) (rwN_I _) (rwN_I _) (rwN_I _) ku kv hE1 fun E5 hE5=>?_
  have next:=next
  unfold altS altP at next
  dsimp only at next
  rw[blk_nrm,fol_nrm,wb_regN,hE5]
  have w:IntKind.i64.wrap ((i:Int)+1)=(i:Int)+1:=wrap64 (by omega) (by omega)
  generalize memR H _=Z at next ⊢
  generalize rwN (unI S.2.fi _)=fv at next ⊢
  generalize rwN (unI S.2.la _)=lv at next ⊢
  simp[w]
  exact next _ rfl
 generalize (.block 4 (.seq nG48 nH48):AC)=F at hb ⊢
 generalize memR H S.1=Z at hb ⊢
 generalize rwN S.2.fi=fv at hb ⊢
 generalize rwN S.2.la=lv at hb ⊢
 simp[hk]
 exact hb _ rfl
end
end Go.Proofs.Ytnhennjliinplaa

namespace Go.Proofs.Ytnhennjliinplaa
open Go Go.Hm
def vc48:AC:=(.seq (.regN [0,6,7] [ kM 27 0,kx 28 (.nilc (ux 27)),kF 29 0 28,kL 30 29,kN 31 30,kM 8 31]) (.seq (.regD [0,6,7,8] 0 [ kM 32 0,kM 33 0,kM 34 0,kM 35 0,kx 36 (.nilc (ux 35)),kF 37 0 36,kL 38 37,kF 39 1 7,kP 40 7 4 39,kx 41 (.buildS 1 [(.val (.int .u64 0)),(.val (.int .u64 0)),(.val (.int .u64 0)),(.val (.int .u64 0))] [(0,4,(ux 40))]),kf 42 (.app 4 32 (ux 38) (ux 41)),kM 43 0,kx 44 (.nilc (ux 43)),kF 45 1 44,kL 46 45,kx 47 (.buildS 1 [.e0] [(0,1,(.con .e0))]),kf 48 (.app 1 24 (ux 46) (ux 47)),kM 49 0,kx 50 (.nilc (ux 49)),kF 51 2 50,kL 52 51,kx 53 (.buildS 1 [(.val (.int .i64 0))] [(0,1,(.con (.val (.int .i64 (-1)))))]),kx 54 (.app 1 8 (ux 52) (ux 53)),kx 55 (.nilc (ux 32)),kF 56 0 55,kn (.st none 1 (ux 56) (ux 42)),kx 57 (.nilc (ux 33)),kF 58 1 57,kn (.st none 1 (ux 58) (ux 48)),kx 59 (.nilc (ux 34)),kF 60 2 59,kn (.st none 1 (ux 60) (ux 54))]) (.seq (.regN [6,8] [ kM 61 8,kx 62 (.buildS 1 [(.val (.int .i64 0))] [(0,1,(ux 61))]),kM 63 8,kx 64 (.buildS 1 [(.val (.int .i64 0))] [(0,1,(ux 63))]),kx 65 (.build [(.val (.bool false)),.e0,.e0] [(1,1,(ux 62)),(2,1,(ux 64))]),kn (.st (some 6) 3 (ux 6) (ux 65))]) .ret)))
def d48:AC:=(.seq (.regN [0,1,6,7] [ kM 68 0,kM 69 1,kF 70 5 7,kS 71 7 70,kx 72 (.ixA 1 (ux 71) c0),kL 73 72,kx 74 (.call 48 [(ux 68),(ux 69),(ux 73)]),kx 9 (.allocR [(.val (.bool false)),.e0,.e0]),kn (.st (some 9) 3 (ux 9) (ux 74))]) (.seq (.seq (.regN [0,1,6,7,9] [ kx 10 (.mv c1)]) (.block 1 (.loop [0,1,6,7,9,10] t48L1))) (.seq (.regN [6,9] [ kP 123 9 3 9,kn (.st (some 6) 3 (ux 6) (ux 123))]) .ret)))
def a48:AC:=(.seq (.regN [0,1,6,7] [ kx 126 (.build [(.val (.bool false)),.e0,.e0] []),kx 12 (.allocR [(.val (.bool false)),.e0,.e0]),kn (.st (some 12) 3 (ux 12) (ux 126))]) (.seq (.seq (.regN [0,1,6,7,12] [ kZ 13]) (.block 3 (.loop [0,1,6,7,12,13] t48L2))) (.seq (.regN [6,12] [ kP 159 12 3 12,kn (.st (some 6) 3 (ux 6) (ux 159))]) .ret)))
def r48:AC:=(.seq (.regN [0,1,6,7] [ kM 160 0,kM 161 1,kF 162 5 7,kS 163 7 162,kx 164 (.ixA 1 (ux 163) c0),kL 165 164,kx 166 (.call 48 [(ux 160),(ux 161),(ux 165)]),kx 15 (.allocR [(.val (.bool false)),.e0,.e0]),kn (.st (some 15) 3 (ux 15) (ux 166))]) (.seq (.seq (.regN [0,6,7,15] [ kF 167 0 7,kS 168 7 167,kx 169 (.bini .neq (ux 168) (.con (.val (.int .i64 7))))]) (.cond (ux 169) (.regN [0,6,7,15] [ kM 170 0,kF 171 2 15,kS 172 15 171,kF 173 1 15,kS 174 15 173,kx 175 (.call 69 [(ux 170),(ux 172),(ux 174)])]) .skip)) (.seq (.seq (.regN [6,7,15] [ kF 176 0 7,kS 177 7 176,kx 178 (.bini .neq (ux 177) (.con (.val (.int .i64 6))))]) (.cond (ux 178) (.regN [6,15] [ kF 179 0 15,kn (.st (some 15) 1 (ux 179) cT)]) .skip)) (.seq (.regN [6,15] [ kP 180 15 3 15,kn (.st (some 6) 3 (ux 6) (ux 180))]) .ret))))
theorem e48:t48B=(.seq (.regN [0,1,2] [ kx 6 (.allocR [(.val (.bool false)),.e0,.e0])]) (.seq (.regN [0,1,2,6] [ kM 16 1,kM 17 2,kI 18 6 16 17,kx 19 (.ldA none 6 (ux 18)),kx 7 (.allocR [(.val (.int .i64 0)),(.val (.int .u64 0)),(.val (.int .u64 0)),(.val (.int .u64 0)),(.val (.int .u64 0)),.e0]),kn (.st (some 7) 6 (ux 7) (ux 19))]) (.seq (.seq (.regN [0,1,6,7] [ kF 20 0 7,kS 21 7 20]) (.block 0 (.seq (.regN [0,1,6,7,21] [ kx 23 (.bini .eql (ux 21) c1),kM 22 23]) (.cond (ux 22) (.seq (.regN [6] [ kx 24 (.build [(.val (.bool false)),.e0,.e0] [(0,1,cT)]),kn (.st (some 6) 3 (ux 6) (ux 24))]) .ret) (.seq (.regN [0,1,6,7,21] [ kx 26 (.bini .eql (ux 21) (.con (.val (.int .i64 2)))),kM 25 26]) (.cond (ux 25) vc48 (.seq (.regN [0,1,6,7,21] [ kx 67 (.bini .eql (ux 21) (.con (.val (.int .i64 3)))),kM 66 67]) (.cond (ux 66) d48 (.seq (.regN [0,1,6,7,21] [ kx 125 (.bini .eql (ux 21) (.con (.val (.int .i64 4)))),kM 124 125]) (.cond (ux 124) a48 .skip)))))))))) r48))):=rfl
section
variable {lk lim:Nat}{H:Heap}{R:List Nd}{j:Nat}{c0 c1 c2 c3 kv:AV}{ks:List Int}{s:Bs}
theorem rwN_nil:rwN []= .e0:=rfl
theorem rwN_one (k:Int):rwN [k]= .sl 1 [I k]:=rfl
set_option maxRecDepth 20000 in
theorem node1r (hj:j<R.length)(hr:((rxC R).drop (j*6)).take 6=[I 1,c0,c1,c2,c3,kv])(hl:j*6+6≤(rxC R).length){Z:Heap}:
  callW X A lk lim 48 [pA H.length,.sl R.length (rxC R),I j] Z=some (PV ⟨true,[],[]⟩,Z):=by
 have hX:X lk lim 48 [pA H.length,.sl R.length (rxC R),I j] Z=none:=noX1 (by decide) (by decide) (by decide)
 refine wb_callB B8 hX A48 rfl rfl ?_
 show WB ⟨callW X A,lk,lim,B8⟩ t48B _ _ _
 rw[e48]
 generalize callW X A=C
 generalize vc48=b1
 generalize d48=b2
 generalize a48=b3
 generalize r48=b4
 have hj':(j:Int)<(R.length:Int):=by omega
 generalize rxC R=cells at hr hl ⊢
 simp[hj,hr,hl,replaceAt,PV,rwN_nil]
set_option maxRecDepth 20000 in
theorem node2r (hj:j<R.length)(hr:((rxC R).drop (j*6)).take 6=[I 2,c0,c1,c2,c3,kv])(hl:j*6+6≤(rxC R).length)(hw:WfB s)(hn:s.rl.length≤1000000)(hlk:lk≤H.length)(hlim:lim≤H.length):
  callW X A lk lim 48 [pA H.length,.sl R.length (rxC R),I j] (memR H s)=some (PV ⟨false,[(s.rl.length:Int)],[(s.rl.length:Int)]⟩,memR H (s.add [c0,c1,c2,c3])):=by
 have hX:X lk lim 48 [pA H.length,.sl R.length (rxC R),I j] (memR H s)=none:=noX1 (by decide) (by decide) (by decide)
 refine wb_callB B8 hX A48 rfl rfl ?_
 show WB ⟨callW X A,lk,lim,B8⟩ t48B _ _ _
 rw[e48]
 generalize callW X A=C
 have hj':(j:Int)<(R.length:Int):=by omega
 generalize rxC R=cells at hr hl ⊢
 generalize hP:FinT [.cell 6 3 true] false (memR H s) (PV ⟨false,[(s.rl.length:Int)],[(s.rl.length:Int)]⟩,memR H (s.add [c0,c1,c2,c3]))=P
 have h0:=memR3 (H:=H) (s:=s)
 have hst:∀(K:Ex→Kt),(∀E Z,K .ret E Z=P .ret E Z)→∀E,restrict [0,6,7,8] E=[(0,pA H.length),(6,b0),(7,.box [I 2,c0,c1,c2,c3,kv]),(8,I s.rl.length)]→WB ⟨C,lk,lim,B8⟩ st48 (Fol ⟨C,lk,lim,B8⟩ (.seq (.regN [6,8] [ kM 61 8,kx 62 (.buildS 1 [(.val (.int .i64 0))] [(0,1,(ux 61))]),kM 63 8,kx 64 (.buildS 1 [(.val (.int .i64 0))] [(0,1,(ux 63))]),kx 65 (.build [(.val (.bool false)),.e0,.e0] [(1,1,(ux 62)),(2,1,(ux 64))]),kn (.st (some 6) 3 (ux 6) (ux 65))]) .ret) K) E (memR H s):=fun K hK E hE=>
  st48_ok hw hn hlk hlim hE fun E' hE'=>by
   rw[fol_nrm,wb_seq,wb_regN,hE']
   simp[replaceAt]
   rw[hK,←hP]
   simp[FinT,replaceAt,PV,rwN_one]
 unfold vc48
 generalize hst48:st48=ST at hst
 have e0:((.seq (.regN [0,6,7] [ kM 27 0,kx 28 (.nilc (ux 27)),kF 29 0 28,kL 30 29,kN 31 30,kM 8 31]) (.seq (.regD [0,6,7,8] 0 [ kM 32 0,kM 33 0,kM 34 0,kM 35 0,kx 36 (.nilc (ux 35)),kF 37 0 36,kL 38 37,kF 39 1 7,kP 40 7 4 39,kx 41 (.buildS 1 [(.val (.int .u64 0)),(.val (.int .u64 0)),(.val (.int .u64 0)),(.val (.int .u64 0))] [(0,4,(ux 40))]),kf 42 (.app 4 32 (ux 38) (ux 41)),kM 43 0,kx 44 (.nilc (ux 43)),kF 45 1 44,kL 46 45,kx 47 (.buildS 1 [.e0] [(0,1,(.con .e0))]),kf 48 (.app 1 24 (ux 46) (ux 47)),kM 49 0,kx 50 (.nilc (ux 49)),kF 51 2 50,kL 52 51,kx 53 (.buildS 1 [(.val (.int .i64 0))] [(0,1,(.con (.val (.int .i64 (-1)))))]),kx 54 (.app 1 8 (ux 52) (ux 53)),kx 55 (.nilc (ux 32)),kF 56 0 55,kn (.st none 1 (ux 56) (ux 42)),kx 57 (.nilc (ux 33)),kF 58 1 57,kn (.st none 1 (ux 58) (ux 48)),kx 59 (.nilc (ux 34)),kF 60 2 59,kn (.st none 1 (ux 60) (ux 54))]) (.seq (.regN [6,8] [ kM 61 8,kx 62 (.buildS 1 [(.val (.int .i64 0))] [(0,1,(ux 61))]),kM 63 8,kx 64 (.buildS 1 [(.val (.int .i64 0))] [(0,1,(ux 63))]),kx 65 (.build [(.val (.bool false)),.e0,.e0] [(1,1,(ux 62)),(2,1,(ux 64))]),kn (.st (some 6) 3 (ux 6) (ux 65))]) .ret))):AC)= .seq (.regN [0,6,7] [kM 27 0,kx 28 (.nilc (ux 27)),kF 29 0 28,kL 30 29,kN 31 30,kM 8 31]) (.seq ST (.seq (.regN [6,8] [ kM 61 8,kx 62 (.buildS 1 [(.val (.int .i64 0))] [(0,1,(ux 61))]),kM 63 8,kx 64 (.buildS 1 [(.val (.int .i64 0))] [(0,1,(ux 63))]),kx 65 (.build [(.val (.bool false)),.e0,.e0] [(1,1,(ux 62)),(2,1,(ux 64))]),kn (.st (some 6) 3 (ux 6) (ux 65))]) .ret)):=by rw[←hst48];rfl
 rw[e0]
 generalize (.seq (.regN [6,8] [ kM 61 8,kx 62 (.buildS 1 [(.val (.int .i64 0))] [(0,1,(ux 61))]),kM 63 8,kx 64 (.buildS 1 [(.val (.int .i64 0))] [(0,1,(ux 63))]),kx 65 (.build [(.val (.bool false)),.e0,.e0] [(1,1,(ux 62)),(2,1,(ux 64))]),kn (.st (some 6) 3 (ux 6) (ux 65))]) .ret:AC)=TT at hst ⊢
 generalize d48=b2
 generalize a48=b3
 generalize r48=b4
 generalize memR H s=Z at h0 hst ⊢
 unfold hdR at h0
 simp[hj,hr,hl,replaceAt,h0]
 refine hst _ ?_ _ rfl
 intro _ _
 rfl
theorem ints_cons' (k:Int)(ks:List Int):ints (k::ks)=I k::ints ks:=rfl
theorem uw49 {lk lim:Nat}{H:Heap}(hlk:lk≤H.length):∀{Z:Heap} {a b:List Int},H.length≤Z.length→(normI a).length+(normI b).length≤1000000→callW X A lk lim 49 [rwN a,rwN b] Z=some (rwN (unI a b),Z):=fun {Z a b} h1 h2=>by
 have:=union49 (lk:=lk) (lim:=lim) (H:=Z) (rwN_I a) (rwN_I b) (nd_normI a) h2 (by omega)
 rw[norm_un]at this
 exact this
set_option maxRecDepth 20000 in
theorem node3r {f:Nat}{k:Int}{kr:List Int}(hj:j<R.length)(hr:((rxC R).drop (j*6)).take 6=[I 3,c0,c1,c2,c3,.sl (k::kr).length (ints (k::kr))])(hl:j*6+6≤(rxC R).length)(hm:(k::kr).length≤1000000)(hc4:∀x∈R,x.cs.length=4)(hcl:∀x∈R,Cl4 x)
  (hC:∀k'∈k::kr,NodeR lk lim H R f k') (hw:WfB s) (hb:NxB s) (hn:(kr.foldl (catS (nodeM R f)) (nodeM R f k s)).1.rl.length≤100000) (hlk:lk≤H.length) (hlim:lim≤H.length):
  callW X A lk lim 48 [pA H.length,.sl R.length (rxC R),I j] (memR H s)=some (PV (kr.foldl (catS (nodeM R f)) (nodeM R f k s)).2,memR H (kr.foldl (catS (nodeM R f)) (nodeM R f k s)).1):=by
 have hX:X lk lim 48 [pA H.length,.sl R.length (rxC R),I j] (memR H s)=none:=noX1 (by decide) (by decide) (by decide)
 obtain⟨g,hg⟩:∃g,nodeM R f=g:=⟨_,rfl⟩
 have gle:GrB g:=hg▸nodeM_le R f
 have gwf:∀k s,WfB s→WfB (g k s).1:=hg▸nodeM_wf hc4 f
 have gnb:∀k s,NxB s→NxB (g k s).1∧InB (g k s).1.rl.length (g k s).2.fi∧InB (g k s).1.rl.length (g k s).2.la:=hg▸nodeM_nb hcl f
 unfold NodeR at hC
 rw[hg]at hC hn ⊢
 have hn1:(g k s).1.rl.length≤100000:=Nat.le_trans (catS_le gle kr _) hn
 have kc:=hC k List.mem_cons_self s hw hb hn1
 have gw:=gwf k s hw
 obtain⟨gb,g1,g2⟩:=gnb k s hb
 refine wb_callB B8 hX A48 rfl rfl ?_
 show WB ⟨callW X A,lk,lim,B8⟩ t48B _ _ _
 rw[e48]
 have h49:∀{Z:Heap} {a b:List Int},H.length≤Z.length→(normI a).length+(normI b).length≤1000000→callW X A lk lim 49 [rwN a,rwN b] Z=some (rwN (unI a b),Z):=fun h1 h2=>uw49 hlk h1 h2
 have h69:∀{s:Bs} {l f:List Int},WfB s→NxB s→s.rl.length≤100000→InB s.rl.length l→InB s.rl.length f→callW X A lk lim 69 [pA H.length,rwN l,rwN f] (memR H s)=some (.tup [],memR H (s.join l f)):=fun h1 h2 h3 h4 h5=>join69 h1 h2 h3 h4 h5 hlk hlim
 generalize callW X A=C at kc hC h49 h69 ⊢
 have hj':(j:Int)<(R.length:Int):=by omega
 generalize rxC R=cells at hr hl kc hC ⊢
 generalize hP:FinT [.cell 6 3 true] false (memR H s) (PV (kr.foldl (catS g) (g k s)).2,memR H (kr.foldl (catS g) (g k s)).1)=P
 have hst:∀(K:Ex→Kt),(∀E Z,K .ret E Z=P .ret E Z)→∀E,restrict [0,1,6,7,9,10] E=eN H.length R.length cells (I 3) c0 c1 c2 c3 (k::kr) 9 (pB (g k s).2.em (rwN (g k s).2.fi) (rwN (g k s).2.la)) 10 1→WB ⟨C,lk,lim,B8⟩ (.block 1 (.loop [0,1,6,7,9,10] t48L1)) (Fol ⟨C,lk,lim,B8⟩ (.seq (.regN [6,9] [ kP 123 9 3 9,kn (.st (some 6) 3 (ux 6) (ux 123))]) .ret) K) E (memR H (g k s).1):=fun K hK E hE=>
  loop3 rfl hm hlk hlim gle gwf gnb (fun k' h' s hs hb hn=>hC k' (List.mem_cons_of_mem _ h') s hs hb hn) h69 h49 gw gb g1 g2 hn hE fun E' hE'=>by
   rw[fol_nrm,wb_seq,wb_regN]
   have r9:restrict [6,9] E'=[(6,b0),(9,pB (kr.foldl (catS g) (g k s)).2.em (rwN (kr.foldl (catS g) (g k s)).2.fi) (rwN (kr.foldl (catS g) (g k s)).2.la))]:=hE'
   rw[r9]
   unfold PV at hP
   have q1:=rwN_I (kr.foldl (catS g) (g k s)).2.fi
   have q2:=rwN_I (kr.foldl (catS g) (g k s)).2.la
   generalize rwN (kr.foldl (catS g) (g k s)).2.fi=fv at hP q1 ⊢
   generalize rwN (kr.foldl (catS g) (g k s)).2.la=lv at hP q2 ⊢
   simp[replaceAt]
   rw[hK,←hP]
   rcases q1 with⟨rfl,_⟩ | rfl<;>rcases q2 with⟨rfl,_⟩ | rfl<;>simp[FinT,replaceAt]
 unfold d48
 generalize (.block 1 (.loop [0,1,6,7,9,10] t48L1):AC)=LL at hst ⊢
 generalize (.seq (.regN [6,9] [ kP 123 9 3 9,kn (.st (some 6) 3 (ux 6) (ux 123))]) .ret:AC)=TT at hst ⊢
 generalize vc48=b2
 generalize a48=b3
 generalize r48=b4
 unfold PV at kc
 generalize memR H s=Z at kc ⊢
 generalize memR H (g k s).1=Z1 at kc hst ⊢
 generalize rwN (g k s).2.fi=fv at kc hst ⊢
 generalize rwN (g k s).2.la=lv at kc hst ⊢
 simp[hj,hr,hl,replaceAt,kc,ints_cons']
 refine hst _ ?_ _ rfl
 intro _ _
 rfl
set_option maxRecDepth 20000 in
theorem node4r {f:Nat}(hj:j<R.length)(hr:((rxC R).drop (j*6)).take 6=[I 4,c0,c1,c2,c3,.sl ks.length (ints ks)])(hl:j*6+6≤(rxC R).length)(hm:ks.length≤1000000)(hc4:∀x∈R,x.cs.length=4)(hcl:∀x∈R,Cl4 x)
  (hC:∀k'∈ks,NodeR lk lim H R f k') (hw:WfB s) (hb:NxB s) (hn:(ks.foldl (altS (nodeM R f)) (s,noP)).1.rl.length≤100000) (hlk:lk≤H.length) (hlim:lim≤H.length):
  callW X A lk lim 48 [pA H.length,.sl R.length (rxC R),I j] (memR H s)=some (PV (ks.foldl (altS (nodeM R f)) (s,noP)).2,memR H (ks.foldl (altS (nodeM R f)) (s,noP)).1):=by
 have hX:X lk lim 48 [pA H.length,.sl R.length (rxC R),I j] (memR H s)=none:=noX1 (by decide) (by decide) (by decide)
 obtain⟨g,hg⟩:∃g,nodeM R f=g:=⟨_,rfl⟩
 have gle:GrB g:=hg▸nodeM_le R f
 have gwf:∀k s,WfB s→WfB (g k s).1:=hg▸nodeM_wf hc4 f
 have gnb:∀k s,NxB s→NxB (g k s).1∧InB (g k s).1.rl.length (g k s).2.fi∧InB (g k s).1.rl.length (g k s).2.la:=hg▸nodeM_nb hcl f
 unfold NodeR at hC
 rw[hg]at hC hn ⊢
 refine wb_callB B8 hX A48 rfl rfl ?_
 show WB ⟨callW X A,lk,lim,B8⟩ t48B _ _ _
 rw[e48]
 have h49:∀{Z:Heap} {a b:List Int},H.length≤Z.length→(normI a).length+(normI b).length≤1000000→callW X A lk lim 49 [rwN a,rwN b] Z=some (rwN (unI a b),Z):=fun h1 h2=>uw49 hlk h1 h2
 generalize callW X A=C at hC h49 ⊢
 have hj':(j:Int)<(R.length:Int):=by omega
 generalize rxC R=cells at hr hl hC ⊢
 generalize hP:FinT [.cell 6 3 true] false (memR H s) (PV (ks.foldl (altS g) (s,noP)).2,memR H (ks.foldl (altS g) (s,noP)).1)=P
 have hst:∀(K:Ex→Kt),(∀E Z,K .ret E Z=P .ret E Z)→∀E,restrict [0,1,6,7,12,13] E=eN H.length R.length cells (I 4) c0 c1 c2 c3 ks 12 (pB false .e0 .e0) 13 0→WB ⟨C,lk,lim,B8⟩ (.block 3 (.loop [0,1,6,7,12,13] t48L2)) (Fol ⟨C,lk,lim,B8⟩ (.seq (.regN [6,12] [ kP 159 12 3 12,kn (.st (some 6) 3 (ux 6) (ux 159))]) .ret) K) E (memR H s):=fun K hK E hE=>
  loop4 (S0:=(s,noP)) hm hlk hlim gle gwf gnb (fun k' h' s hs hb hn=>hC k' h' s hs hb hn) h49 hw hb in_nil in_nil hn hE fun E' hE'=>by
   rw[fol_nrm,wb_seq,wb_regN]
   have r9:restrict [6,12] E'=[(6,b0),(12,pB (ks.foldl (altS g) (s,noP)).2.em (rwN (ks.foldl (altS g) (s,noP)).2.fi) (rwN (ks.foldl (altS g) (s,noP)).2.la))]:=hE'
   rw[r9]
   unfold PV at hP
   have q1:=rwN_I (ks.foldl (altS g) (s,noP)).2.fi
   have q2:=rwN_I (ks.foldl (altS g) (s,noP)).2.la
   generalize rwN (ks.foldl (altS g) (s,noP)).2.fi=fv at hP q1 ⊢
   generalize rwN (ks.foldl (altS g) (s,noP)).2.la=lv at hP q2 ⊢
   simp[replaceAt]
   rw[hK,←hP]
   rcases q1 with⟨rfl,_⟩ | rfl<;>rcases q2 with⟨rfl,_⟩ | rfl<;>simp[FinT,replaceAt]
 unfold a48
 generalize (.block 3 (.loop [0,1,6,7,12,13] t48L2):AC)=LL at hst ⊢
 generalize (.seq (.regN [6,12] [ kP 159 12 3 12,kn (.st (some 6) 3 (ux 6) (ux 159))]) .ret:AC)=TT at hst ⊢
 generalize vc48=b2
 generalize d48=b3
 generalize r48=b4
 generalize memR H s=Z at hst ⊢
 simp[hj,hr,hl,replaceAt]
 refine hst _ ?_ _ rfl
 intro _ _
 rfl
set_option maxRecDepth 20000 in
theorem node5r {f:Nat}{kd k:Int}(hkd:kd=5∨kd=6∨kd=7)(hj:j<R.length)(hr:((rxC R).drop (j*6)).take 6=[I kd,c0,c1,c2,c3,.sl 1 [I k]])(hl:j*6+6≤(rxC R).length)(hc4:∀x∈R,x.cs.length=4)(hcl:∀x∈R,Cl4 x)
  (hC:NodeR lk lim H R f k) (hw:WfB s) (hb:NxB s) (hn:(nodeM R f k s).1.rl.length≤100000) (hlk:lk≤H.length) (hlim:lim≤H.length):
  callW X A lk lim 48 [pA H.length,.sl R.length (rxC R),I j] (memR H s)=some (PV ⟨(nodeM R f k s).2.em||decide (kd≠6),(nodeM R f k s).2.fi,(nodeM R f k s).2.la⟩,memR H (if kd=7 then (nodeM R f k s).1 else (nodeM R f k s).1.join (nodeM R f k s).2.la (nodeM R f k s).2.fi)):=by
 have hX:X lk lim 48 [pA H.length,.sl R.length (rxC R),I j] (memR H s)=none:=noX1 (by decide) (by decide) (by decide)
 have kc:=hC s hw hb hn
 have gw:=nodeM_wf hc4 f k s hw
 obtain⟨gb,g1,g2⟩:=nodeM_nb hcl f k s hb
 have kj:=join69 (lk:=lk) (lim:=lim) gw gb hn g2 g1 hlk hlim
 refine wb_callB B8 hX A48 rfl rfl ?_
 show WB ⟨callW X A,lk,lim,B8⟩ t48B _ _ _
 rw[e48]
 generalize callW X A=C at kc kj ⊢
 have hj':(j:Int)<(R.length:Int):=by omega
 generalize rxC R=cells at hr hl kc ⊢
 generalize nodeM R f k s=S at kc kj ⊢
 obtain⟨s1,e1,F1,L1⟩:=S
 dsimp only at *
 unfold PV at kc ⊢
 have q1:=rwN_I F1
 have q2:=rwN_I L1
 generalize memR H s=Z at kc ⊢
 generalize hZ1:memR H s1=Z1 at kc kj ⊢
 generalize hZ2:memR H (s1.join L1 F1)=Z2 at kj
 generalize rwN F1=fv at kc kj q1 ⊢
 generalize rwN L1=lv at kc kj q2 ⊢
 generalize vc48=b2
 generalize d48=b3
 generalize a48=b4
 unfold r48
 rcases hkd with rfl | rfl | rfl
 ·rw[if_neg (by decide),hZ2,decide_eq_true (by decide),Bool.or_true]
  rcases q1 with⟨rfl,_⟩ | rfl<;>rcases q2 with⟨rfl,_⟩ | rfl
  all_goals simp[hj,hr,hl,replaceAt,kc,kj]
 ·rw[if_neg (by decide),hZ2,decide_eq_false (by decide),Bool.or_false]
  rcases q1 with⟨rfl,_⟩ | rfl<;>rcases q2 with⟨rfl,_⟩ | rfl
  all_goals simp[hj,hr,hl,replaceAt,kc,kj]
 ·rw[if_pos rfl,hZ1,decide_eq_true (by decide),Bool.or_true]
  rcases q1 with⟨rfl,_⟩ | rfl<;>rcases q2 with⟨rfl,_⟩ | rfl
  all_goals simp[hj,hr,hl,replaceAt,kc]
theorem node48 (hR:RxOk R)(hcl:∀x∈R,Cl4 x)(hlk:lk≤H.length)(hlim:lim≤H.length):∀(f j:Nat),j<f→j<R.length→NodeR lk lim H R f j
 | 0,j,h,_=>absurd h (Nat.not_lt_zero j)
 | f+1,j,h,hj=>by
  intro s hw hb hn
  have hx:R[j]?=some R[j]:=List.getElem?_eq_getElem hj
  obtain⟨hok,hks,hkd⟩:=hR j R[j] hx
  have hall:∀x∈R,NdOk x:=fun x hx=>by
   obtain⟨i,hi⟩:=List.getElem?_of_mem hx
   exact(hR i x hi).1
  have hc4:∀x∈R,x.cs.length=4:=fun x hx=>(hall x hx).1
  obtain⟨hr,hl⟩:=rxC_at hall hx
  have hM:nodeM R (f+1) j s=(if R[j].kd=1 then (s,⟨true,[],[]⟩)
   else if R[j].kd=2 then (s.add R[j].cs,⟨false,[(s.rl.length:Int)],[(s.rl.length:Int)]⟩)
   else if R[j].kd=3 then R[j].ks.tail.foldl (catS (nodeM R f)) (nodeM R f (R[j].ks.headD 0) s)
   else if R[j].kd=4 then R[j].ks.foldl (altS (nodeM R f)) (s,noP)
   else one1 R[j] (nodeM R f (R[j].ks.headD 0) s)):=by
   simp only[nodeM,Int.toNat_natCast,hx]
  rw[hM]at hn ⊢
  clear hM
  generalize R[j]=x at hn hok hks hkd hr ⊢
  obtain⟨kd,cs,ks,kv⟩:=x
  obtain⟨hcs,hkv,hm⟩:=hok
  have hcs:cs.length=4:=hcs
  dsimp only at hn hks hkd hkv hm ⊢
  obtain⟨c0,c1,c2,c3,rfl⟩:∃c0 c1 c2 c3,cs=[c0,c1,c2,c3]:=by
   match cs,hcs with
   | [a,b,c,d],_=>exact⟨a,b,c,d,rfl⟩
  have hr:((rxC R).drop (j*6)).take 6=[I kd,c0,c1,c2,c3,kv]:=hr
  have hC:∀k∈ks,NodeR lk lim H R f k:=fun k hk=>by
   obtain⟨h1,h2⟩:=hks k hk
   obtain⟨q,rfl⟩:=Int.eq_ofNat_of_zero_le h1
   exact node48 hR hcl hlk hlim f q (by omega) (by omega)
  have hkv':1≤ks.length→kv= .sl ks.length (ints ks):=fun h1=>by
   rcases hkv with⟨_,h2⟩ | h2
   ·rw[h2]at h1;simp at h1
   ·exact h2
  rcases hkd with rfl | rfl | ⟨hk34,h1⟩ | ⟨hk,h1⟩
  ·rw[if_pos rfl]
   exact node1r hj hr hl
  ·rw[if_neg (by decide),if_pos rfl]at hn ⊢
   exact node2r hj hr hl hw (by simp[Bs.add]at hn;omega) hlk hlim
  ·have hkv2:=hkv' h1
   subst hkv2
   rcases hk34 with rfl | rfl
   ·rw[if_neg (by decide),if_neg (by decide),if_pos rfl]at hn ⊢
    match ks,h1 with
    | k::ks,_=>exact node3r hj hr hl hm hc4 hcl hC hw hb hn hlk hlim
   ·rw[if_neg (by decide),if_neg (by decide),if_neg (by decide),if_pos rfl]at hn ⊢
    exact node4r hj hr hl hm hc4 hcl hC hw hb hn hlk hlim
  ·have hkv2:=hkv' (by omega)
   subst hkv2
   match ks,h1 with
   | [k],_=>
    have e:∀{α:Type} (a b c d e:α),(if kd=1 then a else if kd=2 then b else if kd=3 then c else if kd=4 then d else e)=e:=fun a b c d e=>by
     rcases hk with rfl | rfl | rfl<;>rfl
    rw[e]at hn ⊢
    rw[one1_len]at hn
    exact node5r hk hj hr hl hc4 hcl (hC k List.mem_cons_self) hw hb hn hlk hlim
end
end Go.Proofs.Ytnhennjliinplaa

namespace Go.Proofs.Ytnhennjliinplaa
open Go Go.Hm
theorem fillI_get (z:Int):∀(l:List Int) (cs:List Int) (j:Nat),(∀k∈l,0≤k)→(fillI z l cs)[j]?=if (j:Int)∈l then cs[j]?.map (fun _=>z) else cs[j]?
 | [],cs,j,_=>by simp[fillI]
 | k::l,cs,j,h=>by
  have h0:=h k List.mem_cons_self
  show (fillI z l (cs.set k.toNat z))[j]?=_
  rw[fillI_get z l _ j fun q hq=>h q (List.mem_cons_of_mem _ hq)]
  by_cases hk:k.toNat=j
  ·have e:k=(j:Int):=by omega
   subst e
   rw[if_pos (show (j:Int)∈(j:Int)::l from List.mem_cons_self)]
   by_cases hj:j<cs.length
   ·rw[hk,List.getElem?_set_self hj,List.getElem?_eq_getElem hj]
    split<;>rfl
   ·rw[List.getElem?_eq_none (by simp;omega),List.getElem?_eq_none (by omega)]
    split<;>rfl
  ·rw[List.getElem?_set_ne hk]
   have:((j:Int)∈k::l)↔(j:Int)∈l:=by
    rw[List.mem_cons]
    exact⟨fun h=>h.resolve_left fun e=>hk (by omega),.inr⟩
   simp only[this]
theorem fillI_congr {z:Int}{l l' cs:List Int}(h:∀x,x∈l↔x∈l')(h1:∀k∈l,0≤k):fillI z l cs=fillI z l' cs:=by
 apply List.ext_getElem?
 intro j
 rw[fillI_get z l cs j h1,fillI_get z l' cs j fun k hk=>h1 k ((h k).2 hk)]
 simp only[h]
theorem fillI_snoc (z:Int):∀(l:List Int) (k:Int) (cs:List Int),fillI z (l++[k]) cs=(fillI z l cs).set k.toNat z
 | [],_,_=>rfl
 | a::l,k,cs=>fillI_snoc z l k (cs.set a.toNat z)
theorem memR_rl {H:Heap}{s:Bs}{rl:List Int}(h:rl.length=s.rl.length):(memR H s).set (H.length+2) (.cells (ints rl))=memR H ⟨s.cl,rl,s.nx⟩:=by
 unfold memR
 rw[set_at,←h];rfl
def m25:AC:=(.regD [0,2,4,7] 0 [ kM 40 0,kM 41 7,kI 42 1 40 41,kL 43 42,kM 44 0,kM 45 7,kI 46 1 44 45,kL 47 46,kN 48 47,kx 49 (.bini .sub (ux 48) c1),kf 50 (.call 48 [(ux 4),(ux 43),(ux 49)]),kx 8 (.allocR [(.val (.bool false)),.e0,.e0]),kn (.st (some 8) 3 (ux 8) (ux 50))])
def u25:AC:=(.regD [0,2,4,7,8] 0 [ kF 51 1 4,kL 52 51,kF 53 1 4,kL 54 53,kx 55 (.ixA 1 (ux 54) c0),kL 56 55,kF 57 1 8,kS 58 8 57,kx 59 (.call 49 [(ux 56),(ux 58)]),kx 60 (.ixA 1 (ux 52) c0),kn (.st none 1 (ux 60) (ux 59))])
def f25:AC:=(.regD [0,2,4,7,8,9] 0 [ kF 68 2 4,kL 69 68,kF 70 2 8,kS 71 8 70,kM 72 9,kI 73 1 71 72,kL 74 73,kM 75 7,kI 76 1 69 74,kn (.st none 1 (ux 76) (ux 75))])
def q25:AC:=(.regN [0,2,4,7,8] [ kF 77 0 8,kS 78 8 77,kM 79 78,yF 80 79 2 4,yL 81 79 80,ky 82 79 (.ixA 1 (ux 81) c0),yL 83 79 82,ky 84 79 (.bini .lss (ux 83) c0),kx 85 (.pick (ux 79) (ux 84) cF)])
def s25:AC:=(.regN [0,2,4,7] [ kF 86 2 4,kL 87 86,kM 88 7,kx 89 (.ixA 1 (ux 87) c0),kn (.st none 1 (ux 89) (ux 88))])
theorem e253:t25L3= .seq (.seq (.regN [0,2,4,7] [kM 34 7,kM 35 0,kN 36 35,kT 37 34 36]) (.cond (ux 37) .skip (.exit 2))) (.seq (.block 3 (.seq m25 (.seq u25 (.seq (.seq (.regN [0,2,4,7,8] [kZ 9]) (.block 4 (.loop [0,2,4,7,8,9] t25L2))) (.seq q25 (.cond (ux 85) s25 .skip)))))) (.regN [0,2,4,7] [kM 38 7,kU 39 38,kM 7 39])):=rfl
section
variable {C:Orc}{Q:Ex→Kt}{E:Env}{lk lim i n k:Nat}{H:Heap}{s:Bs}{vs:List AV}{Ls:List (List Nd)}{R:List Nd}{pe:Bool}{pfv plv ufv:AV}{pf pl uf:List Int}{Z Z':Heap}
abbrev b3:AV:=.box [.e0,.e0,.e0]
abbrev e7 (L:Nat)(Ls:List (List Nd))(vs:List AV)(i:Nat):Env:=[(0,.sl Ls.length vs),(2,b3),(4,pA L),(7,I i)]
abbrev e8 (L:Nat)(Ls:List (List Nd))(vs:List AV)(i:Nat)(p:AV):Env:=[(0,.sl Ls.length vs),(2,b3),(4,pA L),(7,I i),(8,p)]
set_option maxRecDepth 20000 in
theorem m25_ok (hi:i<Ls.length)(hv:vs[i]?=some (.sl R.length (rxC R)))(h1:1≤R.length)(h2:R.length≤1000)(hl:Z'.length=Z.length)(hC:C lk lim 48 [pA H.length,.sl R.length (rxC R),I ((R.length-1:Nat):Int)] Z=some (.agg [Bo pe,pfv,plv],Z'))
  (hE:restrict [0,2,4,7] E=e7 H.length Ls vs i)
  (hQ:∀E',restrict [0,2,4,7,8] E'=e8 H.length Ls vs i (pB pe pfv plv)→Q .nrm E' Z'):
  WB ⟨C,lk,lim,[2,8]⟩ m25 Q E Z:=by
 have w:IntKind.i64.wrap ((R.length:Int)-1)=((R.length-1:Nat):Int):=by rw[wrap64 (by omega) (by omega)];omega
 unfold m25
 rw[wb_regD rfl,hE]
 simp[hi,hv,w,hC,hl,replaceAt]
 exact hQ _ rfl
set_option maxRecDepth 20000 in
theorem u25_ok {rows:List AV}{xv:AV}{x:List Int}(h3:Z[H.length+3]?=some (hdR H.length n))(h1:Z[H.length+1]?=some (.cells rows))(hr:rows.length=n)(hn:1≤n)(hxv:rows[0]?=some xv)(hx:RowI xv x)(hf:RowI pfv pf)(hu:RowI ufv uf)(hC:C Z.length lim 49 [xv,pfv] Z=some (ufv,Z))(hlk:lk≤H.length)(hlim:lim≤H.length)
  (hE:restrict [0,2,4,7,8] E=e8 H.length Ls vs i (pB pe pfv plv))
  (hQ:∀E',restrict [0,2,4,7,8] E'=e8 H.length Ls vs i (pB pe pfv plv)→Q .nrm E' (Z.set (H.length+1) (.cells (rows.set 0 ufv)))):
  WB ⟨C,lk,lim,[2,8]⟩ u25 Q E Z:=by
 have hxe:=get_some hxv (by omega)
 have hl1:lk≤H.length+1:=by omega
 have hl2:lim≤H.length+1:=by omega
 have hrep:∀v,replaceAt rows 0 [v]=rows.set 0 v:=fun v=>replaceAt_one v (by omega)
 have hn0:0<n:=by omega
 have hr0:0<rows.length:=by omega
 unfold hdR at h3
 unfold u25
 rw[wb_regD rfl,hE]
 rcases hx with⟨rfl,hx0⟩ | rfl<;>rcases hf with⟨rfl,hf0⟩ | rfl<;>rcases hu with⟨rfl,hy0⟩ | rfl
 all_goals
  simp[h3,h1,hr,hn,hn0,hr0,hxv,hxe,hC]
  simp[setH,hl1,hl2,hrep,below,belowL]
  exact hQ _ rfl
set_option maxRecDepth 20000 in
theorem f25_ok {rl ll:List Int}(h3:Z[H.length+3]?=some (hdR H.length n))(h2:Z[H.length+2]?=some (.cells (ints rl)))(hr:rl.length=n){j:Nat}(hj:j<ll.length)(hk:ll[j]?=some (k:Int))(hkn:k<n)(hlk:lk≤H.length)(hlim:lim≤H.length)
  (hE:restrict [0,2,4,7,8,9] E=[(0,.sl Ls.length vs),(2,b3),(4,pA H.length),(7,I i),(8,pB pe pfv (.sl ll.length (ints ll))),(9,I j)])
  (hQ:∀E',restrict [0,2,4,7,8,9] E'=[(0,.sl Ls.length vs),(2,b3),(4,pA H.length),(7,I i),(8,pB pe pfv (.sl ll.length (ints ll))),(9,I j)]→Q .nrm E' (Z.set (H.length+2) (.cells (ints (rl.set k i))))):
  WB ⟨C,lk,lim,[2,8]⟩ f25 Q E Z:=by
 have hk2:=get_some (ints_at hk) (by rw[ints_len];exact hj)
 have hl1:lk≤H.length+2:=by omega
 have hl2:lim≤H.length+2:=by omega
 have hk1:k+1≤n:=hkn
 have hil:(ints rl).length=n:=by rw[ints_len,hr]
 have hrep:replaceAt (ints rl) k [I (i:Int)]=ints (rl.set k i):=by
  rw[replaceAt_one _ (by rw[ints_len];omega)];simp[ints,List.map_set]
 unfold hdR at h3
 unfold f25
 rw[wb_regD rfl,hE]
 simp[hj,hk2,h3,h2,hkn,hk1,hil]
 simp[setH,hl1,hl2,hrep]
 exact hQ _ rfl
set_option maxRecDepth 20000 in
theorem fill25 {cl:List AV}{nx:List (List Int)}{rl ll:List Int}(hlv:RowI plv ll)(hlb:InB rl.length ll)(hll:ll.length≤1000000)(hlk:lk≤H.length)(hlim:lim≤H.length)
  (hE:restrict [0,2,4,7,8,9] E=[(0,.sl Ls.length vs),(2,b3),(4,pA H.length),(7,I i),(8,pB pe pfv plv),(9,I 0)])
  (hQ:∀E',restrict [0,2,4,7,8] E'=e8 H.length Ls vs i (pB pe pfv plv)→Q .nrm E' (memR H ⟨cl,fillI i ll rl,nx⟩)):
  WB ⟨C,lk,lim,[2,8]⟩ (.block 4 (.loop [0,2,4,7,8,9] t25L2)) Q E (memR H ⟨cl,rl,nx⟩):=by
 refine wb_loop (σ:=Nat) (fun j=>[(0,.sl Ls.length vs),(2,b3),(4,pA H.length),(7,I i),(8,pB pe pfv plv),(9,I j)]) (fun j=>memR H ⟨cl,fillI i (ll.take j) rl,nx⟩) (fun j=>j≤ll.length) (fun j=>ll.length-j) ?_ 0 (Nat.zero_le _) hE (by rw[List.take_zero];rfl)
 intro j hj
 have he:t25L2= .seq (.seq (.regN [0,2,4,7,8,9] [kM 61 9,kF 62 2 8,kS 63 8 62,kN 64 63,kT 65 61 64]) (.cond (ux 65) .skip (.exit 4))) (.seq (.block 5 f25) (.regN [0,2,4,7,8,9] [kM 66 9,kU 67 66,kM 9 67])):=rfl
 rw[he]
 generalize hR:Rnd _ _ _ _ _ _ _=P2
 by_cases hk:j<ll.length
 case neg=>
  obtain rfl:j=ll.length:=by omega
  rw[List.take_length]
  have hx:∀env,restrict [0,2,4,7,8] env=e8 H.length Ls vs i (pB pe pfv plv)→P2 (.exit 4) env (memR H ⟨cl,fillI i ll rl,nx⟩):=fun env h=>by
   rw[←hR]
   exact hQ env h
  generalize memR H ⟨cl,fillI i ll rl,nx⟩=Z at hx ⊢
  generalize f25=F
  rcases hlv with⟨rfl,rfl⟩ | rfl
  ·simp
   exact hx _ rfl
  ·simp
   exact hx _ rfl
 obtain rfl:=hlv.sl (by omega)
 obtain⟨k,hk1⟩:=get_of hk
 have hkb:=hlb k (List.mem_of_getElem? hk1)
 obtain⟨k,rfl⟩:=Int.eq_ofNat_of_zero_le hkb.1
 have ht:ll.take (j+1)=ll.take j++[(k:Int)]:=by rw[List.take_add_one,hk1];rfl
 have hfs:=fillI_snoc i (ll.take j) k rl
 rw[←ht,Int.toNat_natCast]at hfs
 have w:IntKind.i64.wrap ((j:Int)+1)=(j:Int)+1:=wrap64 (by omega) (by omega)
 have next:∀env,restrict [0,2,4,7,8,9] env=[(0,.sl Ls.length vs),(2,b3),(4,pA H.length),(7,I i),(8,pB pe pfv (.sl ll.length (ints ll))),(9,I ((j+1:Nat):Int))]→P2 .nrm env (memR H ⟨cl,fillI i (ll.take (j+1)) rl,nx⟩):=fun env h=>by
  rw[←hR,rnd_nrm]
  exact⟨j+1,hk,by omega,h,rfl⟩
 have hb:∀E,restrict [0,2,4,7,8,9] E=[(0,.sl Ls.length vs),(2,b3),(4,pA H.length),(7,I i),(8,pB pe pfv (.sl ll.length (ints ll))),(9,I j)]→WB ⟨C,lk,lim,[2,8]⟩ (.block 5 f25) (Fol ⟨C,lk,lim,[2,8]⟩ (.regN [0,2,4,7,8,9] [kM 66 9,kU 67 66,kM 9 67]) P2) E (memR H ⟨cl,fillI i (ll.take j) rl,nx⟩):=fun E hE=>by
  rw[wb_block]
  refine f25_ok (n:=(fillI i (ll.take j) rl).length) memR3 memR2 rfl hk hk1 (by rw[fillI_len];omega) hlk hlim hE fun E' hE'=>?_
  rw[←hfs,memR_rl (by simp),blk_nrm,fol_nrm,wb_regN,hE']
  generalize memR H _=Z at next ⊢
  simp[w]
  exact next _ rfl
 generalize (.block 5 f25:AC)=F at hb ⊢
 generalize memR H ⟨cl,fillI i (ll.take j) rl,nx⟩=Z at hb ⊢
 simp[hk]
 exact hb _ rfl
set_option maxRecDepth 20000 in
theorem q25_ok {cl:List AV}{nx:List (List Int)}{rl:List Int}(h1:1≤rl.length)(hlk:lk≤H.length)(hlim:lim≤H.length)
  (hE:restrict [0,2,4,7,8] E=e8 H.length Ls vs i (pB pe pfv plv))
  (hQ:∀E',restrict [0,2,4,7] E'=e7 H.length Ls vs i→Q .nrm E' (memR H ⟨cl,if (pe&&decide (rl.getD 0 0<0))=true then rl.set 0 i else rl,nx⟩)):
  WB ⟨C,lk,lim,[2,8]⟩ (.seq q25 (.cond (ux 85) s25 .skip)) Q E (memR H ⟨cl,rl,nx⟩):=by
 have h2:=memR2 (H:=H) (s:=⟨cl,rl,nx⟩)
 have h3:=memR3 (H:=H) (s:=⟨cl,rl,nx⟩)
 obtain⟨r,hr⟩:=get_of (show 0<rl.length by omega)
 have hr2:=get_some (ints_at hr) (by rw[ints_len];omega)
 have hg:rl.getD 0 0=r:=by rw[List.getD_eq_getElem?_getD,hr];rfl
 have hl1:lk≤H.length+2:=by omega
 have hl2:lim≤H.length+2:=by omega
 have hil:(ints rl).length=rl.length:=ints_len _
 have h0:0<rl.length:=by omega
 have hrep:replaceAt (ints rl) 0 [I (i:Int)]=ints (rl.set 0 i):=by
  rw[replaceAt_one _ (by rw[ints_len];omega)];simp[ints,List.map_set]
 have hset:(memR H ⟨cl,rl,nx⟩).set (H.length+2) (.cells (ints (rl.set 0 i)))=memR H ⟨cl,rl.set 0 i,nx⟩:=memR_rl (by simp)
 rw[hg]at hQ
 dsimp only at h2 h3
 generalize hZ:memR H ⟨cl,rl,nx⟩=Z at h2 h3 hset ⊢
 unfold hdR at h3
 unfold q25
 rw[wb_seq,wb_regN,hE]
 cases pe
 ·generalize s25=F
  simp only[Bool.false_and,Bool.false_eq_true,if_false]at hQ
  rw[hZ]at hQ
  simp
  exact hQ _ rfl
 ·by_cases hr0:r<0
  ·rw[decide_eq_true hr0,Bool.true_and,if_pos rfl,←hset]at hQ
   unfold s25
   simp[-wb_true,-wb_regN,h3,h2,hil,h0,hr2,hr0]
   rw[wb_true (ev_bo rfl),wb_regN]
   simp[h3,h2,hil,h0]
   simp[setH,hl1,hl2,hrep,h1]
   refine hQ _ ?_
   rfl
  ·rw[decide_eq_false hr0,Bool.and_false,if_neg (by decide),hZ]at hQ
   generalize s25=F
   simp[h3,h2,hil,h0,hr2,hr0]
   refine hQ _ ?_
   rfl
end
end Go.Proofs.Ytnhennjliinplaa

namespace Go.Proofs.Ytnhennjliinplaa
open Go Go.Hm
def buildW (Ls:List (List Nd)):AV:=if 16<Ls.length then erB 3 else if Ls.all chkR=false then erB 2 else
 if 1024<(buildM 0 Ls s00).rl.length then erB 10
 else .tup [.agg [.sl (buildM 0 Ls s00).rl.length (buildM 0 Ls s00).cl,.sl (buildM 0 Ls s00).rl.length ((buildM 0 Ls s00).nx.map rwN),.sl (buildM 0 Ls s00).rl.length (ints (buildM 0 Ls s00).rl)],I 0]
theorem oneB_wf {R:List Nd}(hc:∀x∈R,x.cs.length=4)(i:Nat){s:Bs}(h:WfB s):WfB (oneB i R s):=by
 obtain⟨h1,h2⟩:=nodeM_wf hc R.length ((R.length-1:Nat):Int) s h
 constructor
 ·rw[oneB_len];exact h1
 ·rw[oneB_len]
  show (joinM _ _ _).length=_
  rw[joinM_len];exact h2
theorem s00_wf:WfB s00:=⟨rfl,rfl⟩
section
variable {C:Orc}{Q:Ex→Kt}{E:Env}{lk lim i n k:Nat}{H:Heap}{s:Bs}{vs:List AV}{Ls:List (List Nd)}{R:List Nd}{lv:AV}
set_option maxRecDepth 20000 in
theorem one25 (hok:RxOk R)(hch:chkR R=true)(hcl:∀x∈R,Cl4 x)(hw:WfB s)(hb:NxB s)(hn:s.rl.length≤90000)(h1:1≤s.rl.length)(hi:i<Ls.length)(hv:vs[i]?=some (.sl R.length (rxC R)))(hlk:lk≤H.length)(hlim:lim≤H.length)
  (hE:restrict [0,2,4,7] E=e7 H.length Ls vs i)
  (hQ:∀E',restrict [0,2,4,7] E'=e7 H.length Ls vs i→Q .nrm E' (memR H (oneB i R s))):
  WB ⟨callW X A,lk,lim,[2,8]⟩ (.seq m25 (.seq u25 (.seq (.seq (.regN [0,2,4,7,8] [kZ 9]) (.block 4 (.loop [0,2,4,7,8,9] t25L2))) (.seq q25 (.cond (ux 85) s25 .skip))))) Q E (memR H s):=by
 obtain⟨r1,r2,_⟩:=chkR_get hch
 have hfew:=node_few hok hch s
 have hge:=nodeM_le R R.length ((R.length-1:Nat):Int) s
 have hc4:∀x∈R,x.cs.length=4:=fun x hx=>by
  obtain⟨j,hj⟩:=List.getElem?_of_mem hx
  exact(hok j x hj).1.1
 have kc:=node48 (lk:=lk) (lim:=lim) (H:=H) hok hcl hlk hlim R.length (R.length-1) (by omega) (by omega) s hw hb (by omega)
 have gw:=nodeM_wf hc4 R.length ((R.length-1:Nat):Int) s hw
 obtain⟨gb,g1,g2⟩:=nodeM_nb hcl R.length ((R.length-1:Nat):Int) s hb
 unfold oneB at hQ
 have h49:∀{Z:Heap} {a b:List Int},H.length≤Z.length→(normI a).length+(normI b).length≤1000000→callW X A Z.length lim 49 [rwN a,rwN b] Z=some (rwN (unI a b),Z):=fun {Z a b} h1 h2=>by
  have:=union49 (lk:=Z.length) (lim:=lim) (H:=Z) (rwN_I a) (rwN_I b) (nd_normI a) h2 (Nat.le_refl _)
  rw[norm_un]at this
  exact this
 generalize nodeM R R.length ((R.length-1:Nat):Int) s=S at kc gw gb g1 g2 hfew hge hQ
 obtain⟨s1,pe,fi,la⟩:=S
 dsimp only at kc gw gb g1 g2 hfew hge hQ
 unfold PV at kc
 dsimp only at kc
 generalize callW X A=C at kc h49 ⊢
 have bl:∀{l:List Int},InB s1.rl.length l→(normI l).length≤100000:=fun h=>Nat.le_trans (inb_len (inb_norm h) (nd_normI _)) (by omega)
 obtain⟨r0,hr0⟩:=get_of (show 0<s1.nx.length by rw[gw.2];omega)
 have hr0b:=gb.1 r0 (List.mem_of_getElem? hr0)
 have hgd:s1.nx.getD 0 []=r0:=by rw[List.getD_eq_getElem?_getD,hr0];rfl
 have hjs:=joinM_step (nx:=s1.nx) (l:=[]) (v:=fi) (k:=0) (by rw[gw.2];omega)
 rw[joinM_nil,hgd]at hjs
 have hjs:s1.nx.set 0 (unI r0 fi)=joinM s1.nx [0] fi:=hjs
 have kcu:C (memR H s1).length lim 49 [rwN r0,rwN fi] (memR H s1)=some (rwN (unI r0 fi),memR H s1):=h49 (by rw[memR_len];omega) (by have:=bl hr0b;have:=bl g1;omega)
 rw[wb_seq]
 refine m25_ok hi hv r1 (by omega) (by rw[memR_len,memR_len]) kc hE fun E1 hE1=>?_
 rw[fol_nrm,wb_seq]
 refine u25_ok (n:=s1.rl.length) (xv:=rwN r0) (ufv:=rwN (unI r0 fi)) memR3 memR1 (by rw[List.length_map,gw.2]) (by omega) (by rw[List.getElem?_map,hr0];rfl) (rwN_I _) (rwN_I _) (rwN_I _) kcu hlk hlim hE1 fun E2 hE2=>?_
 have e:(s1.nx.map rwN).set 0 (rwN (unI r0 fi))=(joinM s1.nx [0] fi).map rwN:=by rw[←hjs,List.map_set]
 rw[e,memR_nx,fol_nrm,wb_seq,wb_seq,wb_regN,hE2]
 have hfl:fillI i (normI la) s1.rl=fillI i la s1.rl:=fillI_congr (fun x=>mem_normI) fun k hk=>(g2 k (mem_normI.1 hk)).1
 have hlp:∀E,restrict [0,2,4,7,8,9] E=[(0,.sl Ls.length vs),(2,b3),(4,pA H.length),(7,I i),(8,pB pe (rwN fi) (rwN la)),(9,I 0)]→WB ⟨C,lk,lim,[2,8]⟩ (.block 4 (.loop [0,2,4,7,8,9] t25L2)) (Fol ⟨C,lk,lim,[2,8]⟩ (.seq q25 (.cond (ux 85) s25 .skip)) Q) E (memR H ⟨s1.cl,s1.rl,joinM s1.nx [0] fi⟩):=fun E hE=>
  fill25 (rwN_I la) (inb_norm g2) (by have:=bl g2;omega) hlk hlim hE fun E3 hE3=>by
   rw[fol_nrm,hfl]
   exact q25_ok (by rw[fillI_len];omega) hlk hlim hE3 hQ
 generalize (.block 4 (.loop [0,2,4,7,8,9] t25L2):AC)=LL at hlp ⊢
 generalize (.seq q25 (.cond (ux 85) s25 .skip):AC)=TT at hlp ⊢
 generalize memR H ⟨s1.cl,s1.rl,joinM s1.nx [0] fi⟩=Z at hlp ⊢
 generalize rwN fi=fv at hlp ⊢
 generalize rwN la=lv at hlp ⊢
 simp
 refine hlp _ ?_
 rfl
def i25:AC:=(.regN [0,2] [ kx 14 (.build [(.val (.int .u64 0)),(.val (.int .u64 0)),(.val (.int .u64 0)),(.val (.int .u64 0))] []),kx 15 (.buildH 1 4 [(.val (.int .u64 0)),(.val (.int .u64 0)),(.val (.int .u64 0)),(.val (.int .u64 0))] [(0,4,(ux 14))]),kx 16 (.buildH 1 1 [.e0] [(0,1,(.con .e0))]),kx 17 (.buildH 1 1 [(.val (.int .i64 0))] [(0,1,(.con (.val (.int .i64 (-1)))))]),kx 18 (.build [.e0,.e0,.e0] [(0,1,(ux 15)),(1,1,(ux 16)),(2,1,(ux 17))]),kx 4 (.allocH [.e0,.e0,.e0]),kn (.st none 3 (ux 4) (ux 18))])
def z25:AC:=(.seq (.seq (.regN [2,4] [ kF 90 0 4,kL 91 90,kN 92 91,kx 93 (.bini .gtr (ux 92) (.con (.val (.int .i64 1024))))]) (.cond (ux 93) (.seq (.regN [2] [ kx 94 (.build [.e0,.e0,.e0] []),kn (.st (some 2) 3 (ux 2) (ux 94)),kx 3 (.mv (.con (.val (.int .i64 10))))]) .ret) .skip)) (.seq (.regN [2,4] [ kx 95 (.ldA none 3 (ux 4)),kn (.st (some 2) 3 (ux 2) (ux 95)),kZ 3]) .ret))
theorem e25:t25B= .seq (.regN [0] [kx 2 (.allocR [.e0,.e0,.e0]),kZ 3]) (.seq (.seq (.regN [0,2] [kM 10 0,kN 11 10,kx 12 (.bini .gtr (ux 11) (.con (.val (.int .i64 16))))]) (.cond (ux 12) (.seq (.regN [2] [kx 13 (.build [.e0,.e0,.e0] []),kn (.st (some 2) 3 (ux 2) (ux 13)),kx 3 (.mv (.con (.val (.int .i64 3))))]) .ret) .skip))
 (.seq i25 (.seq (.seq (.regN [0,2,4] [kZ 5]) (.block 0 (.loop [0,2,4,5] t25L1))) (.seq (.seq (.regN [0,2,4] [kZ 7]) (.block 2 (.loop [0,2,4,7] t25L3))) z25)))):=rfl
theorem i25_ok {lv:AV}(hlv:noRp 0 [(0,lv)]=true)(hE:restrict [0,2] E=[(0,lv),(2,b3)])(hlk:lk≤H.length)(hlim:lim≤H.length)
  (hQ:∀E',restrict [0,2,4] E'=[(0,lv),(2,b3),(4,pA H.length)]→Q .nrm E' (memR H s00)):
  WB ⟨C,lk,lim,[2,8]⟩ i25 Q E H:=by
 have hl1:lk≤H.length+3:=by omega
 have hl2:lim≤H.length+3:=by omega
 have hm:memR H s00=H++[.cells [U 0,U 0,U 0,U 0],.cells [.e0],.cells [I (-1)],.cells [.hs H.length 4 0 1 4,.hs (H.length+1) 1 0 1 1,.hs (H.length+2) 1 0 1 1]]:=rfl
 rw[hm]at hQ
 unfold i25
 rw[wb_regN,hE]
 simp[replaceAt]
 simp[setH,hl1,hl2]
 refine hQ _ ?_
 rfl
set_option maxRecDepth 20000 in
theorem chk25 {Z:Heap}(hL:LsOk lv vs Ls)(hn:Ls.length≤1000)(hC:∀v R,RvOk v R→C lk lim 10 [v] Z=some (I (if chkR R then 0 else 2),Z))
  (hE:restrict [0,2,4,5] E=[(0,lv),(2,b3),(4,pA H.length),(5,I 0)])
  (hQ:Ls.all chkR=true→∀E',restrict [0,2,4] E'=[(0,lv),(2,b3),(4,pA H.length)]→Q .nrm E' Z)
  (hR:Ls.all chkR=false→∀E',find E' 2=b3→find E' 3=I 2→Q .ret E' Z):
  WB ⟨C,lk,lim,[2,8]⟩ (.block 0 (.loop [0,2,4,5] t25L1)) Q E Z:=by
 refine wb_loop (σ:=Nat) (fun i=>[(0,lv),(2,b3),(4,pA H.length),(5,I i)]) (fun _=>Z) (fun i=>i≤Ls.length∧Ls.all chkR=(Ls.drop i).all chkR) (fun i=>Ls.length-i) ?_ 0 ⟨Nat.zero_le _,rfl⟩ hE rfl
 rintro i ⟨hi,hj⟩
 unfold t25L1
 generalize hR2:Rnd _ _ _ _ _ _ _=P2
 by_cases hk:i<Ls.length
 case neg=>
  obtain rfl:i=Ls.length:=by omega
  rw[List.drop_length]at hj
  have hx:∀env,restrict [0,2,4] env=[(0,lv),(2,b3),(4,pA H.length)]→P2 (.exit 0) env Z:=fun env h=>by
   rw[←hR2]
   exact hQ (by rw[hj];rfl) env h
  rcases hL.1 with⟨h1,h2⟩ | h1
  ·rw[h1]at hx ⊢
   rw[h2]
   simp
   exact hx _ rfl
  ·rw[h1]at hx ⊢
   simp
   exact hx _ rfl
 obtain⟨R,hRi⟩:=get_of hk
 obtain⟨v,hv,hvR⟩:=hL.2 i R hRi
 rw[List.drop_eq_getElem_cons hk,get_some hRi hk,List.all_cons]at hj
 have kc:=hC v R hvR
 have hlv:lv= .sl Ls.length vs:=by
  rcases hL.1 with⟨_,h⟩ | h
  ·rw[h]at hk;simp at hk
  ·exact h
 have w:IntKind.i64.wrap ((i:Int)+1)=(i:Int)+1:=wrap64 (by omega) (by omega)
 cases hc:chkR R with
 | true=>
  rw[hc]at kc hj
  rw[Bool.true_and]at hj
  rw[if_pos rfl]at kc
  have next:∀env,restrict [0,2,4,5] env=[(0,lv),(2,b3),(4,pA H.length),(5,I ((i+1:Nat):Int))]→P2 .nrm env Z:=fun env h=>by
   rw[←hR2,rnd_nrm]
   exact⟨i+1,⟨hk,hj⟩,by omega,h,rfl⟩
  rw[hlv]at next ⊢
  rcases hvR.1 with⟨h1,_⟩ | h1
  all_goals
   rw[h1]at hv kc
   simp[hk,hv,kc,w]
   refine next _ ?_
   rfl
 | false=>
  rw[hc]at kc hj
  rw[if_neg (by decide)]at kc
  have hf:∀env,find env 2=b3→find env 3=I 2→P2 .ret env Z:=fun env h1 h2=>by
   rw[←hR2]
   exact hR (by rw[hj];rfl) env h1 h2
  rw[hlv]
  rcases hvR.1 with⟨h1,_⟩ | h1
  all_goals
   rw[h1]at hv kc
   simp[hk,hv,kc,w,replaceAt]
   refine hf _ ?_ ?_<;>rfl
set_option maxRecDepth 20000 in
theorem rounds25 (hL:LsOk lv vs Ls)(hn:Ls.length≤16)(hall:Ls.all chkR=true)(hlk:lk≤H.length)(hlim:lim≤H.length)
  (hE:restrict [0,2,4,7] E=[(0,lv),(2,b3),(4,pA H.length),(7,I 0)])
  (hQ:∀E',restrict [2,4] E'=[(2,b3),(4,pA H.length)]→WfB (buildM 0 Ls s00)→NxB (buildM 0 Ls s00)→(buildM 0 Ls s00).rl.length≤10000→Q .nrm E' (memR H (buildM 0 Ls s00))):
  WB ⟨callW X A,lk,lim,[2,8]⟩ (.block 2 (.loop [0,2,4,7] t25L3)) Q E (memR H s00):=by
 refine wb_loop (σ:=Nat×Bs) (fun z=>[(0,lv),(2,b3),(4,pA H.length),(7,I z.1)]) (fun z=>memR H z.2)
  (fun z=>z.1≤Ls.length∧buildM z.1 (Ls.drop z.1) z.2=buildM 0 Ls s00∧WfB z.2∧NxB z.2∧1≤z.2.rl.length∧z.2.rl.length≤1+512*z.1) (fun z=>Ls.length-z.1) ?_ (0,s00) ⟨Nat.zero_le _,rfl,s00_wf,s00_nb,Nat.le_refl _,Nat.le_refl _⟩ hE rfl
 rintro⟨i,s⟩ ⟨hi,hb,hw,hx,hl1,hl2⟩
 dsimp only at hi hb hw hx hl1 hl2 ⊢
 rw[e253]
 generalize hR2:Rnd _ _ _ _ _ _ _=P2
 by_cases hk:i<Ls.length
 case neg=>
  obtain rfl:i=Ls.length:=by omega
  rw[List.drop_length]at hb
  have hb:s=buildM 0 Ls s00:=hb
  have hx2:∀env,restrict [2,4] env=[(2,b3),(4,pA H.length)]→P2 (.exit 2) env (memR H s):=fun env h=>by
   rw[←hR2]
   rw[←hb]at hQ
   exact hQ env h hw hx (by omega)
  generalize memR H s=Z at hx2 ⊢
  generalize (.block 3 (.seq m25 (.seq u25 (.seq (.seq (.regN [0,2,4,7,8] [kZ 9]) (.block 4 (.loop [0,2,4,7,8,9] t25L2))) (.seq q25 (.cond (ux 85) s25 .skip))))):AC)=F
  rcases hL.1 with⟨h1,h2⟩ | h1
  ·rw[h1,h2]
   simp
   refine hx2 _ ?_
   rfl
  ·rw[h1]
   simp
   refine hx2 _ ?_
   rfl
 obtain⟨R,hRi⟩:=get_of hk
 obtain⟨v,hv,hvR⟩:=hL.2 i R hRi
 rw[List.drop_eq_getElem_cons hk,get_some hRi hk]at hb
 have hb:buildM (i+1) (Ls.drop (i+1)) (oneB i R s)=buildM 0 Ls s00:=hb
 have hlv:lv= .sl Ls.length vs:=by
  rcases hL.1 with⟨_,h⟩ | h
  ·rw[h]at hk;simp at hk
  ·exact h
 have hch:chkR R=true:=List.all_eq_true.1 hall R (List.mem_of_getElem? hRi)
 have hok:=chkR_ok hch fun x hx=>(hvR.2 x hx).1
 have hcl:∀x∈R,Cl4 x:=fun x hx=>(hvR.2 x hx).2.1
 have hR1:=(chkR_get hch).1
 have hvv:v= .sl R.length (rxC R):=by
  rcases hvR.1 with⟨_,h⟩ | h
  ·rw[h]at hR1;simp at hR1
  ·exact h
 rw[hvv]at hv
 have hfew:=oneB_few hok hch i s
 have w:IntKind.i64.wrap ((i:Int)+1)=(i:Int)+1:=wrap64 (by omega) (by omega)
 have hwf:=oneB_wf (fun x hx=>(hvR.2 x hx).1.1) i hw
 have hnb:=oneB_nb hcl i hx
 have next:∀env,restrict [0,2,4,7] env=e7 H.length Ls vs (i+1)→P2 .nrm env (memR H (oneB i R s)):=fun env h=>by
  rw[←hR2,rnd_nrm,hlv]
  exact⟨(i+1,oneB i R s),⟨hk,hb,hwf,hnb,by show 1≤(oneB i R s).rl.length;omega,by show (oneB i R s).rl.length≤1+512*(i+1);omega⟩,by show Ls.length-(i+1)<Ls.length-i;omega,h,rfl⟩
 have hbd:∀E,restrict [0,2,4,7] E=e7 H.length Ls vs i→WB ⟨callW X A,lk,lim,[2,8]⟩ (.block 3 (.seq m25 (.seq u25 (.seq (.seq (.regN [0,2,4,7,8] [kZ 9]) (.block 4 (.loop [0,2,4,7,8,9] t25L2))) (.seq q25 (.cond (ux 85) s25 .skip)))))) (Fol ⟨callW X A,lk,lim,[2,8]⟩ (.regN [0,2,4,7] [kM 38 7,kU 39 38,kM 7 39]) P2) E (memR H s):=fun E hE=>by
  rw[wb_block]
  refine one25 hok hch hcl hw hx (by omega) hl1 hk hv hlk hlim hE fun E' hE'=>?_
  generalize memR H (oneB i R s)=Z at next ⊢
  rw[blk_nrm,fol_nrm,wb_regN,hE']
  simp[w]
  refine next _ ?_
  rfl
 generalize callW X A=C at hbd ⊢
 generalize (.block 3 (.seq m25 (.seq u25 (.seq (.seq (.regN [0,2,4,7,8] [kZ 9]) (.block 4 (.loop [0,2,4,7,8,9] t25L2))) (.seq q25 (.cond (ux 85) s25 .skip))))):AC)=F at hbd ⊢
 generalize memR H s=Z at hbd ⊢
 rw[hlv]
 simp[hk]
 refine hbd _ ?_
 rfl
theorem bel_rw (n:Nat)(l:List (List Int)):belowL n (l.map rwN)=true:=belowL_self fun c hc=>by
 obtain⟨z,_,rfl⟩:=List.mem_map.1 hc
 unfold rwN rowN
 split
 ·rfl
 ·simp only[below];exact bel_i n _
theorem frz_rw (n:Nat)(Z:Heap)(d:Nat)(l:List (List Int)):mapO (frz n Z d) (l.map rwN)=some (l.map rwN):=mapO_self fun c hc=>by
 obtain⟨z,_,rfl⟩:=List.mem_map.1 hc
 unfold rwN rowN
 split<;>cases d<;>rfl
set_option maxRecDepth 20000 in
theorem z25_ok (hw:WfB s)(hb:NxB s)(h1:1≤s.rl.length){r:AV×Heap}
  (hr:r=(if 1024<s.rl.length then erB 10 else .tup [.agg [.sl s.rl.length s.cl,.sl s.rl.length (s.nx.map rwN),.sl s.rl.length (ints s.rl)],I 0],H))
  (hE:restrict [2,4] E=[(2,b3),(4,pA H.length)]):
  WB ⟨C,lk,H.length,[2,8]⟩ z25 (FinT [.cell 2 3 true,.tmp 3] true H r) E (memR H s):=by
 have g0:=memR0 (H:=H) (s:=s)
 have g1:=memR1 (H:=H) (s:=s)
 have g2:=memR2 (H:=H) (s:=s)
 have g3:=memR3 (H:=H) (s:=s)
 have ht:=memR_take (H:=H) (s:=s)
 obtain⟨lc,lx⟩:=hw
 have w1:(ints s.rl).length=s.rl.length:=ints_len _
 have w2:(s.nx.map rwN).length=s.rl.length:=by rw[List.length_map,lx]
 generalize memR H s=Z at g0 g1 g2 g3 ht ⊢
 unfold hdR at g3
 unfold z25
 by_cases hbig:1024<s.rl.length
 ·rw[if_pos hbig]at hr
  have hbig2:(1024:Int)<(s.rl.length:Int):=by omega
  subst hr
  rw[wb_seq,wb_seq,wb_regN,hE]
  simp[g3,hbig2,replaceAt,FinT,erB,frz,below,belowL,ht]
 ·rw[if_neg hbig]at hr
  have hbig2:¬(1024:Int)<(s.rl.length:Int):=by omega
  subst hr
  rw[wb_seq,wb_seq,wb_regN,hE]
  have m1:=frz_u hb H.length
  have m2:=frz_i H.length
  have m3:=frz_rw H.length
  have v1:=bel_u hb H.length
  have v2:=bel_i H.length
  have v3:=bel_rw H.length
  have n0:¬H.length<H.length:=Nat.lt_irrefl _
  have n1:¬H.length+1<H.length:=by omega
  have n2:¬H.length+2<H.length:=by omega
  have tk1:s.cl.take (s.rl.length*4)=s.cl:=List.take_of_length_le (by omega)
  have tk2:(s.nx.map rwN).take s.rl.length=s.nx.map rwN:=List.take_of_length_le (by omega)
  simp[g3,hbig2,replaceAt]
  simp[FinT,finish,resOf,resList,resOne,find,frz,mapO,slCells,g0,g1,g2,n1,n2,lc,lx,w1,w2,m1,m2,m3,below,belowL,v1,v2,v3,ht,tk1,tk2]
theorem build25 (hL:LsOk lv vs Ls)(hn:Ls.length≤1000)(hlk:lk≤H.length):callW X A lk lim 25 [lv] H=some (buildW Ls,H):=by
 have hX:X lk lim 25 [lv] H=none:=noX1 (by decide) (by decide) (by decide)
 refine wb_callB [2,8] hX A25 rfl (by rcases hL.1 with⟨rfl,_⟩ | rfl<;>rfl) ?_
 show WB ⟨callW X A,lk,H.length,[2,8]⟩ t25B _ _ _
 rw[e25]
 have h10:∀v R,RvOk v R→callW X A lk H.length 10 [v] (memR H s00)=some (I (if chkR R then 0 else 2),memR H s00):=fun v R h=>check10 h.1 (fun x hx=>(h.2 x hx).1) (fun x hx=>(h.2 x hx).2.1) (fun x hx=>(h.2 x hx).2.2) (by rw[memR_len];omega)
 have hrd:Ls.length≤16→Ls.all chkR=true→∀{E:Env} {Q:Ex→Kt},restrict [0,2,4,7] E=[(0,lv),(2,b3),(4,pA H.length),(7,I 0)]→(∀E',restrict [2,4] E'=[(2,b3),(4,pA H.length)]→WfB (buildM 0 Ls s00)→NxB (buildM 0 Ls s00)→(buildM 0 Ls s00).rl.length≤10000→Q .nrm E' (memR H (buildM 0 Ls s00)))→
   WB ⟨callW X A,lk,H.length,[2,8]⟩ (.block 2 (.loop [0,2,4,7] t25L3)) Q E (memR H s00):=fun h1 h2 {E Q} hE hQ=>rounds25 hL h1 h2 hlk (Nat.le_refl _) hE hQ
 obtain⟨r,hr⟩:∃r,r=(buildW Ls,H):=⟨_,rfl⟩
 rw[←hr]
 generalize callW X A=C at h10 hrd ⊢
 have hb1:∀(Ls:List (List Nd)) (i:Nat) (s:Bs),(∀R∈Ls,∃v,RvOk v R∧chkR R=true)→1≤s.rl.length→1≤(buildM i Ls s).rl.length:=fun Ls=>by
  induction Ls with
  | nil=>intro i s _ h;exact h
  | cons R Ls ih=>
   intro i s h1 h2
   obtain⟨v,hv,hc⟩:=h1 R List.mem_cons_self
   refine ih (i+1) (oneB i R s) (fun R hR=>h1 R (List.mem_cons_of_mem _ hR)) ?_
   have:=oneB_few (chkR_ok hc fun x hx=>(hv.2 x hx).1) hc i s
   omega
 generalize hP:FinT [.cell 2 3 true,.tmp 3] true H r=P
 have er:∀(e:Int) Z,r=(erB e,H)→Z.take H.length=H→∀env,find env 2=b3→find env 3=I e→P .ret env Z:=fun e Z h1 hZ env h2 h3=>by
  rw[←hP,h1]
  simp[FinT,finish,resOf,resList,resOne,h2,h3,frz,mapO,below,belowL,erB,hZ]
 -- from the checks on
 have hx:Ls.length≤16→∀E,restrict [0,2,4,5] E=[(0,lv),(2,b3),(4,pA H.length),(5,I 0)]→WB ⟨C,lk,H.length,[2,8]⟩ (.block 0 (.loop [0,2,4,5] t25L1)) (Fol ⟨C,lk,H.length,[2,8]⟩ (.seq (.seq (.regN [0,2,4] [kZ 7]) (.block 2 (.loop [0,2,4,7] t25L3))) z25) P) E (memR H s00):=fun h16 E hE=>
  chk25 hL hn h10 hE (fun hall E' hE'=>by
   have hr2:r=(if 1024<(buildM 0 Ls s00).rl.length then erB 10 else .tup [.agg [.sl (buildM 0 Ls s00).rl.length (buildM 0 Ls s00).cl,.sl (buildM 0 Ls s00).rl.length ((buildM 0 Ls s00).nx.map rwN),.sl (buildM 0 Ls s00).rl.length (ints (buildM 0 Ls s00).rl)],I 0],H):=by
    rw[hr];unfold buildW;rw[if_neg (by omega),if_neg (by rw[hall];decide)]
   have h1:=hb1 Ls 0 s00 (fun R hR=>by
    obtain⟨j,hj⟩:=List.getElem?_of_mem hR
    obtain⟨v,_,hv⟩:=hL.2 j R hj
    exact⟨v,hv,List.all_eq_true.1 hall R hR⟩) (Nat.le_refl _)
   have hlp:∀E,restrict [0,2,4,7] E=[(0,lv),(2,b3),(4,pA H.length),(7,I 0)]→WB ⟨C,lk,H.length,[2,8]⟩ (.block 2 (.loop [0,2,4,7] t25L3)) (Fol ⟨C,lk,H.length,[2,8]⟩ z25 P) E (memR H s00):=fun E hE=>
    hrd h16 hall hE fun E2 hE2 hw hb _=>by
     rw[fol_nrm,←hP]
     exact z25_ok hw hb h1 hr2 hE2
   rw[fol_nrm]
   generalize (.block 2 (.loop [0,2,4,7] t25L3):AC)=L2 at hlp ⊢
   generalize z25=zz at hlp ⊢
   generalize memR H s00=Z at hlp ⊢
   rw[wb_seq,wb_seq,wb_regN,hE']
   rcases hL.1 with⟨h1,h2⟩ | h1
   ·rw[h1]at hlp ⊢
    simp
    refine hlp _ ?_
    rfl
   ·rw[h1]at hlp ⊢
    simp
    refine hlp _ ?_
    rfl) fun hno E' h2 h3=>by
   rw[fol_ret]
   exact er 2 _ (by rw[hr];unfold buildW;rw[if_neg (by omega),if_pos hno]) memR_take E' h2 h3
 generalize (.block 0 (.loop [0,2,4,5] t25L1):AC)=L0 at hx ⊢
 generalize (.seq (.seq (.regN [0,2,4] [kZ 7]) (.block 2 (.loop [0,2,4,7] t25L3))) z25:AC)=T2 at hx ⊢
 have hi:Ls.length≤16→∀E,restrict [0,2] E=[(0,lv),(2,b3)]→WB ⟨C,lk,H.length,[2,8]⟩ (.seq i25 (.seq (.seq (.regN [0,2,4] [kZ 5]) L0) T2)) P E H:=fun h16 E hE=>by
  rw[wb_seq]
  refine i25_ok (by rcases hL.1 with⟨h1,_⟩ | h1<;>rw[h1]<;>rfl) hE hlk (Nat.le_refl _) fun E' hE'=>?_
  have hx:=hx h16
  generalize memR H s00=Z at hx ⊢
  rw[fol_nrm,wb_seq,wb_seq,wb_regN,hE']
  rcases hL.1 with⟨h1,h2⟩ | h1
  ·rw[h1]at hx ⊢
   simp
   refine hx _ ?_
   rfl
  ·rw[h1]at hx ⊢
   simp
   refine hx _ ?_
   rfl
 generalize (.seq i25 (.seq (.seq (.regN [0,2,4] [kZ 5]) L0) T2):AC)=I2 at hi ⊢
 by_cases hbig:16<Ls.length
 ·have hbig2:(16:Int)<(Ls.length:Int):=by omega
  have er:=er 3 H (by rw[hr];unfold buildW;rw[if_pos hbig]) (List.take_length)
  rcases hL.1 with⟨h1,h2⟩ | h1
  ·rw[h2]at hbig;simp at hbig
  ·rw[h1]
   simp[hbig2,replaceAt]
   refine er _ ?_ ?_<;>rfl
 ·have hbig2:¬(16:Int)<(Ls.length:Int):=by omega
  have hi:=hi (by omega)
  rcases hL.1 with⟨h1,h2⟩ | h1
  ·rw[h1]at hi ⊢
   simp
   refine hi _ ?_
   rfl
  ·rw[h1]at hi ⊢
   simp[hbig2]
   refine hi _ ?_
   rfl
end
end Go.Proofs.Ytnhennjliinplaa
