/- A class's bytes; states: how they are given. -/
import Derived.Test.YtnhennjliinplaaGM
set_option linter.all false
namespace Go.Proofs.Ytnhennjliinplaa
open Go Go.Hm

def hasC (cs:List AV)(n:Nat):Bool:=match cs[n / 64]? with
 | some (.val (.int .u64 w))=>IntKind.u64.wrap (((w % 2 ^ IntKind.u64.bits).toNat&&& (IntKind.u64.wrap (2 ^ min (n % 64) IntKind.u64.bits) % 2 ^ IntKind.u64.bits).toNat:Nat):Int) != 0
 | _=>false
theorem has_code {a b c d:Int}{n:Nat}(hx:n≤255){lk lim:Nat}{H:Heap}:
  callW X A lk lim 65 [.agg [U a,U b,U c,U d],.val (.int .u8 n)] H=some (Bo (hasC [U a,U b,U c,U d] n),H):=by
 have hX:X lk lim 65 [.agg [U a,U b,U c,U d],.val (.int .u8 n)] H=none:=noX1 (by decide) (by decide) (by decide)
 refine wb_callB [2] hX A65 rfl rfl ?_
 unfold t65B
 generalize callW X A=C
 obtain⟨r,hr⟩:∃r,n % 64=r:=⟨_,rfl⟩
 have h64:r<64:=by omega
 obtain⟨t,ht⟩:∃t,hasC [U a,U b,U c,U d] n=t:=⟨_,rfl⟩
 rw[ht]
 unfold hasC at ht
 rw[hr]at ht
 have h0:¬((r:Int)<0):=by omega
 have e0:IntKind.u8.wrap ((n:Int) / 64)=((n / 64:Nat):Int):=by
  rw[wrapu8 (by omega) (by omega)];omega
 have e1:(n:Int).tmod 64=(r:Int):=by
  rw[Int.tmod_eq_emod_of_nonneg (by omega)];omega
 have f0:IntKind.u8.wrap 0=0:=by decide
 have f1:IntKind.u8.wrap 1=1:=by decide
 have f2:IntKind.u8.wrap 2=2:=by decide
 have f3:IntKind.u8.wrap 3=3:=by decide
 rcases (by omega:n / 64=0∨n / 64=1∨n / 64=2∨n / 64=3) with h | h | h | h
 all_goals
  rw[h]at e0 ht
  simp[f0,f1,f2,f3,e0,e1,h0]
  exact ht
def RowI (v:AV)(l:List Int):Prop:=(v= .e0∧l=[])∨v= .sl l.length (ints l)
def ruleS (rl:List Int)(out k:Int):Int:=if 0≤k∧k<(rl.length:Int) then (if 0≤rl.getD k.toNat 0∧(out<0∨rl.getD k.toNat 0<out) then rl.getD k.toNat 0 else out) else out
def ruleM (rl set:List Int):Int:=set.foldl (ruleS rl) (-1)
set_option maxRecDepth 20000 in
theorem rule_code {lk lim:Nat}{H:Heap}{cv nv rv sv:AV}{rl set:List Int}(hr:RowI rv rl)(hs:RowI sv set)(hok:argOk cv=true∧argOk nv=true)(hn:set.length≤1000000):
  callW X A lk lim 43 [.agg [cv,nv,rv],sv] H=some (I (ruleM rl set),H):=by
 have hX:X lk lim 43 [.agg [cv,nv,rv],sv] H=none:=noX1 (by decide) (by decide) (by decide)
 refine wb_callB [2] hX A43 rfl (by rcases hr with⟨rfl,_⟩ | rfl<;>rcases hs with⟨rfl,_⟩ | rfl<;>simp[argOk]) ?_
 generalize callW X A=C
 have hfin:∀out,out=ruleM rl set→∀env,find env 5=I out→WB ⟨C,lk,H.length,[2]⟩ (.seq (.regN [5] [kM 42 5,kM 4 42]) .ret) (FinT [.tmp 4] true H (I (ruleM rl set),H)) env H:=by
  intro out ho env h5
  subst ho
  simp[restrict,h5,FinT,finish,resOf,resList,resOne,find,frz,below]
 have hloop:∀env,restrict [2,5,9,10,11] env=[(2,.box [cv,nv,rv]),(5,I (-1)),(9,sv),(10,I set.length),(11,I 0)]→WB ⟨C,lk,H.length,[2]⟩ (.block 0 (.loop [2,5,9,10,11] t43L1)) (Fol ⟨C,lk,H.length,[2]⟩ (.seq (.regN [5] [kM 42 5,kM 4 42]) .ret) (FinT [.tmp 4] true H (I (ruleM rl set),H))) env H:=by
  intro env hE
  refine wb_loop (σ:=Nat×Int) (fun z=>[(2,.box [cv,nv,rv]),(5,I z.2),(9,sv),(10,I set.length),(11,I z.1)]) (fun _=>H) (fun z=>z.1≤set.length∧(set.drop z.1).foldl (ruleS rl) z.2=ruleM rl set) (fun z=>set.length-z.1) ?_ (0,-1) ⟨Nat.zero_le _,rfl⟩ hE rfl
  rintro⟨i,out⟩ ⟨hi,ho⟩
  dsimp only at hi ho ⊢
  unfold t43L1
  by_cases hk:i<set.length
  case neg=>
   obtain rfl:i=set.length:=by omega
   rw[List.drop_length]at ho
   generalize hP:Rnd _ _ _ _ _ _ _=P
   simp
   rw[←hP]
   exact hfin out ho _ rfl
  obtain⟨k,hki⟩:∃k,set[i]=k:=⟨_,rfl⟩
  obtain rfl:sv= .sl set.length (ints set):=by
   rcases hs with⟨_,h⟩ | h
   ·subst h;simp at hk
   ·exact h
  rw[List.drop_eq_getElem_cons hk,hki]at ho
  have ho:(set.drop (i+1)).foldl (ruleS rl) (ruleS rl out k)=ruleM rl set:=ho
  have hii:(ints set)[i]'(by rw[ints_len];exact hk)=I k:=by simp[ints,hki]
  have w:IntKind.i64.wrap ((i:Int)+1)=(i:Int)+1:=wrap64 (by omega) (by omega)
  have next:∀(P:Ex→Kt) out',ruleS rl out k=out'→P=Rnd [2,5,9,10,11] (fun z=>[(2,.box [cv,nv,rv]),(5,I z.2),(9,.sl set.length (ints set)),(10,I set.length),(11,I z.1)]) (fun _=>H) (fun z=>z.1≤set.length∧(set.drop z.1).foldl (ruleS rl) z.2=ruleM rl set) (fun z=>set.length-z.1) (i,out) (BlkE 0 (Fol ⟨C,lk,H.length,[2]⟩ (.seq (.regN [5] [kM 42 5,kM 4 42]) .ret) (FinT [.tmp 4] true H (I (ruleM rl set),H))))→
    ∀env,restrict [2,5,9,10,11] env=[(2,.box [cv,nv,rv]),(5,I out'),(9,.sl set.length (ints set)),(10,I set.length),(11,I ((i+1:Nat):Int))]→P .nrm env H:=by
   intro P out' h1 h2 env h3
   rw[h2,rnd_nrm]
   exact⟨(i+1,out'),⟨hk,by rw[←h1];exact ho⟩,by show set.length-(i+1)<set.length-i;omega,h3,rfl⟩
  generalize hP:Rnd _ _ _ _ _ _ _=P
  have next:=fun out' h=>next P out' h hP.symm
  clear hP ho hfin hE
  by_cases hk0:k<0
  ·have hrs:ruleS rl out k=out:=by unfold ruleS;rw[if_neg (by omega)]
   simp[hk,hii,hk0,w]
   exact next out hrs _ rfl
  by_cases hkn:(rl.length:Int)≤k
  ·have hrs:ruleS rl out k=out:=by unfold ruleS;rw[if_neg (by omega)]
   rcases hr with⟨rfl,rfl⟩ | rfl
   ·have hkn:(0:Int)≤k:=by simpa using hkn
    simp[hk,hii,hk0,hkn,w]
    exact next out hrs _ rfl
   ·simp[hk,hii,hk0,hkn,w]
    exact next out hrs _ rfl
  obtain⟨k,rfl⟩:=Int.eq_ofNat_of_zero_le (by omega:0≤k)
  have hkl:k<rl.length:=by omega
  obtain rfl:rv= .sl rl.length (ints rl):=by
   rcases hr with⟨_,h⟩ | h
   ·subst h;simp at hkl
   ·exact h
  obtain⟨r,hrk⟩:∃r,rl[k]=r:=⟨_,rfl⟩
  have hrr:(ints rl)[k]'(by rw[ints_len];exact hkl)=I r:=by simp[ints,hrk]
  have hgd:rl.getD k 0=r:=by rw[List.getD_eq_getElem?_getD,List.getElem?_eq_getElem hkl,hrk];rfl
  have hrs:ruleS rl out k=if 0≤r∧(out<0∨r<out) then r else out:=by
   unfold ruleS;rw[if_pos (by omega),Int.toNat_natCast,hgd]
  clear hr hrk hgd
  by_cases h1:0≤r
  ·by_cases h2:out<0
   ·rw[if_pos ⟨h1,.inl h2⟩]at hrs
    simp[hk,hii,hk0,hkn,hkl,hrr,h1,h2,w]
    exact next r hrs _ rfl
   ·by_cases h3:r<out
    ·rw[if_pos ⟨h1,.inr h3⟩]at hrs
     simp[hk,hii,hk0,hkn,hkl,hrr,h1,h2,h3,w]
     exact next r hrs _ rfl
    ·rw[if_neg (by omega)]at hrs
     simp[hk,hii,hk0,hkn,hkl,hrr,h1,h2,h3,w]
     exact next out hrs _ rfl
  ·rw[if_neg (by omega)]at hrs
   simp[hk,hii,hk0,hkn,hkl,hrr,h1,w]
   exact next out hrs _ rfl
 unfold t43B
 rcases hs with⟨rfl,rfl⟩ | rfl
 ·simp
  exact hloop _ rfl
 ·simp
  exact hloop _ rfl
end Go.Proofs.Ytnhennjliinplaa

namespace Go.Proofs.Ytnhennjliinplaa
open Go Go.Hm

structure Nf where
 k:Nat
 cl:List AV
 nx:List (List Int)
 rl:List Int
structure NfOk (N:Nf)(cv nv rv:AV)(vs:List AV):Prop where
 c:(cv= .e0∧N.k=0)∨cv= .sl N.k N.cl
 lc:N.cl.length=N.k*4
 u:∀c∈N.cl,∃z,c=U z
 n:(nv= .e0∧N.nx=[])∨nv= .sl N.nx.length vs
 v:∀(j:Nat) l,N.nx[j]?=some l→∃v,vs[j]?=some v∧RowI v l
 r:RowI rv N.rl
def hitI (cl:List AV)(b:Nat)(hit:List Int)(t:Int):List Int:=if hasC ((cl.drop (t.toNat*4)).take 4) b=true then addI hit t else hit
def hitS (N:Nf)(b:Nat)(hit:List Int)(k:Int):List Int:=if 0≤k∧k<(N.nx.length:Int) then (N.nx.getD k.toNat []).foldl (hitI N.cl b) hit else hit
def stepM (N:Nf)(set:List Int)(b:Nat):List Int:=normI (set.foldl (hitS N b) [])
theorem cls_at {cl:List AV}{k t:Nat}(hl:cl.length=k*4)(hu:∀c∈cl,∃z,c=U z)(ht:t<k):∃a b c d,(cl.drop (t*4)).take 4=[U a,U b,U c,U d]∧t*4+4≤cl.length:=by
 have h4:t*4+4≤cl.length:=by omega
 have hlen:((cl.drop (t*4)).take 4).length=4:=by rw[List.length_take,List.length_drop];omega
 have hm:∀c∈(cl.drop (t*4)).take 4,∃z,c=U z:=fun c hc=>hu c (List.mem_of_mem_drop (List.mem_of_mem_take hc))
 generalize (cl.drop (t*4)).take 4=x at hlen hm
 match x,hlen with
 | [p,q,r,s],_=>
  obtain⟨a,rfl⟩:=hm p (by simp)
  obtain⟨b,rfl⟩:=hm q (by simp)
  obtain⟨c,rfl⟩:=hm r (by simp)
  obtain⟨d,rfl⟩:=hm s (by simp)
  exact⟨a,b,c,d,rfl,h4⟩
theorem nd_hitI {cl:List AV}{b:Nat}:∀(l:List Int) (hit:List Int),hit.Nodup→(l.foldl (hitI cl b) hit).Nodup
 | [],_,h=>h
 | t::l,hit,h=>nd_hitI l _ (by unfold hitI;split;exact nd_addI h;exact h)
theorem in_hitI {cl:List AV}{b k:Nat}:∀(l:List Int) (hit:List Int),InB k hit→InB k l→InB k (l.foldl (hitI cl b) hit)
 | [],_,h,_=>h
 | t::l,hit,h,hl=>in_hitI l _ (by
   unfold hitI
   split
   ·intro z hz
    rcases mem_addI.1 hz with hz | hz
    ·exact h z hz
    ·exact hl z (by rw[hz];exact List.mem_cons_self)
   ·exact h) fun z hz=>hl z (List.mem_cons_of_mem _ hz)
section
variable {C:Orc}{Q:Ex→Kt}{E:Env}{lk lim b i n:Nat}{H:Heap}{N:Nf}{cv nv rv sv lv:AV}{vs:List AV}{l hit:List Int}
set_option maxRecDepth 20000 in
theorem step_in (hN:NfOk N cv nv rv vs)(hl:RowI lv l)(hln:l.length≤1000000)(hin:InB N.k l)(hlk:lk≤H.length)(hC:∀a b' c d (Z:Heap),C lk lim 65 [.agg [U a,U b',U c,U d],.val (.int .u8 b)] Z=some (Bo (hasC [U a,U b',U c,U d] b),Z))
  (hE:restrict [2,3,7,13,14,15,32,33,34] E=[(2,.val (.int .u8 b)),(3,.box [cv,nv,rv]),(7,.mp H.length),(13,sv),(14,I n),(15,I i),(32,lv),(33,I l.length),(34,I 0)])
  (hQ:∀E',restrict [2,3,7,13,14,15] E'=[(2,.val (.int .u8 b)),(3,.box [cv,nv,rv]),(7,.mp H.length),(13,sv),(14,I n),(15,I i)]→Q .nrm E' (H++[.map (sE (l.foldl (hitI N.cl b) hit))])):
  WB ⟨C,lk,lim,[3]⟩ (.block 2 (.loop [2,3,7,13,14,15,32,33,34] t42L1)) Q E (H++[.map (sE hit)]):=by
 refine wb_loop (σ:=Nat×List Int) (fun z=>[(2,.val (.int .u8 b)),(3,.box [cv,nv,rv]),(7,.mp H.length),(13,sv),(14,I n),(15,I i),(32,lv),(33,I l.length),(34,I z.1)]) (fun z=>H++[.map (sE z.2)])
  (fun z=>z.1≤l.length∧(l.drop z.1).foldl (hitI N.cl b) z.2=l.foldl (hitI N.cl b) hit) (fun z=>l.length-z.1) ?_ (0,hit) ⟨Nat.zero_le _,rfl⟩ hE rfl
 rintro⟨j,ht⟩ ⟨hj,hf⟩
 dsimp only at hj hf ⊢
 unfold t42L1
 by_cases hk:j<l.length
 case neg=>
  obtain rfl:j=l.length:=by omega
  rw[List.drop_length]at hf
  have hf:ht=l.foldl (hitI N.cl b) hit:=hf
  rw[←hf]at hQ
  generalize hP:Rnd _ _ _ _ _ _ _=P
  simp
  rw[←hP]
  exact hQ _ rfl
 obtain⟨t,htj⟩:∃t,l[j]=t:=⟨_,rfl⟩
 obtain rfl:lv= .sl l.length (ints l):=by
  rcases hl with⟨_,h⟩ | h
  ·subst h;simp at hk
  ·exact h
 have ht2:=hin t (htj▸List.getElem_mem hk)
 obtain⟨t,rfl⟩:=Int.eq_ofNat_of_zero_le ht2.1
 have htk:t<N.k:=by omega
 have htk2:(t:Int)<(N.k:Int):=ht2.2
 rw[List.drop_eq_getElem_cons hk,htj]at hf
 have hf:(l.drop (j+1)).foldl (hitI N.cl b) (hitI N.cl b ht t)=l.foldl (hitI N.cl b) hit:=hf
 have hii:(ints l)[j]'(by rw[ints_len];exact hk)=I t:=by simp[ints,htj]
 have w:IntKind.i64.wrap ((j:Int)+1)=(j:Int)+1:=wrap64 (by omega) (by omega)
 obtain⟨a0,a1,a2,a3,hcl,h4⟩:=cls_at hN.lc hN.u htk
 have hCc:=hC a0 a1 a2 a3 (H++[.map (sE ht)])
 obtain rfl:cv= .sl N.k N.cl:=by
  rcases hN.c with⟨_,h⟩ | h
  ·omega
  ·exact h
 have hms:=mset_sE ht t
 have hset:(H++[HB.map (sE ht)]).set H.length (.map (sE (addI ht t)))=H++[.map (sE (addI ht t))]:=by simp
 have hval:hitI N.cl b ht t=if hasC [U a0,U a1,U a2,U a3] b=true then addI ht t else ht:=by unfold hitI;rw[Int.toNat_natCast,hcl]
 generalize hP:Rnd _ _ _ _ _ _ _=P
 cases hc:hasC [U a0,U a1,U a2,U a3] b with
 | true=>
  rw[hc]at hCc hval
  rw[if_pos rfl]at hval
  simp[hk,hii,htk,htk2,hcl,h4,hCc,hlk,hms,hset,w]
  rw[←hP,rnd_nrm]
  exact⟨(j+1,addI ht t),⟨hk,by rw[←hval];exact hf⟩,by show l.length-(j+1)<l.length-j;omega,rfl,rfl⟩
 | false=>
  rw[hc]at hCc hval
  rw[if_neg (by decide)]at hval
  simp[hk,hii,htk,htk2,hcl,h4,hCc,w]
  rw[←hP,rnd_nrm]
  exact⟨(j+1,ht),⟨hk,by rw[←hval];exact hf⟩,by show l.length-(j+1)<l.length-j;omega,rfl,rfl⟩
theorem in_hitS {b:Nat}(hx:∀l∈N.nx,InB N.k l):∀(set hit:List Int),InB N.k hit→hit.Nodup→InB N.k (set.foldl (hitS N b) hit)∧(set.foldl (hitS N b) hit).Nodup
 | [],_,h,h2=>⟨h,h2⟩
 | k::set,hit,h,h2=>by
  refine in_hitS hx set (hitS N b hit k) ?_ ?_
  ·unfold hitS
   split
   ·rename_i hc
    refine in_hitI _ _ h ?_
    have hl:k.toNat<N.nx.length:=by omega
    rw[List.getD_eq_getElem?_getD,List.getElem?_eq_getElem hl]
    exact hx _ (List.getElem_mem hl)
   ·exact h
  ·unfold hitS
   split
   ·exact nd_hitI _ _ h2
   ·exact h2
set_option maxRecDepth 20000 in
theorem step_code {set:List Int}(hN:NfOk N cv nv rv vs)(hx:∀l∈N.nx,InB N.k l∧l.length≤1000000)(hk:N.k≤1000000)(hs:RowI sv set)(hn:set.length≤1000000)(hb:b≤255)(hlk:lk≤H.length):
  callW X A lk lim 42 [.agg [cv,nv,rv],sv,.val (.int .u8 b)] H=some (rowV (set.foldl (hitS N b) []),H):=by
 have hX:X lk lim 42 [.agg [cv,nv,rv],sv,.val (.int .u8 b)] H=none:=noX1 (by decide) (by decide) (by decide)
 have hcn:argOk cv=true∧argOk nv=true∧argOk rv=true:=by
  refine⟨?_,?_,?_⟩
  ·rcases hN.c with⟨rfl,_⟩ | rfl<;>rfl
  ·rcases hN.n with⟨rfl,_⟩ | rfl<;>rfl
  ·rcases hN.r with⟨rfl,_⟩ | rfl<;>rfl
 refine wb_callB [3] hX A42 rfl (by rcases hs with⟨rfl,_⟩ | rfl<;>simp[argOk]) ?_
 show WB ⟨callW X A,lk,H.length,[3]⟩ t42B _ _ _
 obtain⟨hi0,hnd0⟩:=in_hitS (b:=b) (fun l h=>(hx l h).1) set [] in_nil List.nodup_nil
 have h65:∀a b' c d (Z:Heap),callW X A lk H.length 65 [.agg [U a,U b',U c,U d],.val (.int .u8 b)] Z=some (Bo (hasC [U a,U b',U c,U d] b),Z):=fun a b' c d Z=>has_code hb
 have hZ:IsS (H++[.map (sE (set.foldl (hitS N b) []))]) H.length (set.foldl (hitS N b) []):=⟨by rw[List.getElem?_append_right (Nat.le_refl _)];simp,hnd0⟩
 have k41:=keys41 (lk:=lk) (lim:=H.length) (b:=H.length) (H:=H++[.map (sE (set.foldl (hitS N b) []))]) (by simp)
 have k40:=sort40 (lk:=lk) (lim:=H.length) hZ hi0 hk
 generalize callW X A=C at h65 k41 k40 ⊢
 have hfin:∀hit,hit=set.foldl (hitS N b) []→∀env,find env 7= .mp H.length→WB ⟨C,lk,H.length,[3]⟩ (.seq (.regN [7] [kM 50 7,kC 51 41 50,kC 52 40 51,kM 6 52]) .ret) (FinT [.tmp 6] true H (rowV (set.foldl (hitS N b) []),H)) env (H++[.map (sE hit)]):=by
  intro hit ho env h7
  subst ho
  have hbe:=bel_i H.length (normI (set.foldl (hitS N b) []))
  unfold rowV at k40 ⊢
  generalize set.foldl (hitS N b) []=hh at *
  generalize normI hh=r at *
  generalize hP:FinT _ _ _ _=P
  simp[restrict,h7,k41,k40]
  rw[←hP]
  simp[FinT,finish,resOf,resList,resOne,find,frz,below,hbe,List.take_of_length_le]
 have hloop:∀env,restrict [2,3,7,13,14,15] env=[(2,.val (.int .u8 b)),(3,.box [cv,nv,rv]),(7,.mp H.length),(13,sv),(14,I set.length),(15,I 0)]→WB ⟨C,lk,H.length,[3]⟩ (.block 0 (.loop [2,3,7,13,14,15] t42L2)) (Fol ⟨C,lk,H.length,[3]⟩ (.seq (.regN [7] [kM 50 7,kC 51 41 50,kC 52 40 51,kM 6 52]) .ret) (FinT [.tmp 6] true H (rowV (set.foldl (hitS N b) []),H))) env (H++[.map (sE [])]):=by
  intro env hE
  refine wb_loop (σ:=Nat×List Int) (fun z=>[(2,.val (.int .u8 b)),(3,.box [cv,nv,rv]),(7,.mp H.length),(13,sv),(14,I set.length),(15,I z.1)]) (fun z=>H++[.map (sE z.2)]) (fun z=>z.1≤set.length∧(set.drop z.1).foldl (hitS N b) z.2=set.foldl (hitS N b) []) (fun z=>set.length-z.1) ?_ (0,[]) ⟨Nat.zero_le _,rfl⟩ hE rfl
  rintro⟨i,hit⟩ ⟨hi,ho⟩
  dsimp only at hi ho ⊢
  by_cases hk:i<set.length
  case neg=>
   obtain rfl:i=set.length:=by omega
   rw[List.drop_length]at ho
   unfold t42L2
   generalize hP:Rnd _ _ _ _ _ _ _=P
   simp
   rw[←hP]
   exact hfin hit ho _ rfl
  obtain⟨k,hki⟩:∃k,set[i]=k:=⟨_,rfl⟩
  obtain rfl:sv= .sl set.length (ints set):=by
   rcases hs with⟨_,h⟩ | h
   ·subst h;simp at hk
   ·exact h
  rw[List.drop_eq_getElem_cons hk,hki]at ho
  have ho:(set.drop (i+1)).foldl (hitS N b) (hitS N b hit k)=set.foldl (hitS N b) []:=ho
  have hii:(ints set)[i]'(by rw[ints_len];exact hk)=I k:=by simp[ints,hki]
  have w:IntKind.i64.wrap ((i:Int)+1)=(i:Int)+1:=wrap64 (by omega) (by omega)
  generalize hP:Rnd _ _ _ _ _ _ _=P
  have next:∀hit',hitS N b hit k=hit'→∀env,restrict [2,3,7,13,14,15] env=[(2,.val (.int .u8 b)),(3,.box [cv,nv,rv]),(7,.mp H.length),(13,.sl set.length (ints set)),(14,I set.length),(15,I ((i+1:Nat):Int))]→P .nrm env (H++[.map (sE hit')]):=by
   intro hit' h1 env h3
   rw[←hP,rnd_nrm]
   exact⟨(i+1,hit'),⟨hk,by rw[←h1];exact ho⟩,by show set.length-(i+1)<set.length-i;omega,h3,rfl⟩
  clear hP ho hfin hE
  by_cases hk0:k<0
  ·have hrs:hitS N b hit k=hit:=by unfold hitS;rw[if_neg (by omega)]
   unfold t42L2
   simp[hk,hii,hk0,w]
   exact next hit hrs _ rfl
  by_cases hkn:(N.nx.length:Int)≤k
  ·have hrs:hitS N b hit k=hit:=by unfold hitS;rw[if_neg (by omega)]
   unfold t42L2
   rcases hN.n with⟨rfl,h0⟩ | rfl
   ·have hkn:(0:Int)≤k:=by omega
    simp[hk,hii,hk0,hkn,w]
    exact next hit hrs _ rfl
   ·simp[hk,hii,hk0,hkn,w]
    exact next hit hrs _ rfl
  obtain⟨k,rfl⟩:=Int.eq_ofNat_of_zero_le (by omega:0≤k)
  have hkl:k<N.nx.length:=by omega
  have hkl2:(k:Int)<(N.nx.length:Int):=by omega
  obtain⟨l,hkk⟩:∃l,N.nx[k]?=some l:=⟨N.nx[k],List.getElem?_eq_getElem hkl⟩
  obtain⟨lv,hlv,hrow⟩:=hN.v k l hkk
  obtain⟨hin,hlen⟩:=hx l (List.mem_of_getElem? hkk)
  have hrs:hitS N b hit k=l.foldl (hitI N.cl b) hit:=by
   unfold hitS;rw[if_pos (by omega),Int.toNat_natCast,List.getD_eq_getElem?_getD,hkk];rfl
  have hN2:=hN
  obtain rfl:nv= .sl N.nx.length vs:=by
   rcases hN.n with⟨_,h⟩ | h
   ·rw[h]at hkl;simp at hkl
   ·exact h
  have fin2:∀E,restrict [2,3,7,13,14,15,32,33,34] E=[(2,.val (.int .u8 b)),(3,.box [cv,.sl N.nx.length vs,rv]),(7,.mp H.length),(13,.sl set.length (ints set)),(14,I set.length),(15,I i),(32,lv),(33,I l.length),(34,I 0)]→WB ⟨C,lk,H.length,[3]⟩ (.block 2 (.loop [2,3,7,13,14,15,32,33,34] t42L1)) (BlkE 1 (Fol ⟨C,lk,H.length,[3]⟩ (.regN [2,3,7,13,14,15] [kU 49 15,kM 15 49]) P)) E (H++[.map (sE hit)]):=fun E hE=>
   step_in hN2 hrow hlen hin hlk h65 hE fun E' hE'=>by
    rw[blk_nrm,fol_nrm,wb_regN,hE']
    simp[w]
    exact next _ hrs _ rfl
  unfold t42L2
  generalize hLL:AC.block 2 (.loop [2,3,7,13,14,15,32,33,34] t42L1)=LL at fin2 ⊢
  rcases hrow with⟨rfl,rfl⟩ | rfl
  ·simp[hk,hii,hk0,hkn,hkl,hkl2,hlv]
   exact fin2 _ rfl
  ·simp[hk,hii,hk0,hkn,hkl,hkl2,hlv]
   exact fin2 _ rfl
 unfold t42B
 generalize hLL:AC.block 0 (.loop [2,3,7,13,14,15] t42L2)=LL at hloop ⊢
 rcases hs with⟨rfl,rfl⟩ | rfl
 ·simp
  exact hloop _ rfl
 ·simp
  exact hloop _ rfl
end
end Go.Proofs.Ytnhennjliinplaa

namespace Go.Proofs.Ytnhennjliinplaa
open Go Go.Hm

def risK (k:Nat):Int→List Int→Bool
 | _,[]=>true
 | last,t::r=>decide (last<t)&&(decide (t<(k:Int))&&risK k t r)
theorem risK_in {k:Nat}:∀(l:List Int) (last:Int),0≤last→risK k last l=true→InB k l
 | [],_,_,_=>in_nil
 | t::r,last,h0,h=>by
  simp only[risK,Bool.and_eq_true,decide_eq_true_eq]at h
  intro z hz
  rcases List.mem_cons.1 hz with rfl | hz
  ·omega
  ·exact risK_in r t (by omega) h.2.2 z hz
def badH (N:Nf):Bool:=decide ((N.k:Int)<1)||(decide ((1024:Int)<(N.k:Int))||(decide ((N.nx.length:Int)≠(N.k:Int))||(decide ((N.rl.length:Int)≠(N.k:Int))||!zC (N.cl.take 4))))
def g14:AC:=.regN [1,3] [
 kM 12 3,kx 13 (.bini .lss (ux 12) c1),kM 14 13,zM 15 14 3,kz 16 14 (.bini .gtr (ux 15) (.con (.val (.int .i64 1024)))),kO 17 14 16,kM 18 17,zF 19 18 1 1,zS 20 18 1 19,zN 21 18 20,zM 22 18 3,kz 23 18 (.bini .neq (ux 21) (ux 22)),kO 24 18 23,kM 25 24,zF 26 25 2 1,zS 27 25 1 26,zN 28 25 27,zM 29 25 3,kz 30 25 (.bini .neq (ux 28) (ux 29)),kO 31 25 30,kM 32 31,zF 33 32 0 1,zS 34 32 1 33,kz 35 32 (.ixA 4 (ux 34) c0),kz 36 32 (.ldA none 4 (ux 35)),kz 37 32 (.build [(.val (.int .u64 0)),(.val (.int .u64 0)),(.val (.int .u64 0)),(.val (.int .u64 0))] []),kz 38 32 (.eqa true [1,1,1,1] (ux 36) (ux 37)),kO 39 32 38]
theorem eqz (a b c d:Int):eqCells [1,1,1,1] [U a,U b,U c,U d] [AV.val (Value.int IntKind.u64 0),AV.val (Value.int IntKind.u64 0),AV.val (Value.int IntKind.u64 0),AV.val (Value.int IntKind.u64 0)]=some (zC [U a,U b,U c,U d]):=by
 have e:∀a:Int,eqScalar 1 (Value.int IntKind.u64 a) (Value.int IntKind.u64 0)=some (a==0):=fun a=>by simp[eqScalar]
 simp[eqCells,e,zC]
section
variable {C:Orc}{Q:Ex→Kt}{E:Env}{lk lim b i n:Nat}{H:Heap}{N:Nf}{cv nv rv sv lv:AV}{vs:List AV}{l hit:List Int}
set_option maxRecDepth 20000 in
theorem g14_ok (hN:NfOk N cv nv rv vs)(hE:restrict [1,3] E=[(1,.box [cv,nv,rv]),(3,I N.k)])
  (hQ:∀E',restrict [1,3] E'=[(1,.box [cv,nv,rv]),(3,I N.k)]→find E' 39=Bo (badH N)→Q .nrm E' H):
  WB ⟨C,lk,lim,[1]⟩ g14 Q E H:=by
 obtain⟨B,hB⟩:∃B,badH N=B:=⟨_,rfl⟩
 rw[hB]at hQ
 unfold badH at hB
 unfold g14
 rw[wb_regN,hE]
 obtain⟨hc,hlc,hu,hn,hv,hr⟩:=hN
 obtain⟨k,cl,nx,rl⟩:=N
 dsimp only at *
 by_cases h1:(k:Int)<1
 ·iterate 28 (rw[wr_cons];simp[-wr_cons,-wr_nil,h1])
  rw[wr_nil]
  exact hQ _ rfl (by rw[←hB];simp[find,h1])
 by_cases h2:(1024:Int)<(k:Int)
 ·iterate 28 (rw[wr_cons];simp[-wr_cons,-wr_nil,h1,h2])
  rw[wr_nil]
  exact hQ _ rfl (by rw[←hB];simp[find,h1,h2])
 obtain rfl:cv= .sl k cl:=by
  rcases hc with⟨_,h⟩ | h
  ·omega
  ·exact h
 obtain⟨a,b',c,d,hcl,h4⟩:=cls_at (t:=0) hlc hu (by omega)
 rw[Nat.zero_mul,List.drop_zero]at hcl
 have hez:=eqz a b' c d
 rw[←hcl]at hez
 have h04:4≤cl.length:=by omega
 have hk0:0<k:=by omega
 generalize zC (cl.take 4)=zb at hez hB
 by_cases h3:(nx.length:Int)=(k:Int)
 case neg=>
  rcases hn with⟨rfl,h⟩ | rfl
  ·have e3:((0:Int) != (k:Int))=true:=by simp;omega
   iterate 28 (rw[wr_cons];simp[-wr_cons,-wr_nil,h1,h2,e3])
   rw[wr_nil]
   exact hQ _ rfl (by rw[←hB];simp[find,h3])
  ·have e3:((nx.length:Int) != (k:Int))=true:=by simpa using h3
   iterate 28 (rw[wr_cons];simp[-wr_cons,-wr_nil,h1,h2,e3])
   rw[wr_nil]
   exact hQ _ rfl (by rw[←hB];simp[find,h3])
 have e3:((nx.length:Int) != (k:Int))=false:=by simpa using h3
 obtain rfl:nv= .sl nx.length vs:=by
  rcases hn with⟨_,h⟩ | h
  ·subst h;simp at h3;omega
  ·exact h
 by_cases h5:(rl.length:Int)=(k:Int)
 case neg=>
  rcases hr with⟨rfl,h⟩ | rfl
  ·have e5:((0:Int) != (k:Int))=true:=by simp;omega
   iterate 28 (rw[wr_cons];simp[-wr_cons,-wr_nil,h1,h2,e3,e5])
   rw[wr_nil]
   exact hQ _ rfl (by rw[←hB];simp[find,h5])
  ·have e5:((rl.length:Int) != (k:Int))=true:=by simpa using h5
   iterate 28 (rw[wr_cons];simp[-wr_cons,-wr_nil,h1,h2,e3,e5])
   rw[wr_nil]
   exact hQ _ rfl (by rw[←hB];simp[find,h5])
 have e5:((rl.length:Int) != (k:Int))=false:=by simpa using h5
 obtain rfl:rv= .sl rl.length (ints rl):=by
  rcases hr with⟨_,h⟩ | h
  ·subst h;simp at h5;omega
  ·exact h
 iterate 28 (rw[wr_cons];simp[-wr_cons,-wr_nil,h1,h2,e3,e5,hk0,h04,hez])
 rw[wr_nil]
 exact hQ _ rfl (by rw[←hB];simp[find,h1,h2,h3,h5])
set_option maxRecDepth 20000 in
theorem ris_in {k:Nat}{v4 v41 v42 v43:AV}(hl:RowI lv l)(hln:l.length≤1000000)
  (hE:restrict [1,3,4,6,41,42,43,48,49,50] E=[(1,.box [cv,nv,rv]),(3,I k),(4,v4),(6,I 0),(41,v41),(42,v42),(43,v43),(48,lv),(49,I l.length),(50,I 0)])
  (hQ:risK k 0 l=true→∀E',restrict [1,3,4,41,42,43] E'=[(1,.box [cv,nv,rv]),(3,I k),(4,v4),(41,v41),(42,v42),(43,v43)]→Q .nrm E' H)
  (hR:risK k 0 l=false→Q .ret [(2,I 2)] H):
  WB ⟨C,lk,lim,[1]⟩ (.block 2 (.loop [1,3,4,6,41,42,43,48,49,50] t14L1)) Q E H:=by
 refine wb_loop (σ:=Nat×Int) (fun z=>[(1,.box [cv,nv,rv]),(3,I k),(4,v4),(6,I z.2),(41,v41),(42,v42),(43,v43),(48,lv),(49,I l.length),(50,I z.1)]) (fun _=>H)
  (fun z=>z.1≤l.length∧risK k z.2 (l.drop z.1)=risK k 0 l) (fun z=>l.length-z.1) ?_ (0,0) ⟨Nat.zero_le _,rfl⟩ hE rfl
 rintro⟨j,last⟩ ⟨hj,hf⟩
 dsimp only at hj hf ⊢
 unfold t14L1
 by_cases hk:j<l.length
 case neg=>
  obtain rfl:j=l.length:=by omega
  rw[List.drop_length]at hf
  generalize hP:Rnd _ _ _ _ _ _ _=P
  simp
  rw[←hP]
  exact hQ hf.symm _ rfl
 obtain⟨t,htj⟩:∃t,l[j]=t:=⟨_,rfl⟩
 obtain rfl:lv= .sl l.length (ints l):=by
  rcases hl with⟨_,h⟩ | h
  ·subst h;simp at hk
  ·exact h
 rw[List.drop_eq_getElem_cons hk,htj]at hf
 simp only[risK]at hf
 have hii:(ints l)[j]'(by rw[ints_len];exact hk)=I t:=by simp[ints,htj]
 have w:IntKind.i64.wrap ((j:Int)+1)=(j:Int)+1:=wrap64 (by omega) (by omega)
 generalize hP:Rnd _ _ _ _ _ _ _=P
 by_cases h1:t≤last
 ·rw[decide_eq_false (by omega),Bool.false_and]at hf
  simp[hk,hii,h1]
  rw[←hP]
  exact hR hf.symm
 ·by_cases h2:(k:Int)≤t
  ·rw[decide_eq_true (by omega),decide_eq_false (by omega),Bool.false_and,Bool.and_false]at hf
   simp[hk,hii,h1,h2]
   rw[←hP]
   exact hR hf.symm
  ·rw[decide_eq_true (by omega),decide_eq_true (by omega),Bool.true_and,Bool.true_and]at hf
   simp[hk,hii,h1,h2,w]
   rw[←hP,rnd_nrm]
   exact⟨(j+1,t),⟨hk,hf⟩,by show l.length-(j+1)<l.length-j;omega,rfl,rfl⟩
def chkZ (k:Nat):List (List Int)→List Int→Bool
 | l::nx,r::rl=>risK k 0 l&&(decide (-1≤r)&&(decide (r<16)&&chkZ k nx rl))
 | _,_=>true
def h14:AC:=.regN [1,3,4,41,42,43] [
 kF 64 2 1,kS 65 1 64,kM 66 4,kI 67 1 65 66,kL 68 67,kx 69 (.bini .lss (ux 68) (.con (.val (.int .i64 (-1))))),kM 70 69,zF 71 70 2 1,zS 72 70 1 71,zM 73 70 4,zI 74 70 1 72 73,zL 75 70 74,kz 76 70 (.bini .geq (ux 75) (.con (.val (.int .i64 16)))),kO 77 70 76]
theorem e142:t14L2= .seq (.regN [1,3,41,42,43] [kT 44 43 42]) (.seq (.cond (ux 44) .skip (.exit 0)) (.seq (.block 1
 (.seq (.regN [1,3,41,42,43] [kM 45 43,kI 46 1 41 43,kL 47 46,kM 4 45,kM 5 47])
 (.seq (.regN [1,3,4,5,41,42,43] [kZ 6])
 (.seq (.seq (.regN [1,3,4,5,6,41,42,43] [kM 48 5,kN 49 48,kZ 50]) (.block 2 (.loop [1,3,4,6,41,42,43,48,49,50] t14L1)))
 (.seq h14 (.cond (ux 77) (.seq (.regN [] [kx 2 (.mv (.con (.val (.int .i64 2))))]) .ret) .skip))))))
 (.regN [1,3,41,42,43] [kU 78 43,kM 43 78]))):=rfl
set_option maxRecDepth 20000 in
theorem rows14 (hN:NfOk N cv nv rv vs)(hx:∀l∈N.nx,l.length≤1000000)(hk2:N.nx.length≤1000000)(hr:N.rl.length=N.nx.length)
  (hE:restrict [1,3,41,42,43] E=[(1,.box [cv,nv,rv]),(3,I N.k),(41,nv),(42,I N.nx.length),(43,I 0)])
  (hQ:chkZ N.k N.nx N.rl=true→∀E',Q .nrm E' H) (hR:chkZ N.k N.nx N.rl=false→Q .ret [(2,I 2)] H):
  WB ⟨C,lk,lim,[1]⟩ (.block 0 (.loop [1,3,41,42,43] t14L2)) Q E H:=by
 refine wb_loop (σ:=Nat) (fun i=>[(1,.box [cv,nv,rv]),(3,I N.k),(41,nv),(42,I N.nx.length),(43,I i)]) (fun _=>H)
  (fun i=>i≤N.nx.length∧chkZ N.k (N.nx.drop i) (N.rl.drop i)=chkZ N.k N.nx N.rl) (fun i=>N.nx.length-i) ?_ 0 ⟨Nat.zero_le _,rfl⟩ hE rfl
 rintro i ⟨hi,hf⟩
 by_cases hk:i<N.nx.length
 case neg=>
  obtain rfl:i=N.nx.length:=by omega
  rw[List.drop_length]at hf
  unfold t14L2
  generalize hP:Rnd _ _ _ _ _ _ _=P
  simp
  rw[←hP]
  exact hQ (by rw[←hf];simp[chkZ]) _
 obtain⟨l,hkk⟩:∃l,N.nx[i]?=some l:=⟨N.nx[i],List.getElem?_eq_getElem hk⟩
 obtain⟨lv,hlv,hrow⟩:=hN.v i l hkk
 have hlen:=hx l (List.mem_of_getElem? hkk)
 have hir:i<N.rl.length:=by omega
 obtain⟨r,hri⟩:∃r,N.rl[i]=r:=⟨_,rfl⟩
 have hrr:(ints N.rl)[i]'(by rw[ints_len];exact hir)=I r:=by simp[ints,hri]
 have hkk2:=(List.getElem?_eq_some_iff.1 hkk).2
 rw[List.drop_eq_getElem_cons hk,List.drop_eq_getElem_cons hir,hkk2,hri]at hf
 simp only[chkZ]at hf
 obtain rfl:nv= .sl N.nx.length vs:=by
  rcases hN.n with⟨_,h⟩ | h
  ·rw[h]at hk;simp at hk
  ·exact h
 obtain rfl:rv= .sl N.rl.length (ints N.rl):=by
  rcases hN.r with⟨_,h⟩ | h
  ·rw[h]at hir;simp at hir
  ·exact h
 have w:IntKind.i64.wrap ((i:Int)+1)=(i:Int)+1:=wrap64 (by omega) (by omega)
 rw[e142]
 generalize hP:Rnd _ _ _ _ _ _ _=P
 have hret:chkZ N.k N.nx N.rl=false→P .ret [(2,I 2)] H:=fun h=>by rw[←hP];exact hR h
 have hnext:chkZ N.k (N.nx.drop (i+1)) (N.rl.drop (i+1))=chkZ N.k N.nx N.rl→∀E',restrict [1,3,41,42,43] E'=[(1,.box [cv,.sl N.nx.length vs,.sl N.rl.length (ints N.rl)]),(3,I N.k),(41,.sl N.nx.length vs),(42,I N.nx.length),(43,I ((i+1:Nat):Int))]→P .nrm E' H:=fun h E' hE'=>by
  rw[←hP,rnd_nrm]
  exact⟨i+1,⟨hk,h⟩,by omega,hE',rfl⟩
 clear hP hE hQ hR
 have tail:risK N.k 0 l=true→∀E',restrict [1,3,4,41,42,43] E'=[(1,.box [cv,.sl N.nx.length vs,.sl N.rl.length (ints N.rl)]),(3,I N.k),(4,I i),(41,.sl N.nx.length vs),(42,I N.nx.length),(43,I i)]→
   WB ⟨C,lk,lim,[1]⟩ (.seq h14 (.cond (ux 77) (.seq (.regN [] [kx 2 (.mv (.con (.val (.int .i64 2))))]) .ret) .skip)) (BlkE 1 (Fol ⟨C,lk,lim,[1]⟩ (.regN [1,3,41,42,43] [kU 78 43,kM 43 78]) P)) E' H:=by
  intro hris E' hE'
  rw[hris,Bool.true_and]at hf
  unfold h14
  rw[wb_seq,wb_regN,hE']
  by_cases h1:r < -1
  ·rw[decide_eq_false (by omega),Bool.false_and]at hf
   simp[hir,hrr,h1]
   exact hret hf.symm
  ·by_cases h2:16≤r
   ·rw[decide_eq_true (by omega),decide_eq_false (by omega),Bool.false_and,Bool.and_false]at hf
    simp[hir,hrr,h1,h2]
    exact hret hf.symm
   ·rw[decide_eq_true (by omega),decide_eq_true (by omega),Bool.true_and,Bool.true_and]at hf
    simp[hir,hrr,h1,h2,w]
    exact hnext hf _ rfl
 generalize (.seq h14 (.cond (ux 77) (.seq (.regN [] [kx 2 (.mv (.con (.val (.int .i64 2))))]) .ret) .skip):AC)=TT at tail ⊢
 have inner:∀E',restrict [1,3,4,6,41,42,43,48,49,50] E'=[(1,.box [cv,.sl N.nx.length vs,.sl N.rl.length (ints N.rl)]),(3,I N.k),(4,I i),(6,I 0),(41,.sl N.nx.length vs),(42,I N.nx.length),(43,I i),(48,lv),(49,I l.length),(50,I 0)]→
   WB ⟨C,lk,lim,[1]⟩ (.block 2 (.loop [1,3,4,6,41,42,43,48,49,50] t14L1)) (Fol ⟨C,lk,lim,[1]⟩ TT (BlkE 1 (Fol ⟨C,lk,lim,[1]⟩ (.regN [1,3,41,42,43] [kU 78 43,kM 43 78]) P))) E' H:=fun E' hE'=>
  ris_in hrow hlen hE' (fun hris E2 hE2=>by rw[fol_nrm];exact tail hris E2 hE2) (fun hris=>by
   rw[hris,Bool.false_and]at hf
   exact hret hf.symm)
 generalize (.block 2 (.loop [1,3,4,6,41,42,43,48,49,50] t14L1):AC)=LL at inner ⊢
 rcases hrow with⟨rfl,rfl⟩ | rfl
 ·simp[hk,hlv]
  exact inner _ rfl
 ·simp[hk,hlv]
  exact inner _ rfl
end
end Go.Proofs.Ytnhennjliinplaa

namespace Go.Proofs.Ytnhennjliinplaa
open Go Go.Hm

def chkF (N:Nf):Bool:=!badH N&&chkZ N.k N.nx N.rl
def SzOk (N:Nf):Prop:=(∀l∈N.nx,l.length≤1000000)∧N.nx.length≤1000000
theorem chkZ_in {k:Nat}:∀(nx:List (List Int)) (rl:List Int),nx.length=rl.length→chkZ k nx rl=true→∀l∈nx,InB k l
 | [],_,_,_=>fun _ h=>nomatch h
 | l::nx,[],h,_=>by simp at h
 | l::nx,r::rl,h,hc=>by
  simp only[chkZ,Bool.and_eq_true]at hc
  intro x hx
  rcases List.mem_cons.1 hx with rfl | hx
  ·exact risK_in _ 0 (Int.le_refl _) hc.1
  ·exact chkZ_in nx rl (by simpa using h) hc.2.2.2 x hx
theorem badH_get {N:Nf}(h:badH N=false):1≤N.k∧N.k≤1024∧N.nx.length=N.k∧N.rl.length=N.k:=by
 unfold badH at h
 simp only[Bool.or_eq_false_iff,decide_eq_false_iff_not]at h
 omega
theorem chkF_get {N:Nf}(h:chkF N=true):1≤N.k∧N.k≤1024∧N.nx.length=N.k∧N.rl.length=N.k∧∀l∈N.nx,InB N.k l:=by
 unfold chkF at h
 simp only[Bool.and_eq_true,Bool.not_eq_true']at h
 obtain⟨h1,h2,h3,h4⟩:=badH_get h.1
 exact⟨h1,h2,h3,h4,chkZ_in _ _ (by omega) h.2⟩
section
variable {lk lim b:Nat}{H:Heap}{N:Nf}{cv nv rv sv:AV}{vs:List AV}{set:List Int}
theorem NfOk.arg (hN:NfOk N cv nv rv vs):argOk cv=true∧argOk nv=true∧argOk rv=true:=by
 refine⟨?_,?_,?_⟩
 ·rcases hN.c with⟨rfl,_⟩ | rfl<;>rfl
 ·rcases hN.n with⟨rfl,_⟩ | rfl<;>rfl
 ·rcases hN.r with⟨rfl,_⟩ | rfl<;>rfl
def j14:AC:=.seq (.seq (.regN [1,3] [kF 40 1 1,kS 41 1 40,kN 42 41,kZ 43]) (.block 0 (.loop [1,3,41,42,43] t14L2))) (.seq (.regN [] [kZ 2]) .ret)
theorem e14:t14B= .seq (.regN [0] [kB 1 3 0,kZ 2]) (.seq (.regN [1] [kF 9 0 1,kS 10 1 9,kN 11 10,kM 3 11]) (.seq (.seq g14 (.cond (ux 39) (.seq (.regN [] [kx 2 (.mv (.con (.val (.int .i64 2))))]) .ret) .skip)) j14)):=rfl
theorem check_nf (hN:NfOk N cv nv rv vs)(hsz:SzOk N):callW X A lk lim 14 [.agg [cv,nv,rv]] H=some (I (if chkF N then 0 else 2),H):=by
 have hX:X lk lim 14 [.agg [cv,nv,rv]] H=none:=noX1 (by decide) (by decide) (by decide)
 refine wb_callB [1] hX A14 rfl (by simp[argOk]) ?_
 show WB ⟨callW X A,lk,H.length,[1]⟩ t14B _ _ _
 generalize callW X A=C
 generalize hP:FinT [.tmp 2] true H (I (if chkF N then 0 else 2),H)=P
 have fin:∀e env,find env 2=I e→(if chkF N then (0:Int) else 2)=e→P .ret env H:=by
  intro e env h2 he
  rw[←hP,he]
  simp[FinT,finish,resOf,resList,resOne,h2,frz,below]
 have hj:badH N=false→∀env,restrict [1,3] env=[(1,.box [cv,nv,rv]),(3,I N.k)]→WB ⟨C,lk,H.length,[1]⟩ j14 P env H:=by
  intro hb env hE
  obtain⟨_,_,h3,h4⟩:=badH_get hb
  have hl:∀env,restrict [1,3,41,42,43] env=[(1,.box [cv,nv,rv]),(3,I N.k),(41,nv),(42,I N.nx.length),(43,I 0)]→WB ⟨C,lk,H.length,[1]⟩ (.block 0 (.loop [1,3,41,42,43] t14L2)) (Fol ⟨C,lk,H.length,[1]⟩ (.seq (.regN [] [kZ 2]) .ret) P) env H:=fun env hE=>
   rows14 hN hsz.1 hsz.2 (by omega) hE (fun hz E'=>by
    rw[fol_nrm]
    simp
    exact fin 0 _ rfl (by unfold chkF;rw[hb,hz];rfl)) (fun hz=>by
    rw[fol_ret]
    exact fin 2 _ rfl (by unfold chkF;rw[hb,hz];rfl))
  unfold j14
  generalize (.block 0 (.loop [1,3,41,42,43] t14L2):AC)=LL at hl ⊢
  rw[wb_seq,wb_seq,wb_regN,hE]
  rcases hN.n with⟨rfl,h0⟩ | rfl
  ·simp
   exact hl _ (by rw[h0];rfl)
  ·simp
   exact hl _ rfl
 have hg:∀env,restrict [1,3] env=[(1,.box [cv,nv,rv]),(3,I N.k)]→WB ⟨C,lk,H.length,[1]⟩ (.seq (.seq g14 (.cond (ux 39) (.seq (.regN [] [kx 2 (.mv (.con (.val (.int .i64 2))))]) .ret) .skip)) j14) P env H:=by
  intro env hE
  rw[wb_seq,wb_seq]
  refine g14_ok hN hE fun E' hE' h39=>?_
  rw[fol_nrm]
  cases hb:badH N with
  | true=>
   rw[hb]at h39
   rw[wb_true (ev_bo h39)]
   simp
   exact fin 2 _ rfl (by unfold chkF;rw[hb];rfl)
  | false=>
   rw[hb]at h39
   rw[wb_false (ev_bo h39),wb_skip,fol_nrm]
   exact hj hb _ hE'
 rw[e14]
 generalize (.seq (.seq g14 (.cond (ux 39) (.seq (.regN [] [kx 2 (.mv (.con (.val (.int .i64 2))))]) .ret) .skip)) j14:AC)=TT at hg ⊢
 rcases hN.c with⟨rfl,h0⟩ | rfl
 ·simp
  exact hg _ (by rw[h0];rfl)
 ·simp
  exact hg _ rfl
end
end Go.Proofs.Ytnhennjliinplaa

namespace Go.Proofs.Ytnhennjliinplaa
open Go Go.Hm

def runM (N:Nf)(set:List Int)(l:List UInt8):List Int:=l.foldl (fun set b=>stepM N set b.toNat) set
section
variable {lk lim b:Nat}{H:Heap}{N:Nf}{cv nv rv sv:AV}{vs:List AV}{set:List Int}
theorem stepM_few (hx:∀l∈N.nx,InB N.k l)(set:List Int)(b:Nat):InB N.k (stepM N set b)∧(stepM N set b).length≤N.k:=by
 obtain⟨h1,_⟩:=in_hitS (b:=b) hx set [] in_nil List.nodup_nil
 have h2:InB N.k (stepM N set b):=fun x h=>h1 x (mem_normI.1 h)
 refine⟨h2,nd_len _ _ ?_ h2⟩
 exact List.Pairwise.imp (fun h=>Int.ne_of_lt h) (up_normI _)
set_option maxRecDepth 20000 in
theorem run15 (hN:NfOk N cv nv rv vs)(hsz:SzOk N)(s:List UInt8)(hn:s.length≤1000000)(hlk:lk≤H.length):callW X A lk lim 15 [.agg [cv,nv,rv],Sg s] H=some (I (if chkF N then ruleM N.rl (runM N [0] s) else -1),H):=by
 have hX:X lk lim 15 [.agg [cv,nv,rv],Sg s] H=none:=noX1 (by decide) (by decide) (by decide)
 refine wb_callB [2] hX A15 rfl (by simp[argOk]) ?_
 show WB ⟨callW X A,lk,H.length,[2]⟩ t15B _ _ _
 have h14:=check_nf (lk:=lk) (lim:=H.length) (H:=H) hN hsz
 generalize hP:FinT [.tmp 4] true H (I (if chkF N then ruleM N.rl (runM N [0] s) else -1),H)=P
 have fin:∀e env,find env 4=I e→(if chkF N then ruleM N.rl (runM N [0] s) else -1)=e→P .ret env H:=by
  intro e env h2 he
  rw[←hP,he]
  simp[FinT,finish,resOf,resList,resOne,h2,frz,below]
 cases hc:chkF N with
 | false=>
  rw[hc]at h14 fin
  generalize callW X A=C at h14 ⊢
  unfold t15B
  simp[h14]
  exact fin _ _ rfl rfl
 | true=>
  rw[hc]at h14 fin
  obtain⟨_,hk,_,_,hin⟩:=chkF_get hc
  have h42:∀(set:List Int) (b:Nat),set.length≤1000000→b≤255→callW X A lk H.length 42 [.agg [cv,nv,rv],.sl set.length (ints set),.val (.int .u8 b)] H=some (.sl (stepM N set b).length (ints (stepM N set b)),H):=fun set b h1 h2=>step_code hN (fun l hl=>⟨hin l hl,hsz.1 l hl⟩) (by omega) (.inr rfl) h1 h2 hlk
  have h43:∀set:List Int,set.length≤1000000→callW X A lk H.length 43 [.agg [cv,nv,rv],.sl set.length (ints set)] H=some (I (ruleM N.rl set),H):=fun set h=>rule_code hN.r (.inr rfl) ⟨hN.arg.1,hN.arg.2.1⟩ h
  generalize callW X A=C at h14 h42 h43 ⊢
  generalize hbs:s.map (fun b:UInt8=>(AV.val (.int .u8 b.toNat)))=bs
  have hbl:bs.length=s.length:=by rw[←hbs];simp
  have hloop:∀env,restrict [2,5,13,14,15] env=[(2,.box [cv,nv,rv]),(5,.sl 1 [I 0]),(13,.sl s.length bs),(14,I s.length),(15,I 0)]→WB ⟨C,lk,H.length,[2]⟩ (.block 0 (.loop [2,5,13,14,15] t15L1)) (Fol ⟨C,lk,H.length,[2]⟩ (.seq (.regN [2,5] [kP 24 2 3 2,kM 25 5,kx 26 (.call 43 [(ux 24),(ux 25)]),kM 4 26]) .ret) P) env H:=by
   intro env hE
   refine wb_loop (σ:=Nat×List Int) (fun z=>[(2,.box [cv,nv,rv]),(5,.sl z.2.length (ints z.2)),(13,.sl s.length bs),(14,I s.length),(15,I z.1)]) (fun _=>H) (fun z=>z.1≤s.length∧z.2.length≤1000000∧runM N z.2 (s.drop z.1)=runM N [0] s) (fun z=>s.length-z.1) ?_ (0,[0]) ⟨Nat.zero_le _,by simp,rfl⟩ hE rfl
   rintro⟨i,set⟩ ⟨hi,hsl,hr⟩
   dsimp only at hi hsl hr ⊢
   unfold t15L1
   by_cases hk:i<s.length
   case neg=>
    obtain rfl:i=s.length:=by omega
    rw[List.drop_length]at hr
    have hr:set=runM N [0] s:=hr
    have h4:=h43 set hsl
    generalize hR:Rnd _ _ _ _ _ _ _=R
    simp
    rw[←hR]
    simp[h4]
    exact fin _ _ rfl (by rw[hr];rfl)
   obtain⟨b,hb⟩:∃b,s[i]=b:=⟨_,rfl⟩
   have hbi:bs[i]'(by rw[hbl];exact hk)= .val (.int .u8 b.toNat):=by simp[←hbs,hb]
   rw[List.drop_eq_getElem_cons hk,hb]at hr
   have hr:runM N (stepM N set b.toNat) (s.drop (i+1))=runM N [0] s:=hr
   have hb255:b.toNat≤255:=by have:=b.toNat_lt;omega
   have h4:=h42 set b.toNat hsl hb255
   have hfew:=(stepM_few hin set b.toNat).2
   have w:IntKind.i64.wrap ((i:Int)+1)=(i:Int)+1:=wrap64 (by omega) (by omega)
   generalize hR:Rnd _ _ _ _ _ _ _=R
   simp[hk,hbl,hbi,h4,w]
   rw[←hR,rnd_nrm]
   exact⟨(i+1,stepM N set b.toNat),⟨hk,by show (stepM N set b.toNat).length≤1000000;omega,hr⟩,by show s.length-(i+1)<s.length-i;omega,rfl,rfl⟩
  unfold t15B
  generalize hLL:(.block 0 (.loop [2,5,13,14,15] t15L1):AC)=LL at hloop ⊢
  simp[h14]
  rw[hbs]
  exact hloop _ rfl
end
end Go.Proofs.Ytnhennjliinplaa

namespace Go.Proofs.Ytnhennjliinplaa
open Go Go.Hm
theorem mem_hitI {cl:List AV}{b:Nat}{z:Int}:∀(l hit:List Int),z∈l.foldl (hitI cl b) hit↔z∈hit∨(z∈l∧hasC ((cl.drop (z.toNat*4)).take 4) b=true)
 | [],hit=>by simp
 | t::l,hit=>by
  show z∈l.foldl (hitI cl b) (hitI cl b hit t)↔_
  rw[mem_hitI l]
  unfold hitI
  by_cases h:hasC ((cl.drop (t.toNat*4)).take 4) b=true
  ·rw[if_pos h,mem_addI,List.mem_cons]
   constructor
   ·rintro ((h1 | h1) | h1)
    ·exact .inl h1
    ·exact .inr ⟨.inl h1,h1▸h⟩
    ·exact .inr ⟨.inr h1.1,h1.2⟩
   ·rintro (h1 | ⟨h1 | h1,h2⟩)
    ·exact .inl (.inl h1)
    ·exact .inl (.inr h1)
    ·exact .inr ⟨h1,h2⟩
  ·rw[if_neg h,List.mem_cons]
   constructor
   ·rintro (h1 | h1)
    ·exact .inl h1
    ·exact .inr ⟨.inr h1.1,h1.2⟩
   ·rintro (h1 | ⟨h1 | h1,h2⟩)
    ·exact .inl h1
    ·subst h1;exact absurd h2 h
    ·exact .inr ⟨h1,h2⟩
theorem mem_hitS1 {N:Nf}{b:Nat}{z k:Int}{hit:List Int}:z∈hitS N b hit k↔z∈hit∨z∈hitS N b [] k:=by
 unfold hitS
 split
 ·rw[mem_hitI,mem_hitI];simp
 ·simp
theorem mem_hitS {N:Nf}{b:Nat}{z:Int}:∀(set hit:List Int),z∈set.foldl (hitS N b) hit↔z∈hit∨∃k∈set,z∈hitS N b [] k
 | [],hit=>by simp
 | k::set,hit=>by
  show z∈set.foldl (hitS N b) (hitS N b hit k)↔_
  rw[mem_hitS set,mem_hitS1]
  constructor
  ·rintro ((h | h) | ⟨q,h1,h2⟩)
   ·exact .inl h
   ·exact .inr ⟨k,List.mem_cons_self,h⟩
   ·exact .inr ⟨q,List.mem_cons_of_mem _ h1,h2⟩
  ·rintro (h | ⟨q,h1,h2⟩)
   ·exact .inl (.inl h)
   ·rcases List.mem_cons.1 h1 with rfl | h1
    ·exact .inl (.inr h2)
    ·exact .inr ⟨q,h1,h2⟩
theorem mem_stepM {N:Nf}{b:Nat}{z:Int}{set:List Int}:z∈stepM N set b↔∃k∈set,z∈hitS N b [] k:=by
 unfold stepM
 rw[mem_normI,mem_hitS];simp
end Go.Proofs.Ytnhennjliinplaa

namespace Go.Proofs.Ytnhennjliinplaa
open Go Go.Hm

section
variable {C:Orc}{Q:Ex→Kt}{E:Env}{lk lim m:Nat}{H:Heap}{N:Nf}{cv nv rv sv:AV}{vs:List AV}
end
end Go.Proofs.Ytnhennjliinplaa

namespace Go.Proofs.Ytnhennjliinplaa
open Go Go.Hm
section
variable {C:Orc}{Q:Ex→Kt}{E:Env}{lk lim m:Nat}{H:Heap}{N:Nf}{cv nv rv sv:AV}{vs:List AV}
end
theorem le_sumN:∀{l:List Nat} {x:Nat},x∈l→x≤l.sum
 | [],_,h=>nomatch h
 | y::l,x,h=>by
  rw[List.sum_cons]
  rcases List.mem_cons.1 h with rfl | h
  ·omega
  ·have:=le_sumN h;omega
end Go.Proofs.Ytnhennjliinplaa

namespace Go.Proofs.Ytnhennjliinplaa
open Go Go.Hm
theorem and_two (m r:Nat):m&&& 2 ^ r=(m.testBit r).toNat*2 ^ r:=by
 apply Nat.eq_of_testBit_eq
 intro i
 rw[Nat.testBit_and,Nat.testBit_two_pow]
 by_cases h:r=i
 ·subst h
  cases hb:m.testBit r
  ·simp
  ·simp[Nat.testBit_two_pow]
 ·rw[decide_eq_false h,Bool.and_false]
  cases m.testBit r
  ·simp
  ·simp[Nat.testBit_two_pow,h]
theorem bit_eq (a:Int)(r:Nat)(hr:r<64):
  (IntKind.u64.wrap (((a.fdiv (2 ^ min (IntKind.u64.wrap (r:Int)).toNat IntKind.u64.bits) % 2 ^ IntKind.u64.bits).toNat&&& 1 % 2 ^ IntKind.u64.bits:Nat):Int)==1)
   =(IntKind.u64.wrap (((a % 2 ^ IntKind.u64.bits).toNat&&& (IntKind.u64.wrap (2 ^ min r IntKind.u64.bits) % 2 ^ IntKind.u64.bits).toNat:Nat):Int) != 0):=by
 have hb:IntKind.u64.bits=64:=rfl
 have hw:IntKind.u64.wrap (r:Int)=r:=wrapu64 (by omega) (by omega)
 have hmin:min r 64=r:=by omega
 rw[hb,hw,Int.toNat_natCast,hmin]
 have hp:(2:Nat) ^ r<2 ^ 64:=Nat.pow_lt_pow_right (by omega) hr
 have hpi:((2:Int) ^ r)=((2 ^ r:Nat):Int):=by simp
 have hpp:0<(2:Nat) ^ r:=Nat.pow_pos (by omega)
 have hw2:IntKind.u64.wrap (2 ^ r)=2 ^ r:=wrapu64 (by rw[hpi];omega) (by rw[hpi];omega)
 have hm2:((2:Int) ^ r % 2 ^ 64).toNat=2 ^ r:=by rw[hpi];omega
 have h1:1 % 2 ^ 64=1:=by decide
 rw[hw2,hm2,h1,Nat.and_one_is_mod,and_two]
 obtain⟨m,hm⟩:∃m:Nat,a % 2 ^ 64=m:=⟨(a % 2 ^ 64).toNat,by omega⟩
 have hml:m<2 ^ 64:=by omega
 have hdiv:(a.fdiv (2 ^ r) % 2 ^ 64).toNat % 2=m / 2 ^ r % 2:=by
  rw[Int.fdiv_eq_ediv_of_nonneg _ (by rw[hpi];omega)]
  obtain⟨q,hq⟩:∃q,a=2 ^ 64*q+m:=⟨a / 2 ^ 64,by have:=Int.mul_ediv_add_emod a (2 ^ 64);omega⟩
  obtain⟨s,hs⟩:∃s,64=r+(s+1):=⟨63-r,by omega⟩
  have h64:(2:Int) ^ 64=2 ^ r*(2*2 ^ s):=by
   have:(2:Int) ^ 64=2 ^ (r+(s+1)):=by rw[←hs]
   rw[this,Int.pow_add,Int.pow_succ,Int.mul_comm (2 ^ s) 2]
  have hr0:(2:Int) ^ r≠0:=by rw[hpi];omega
  have e:a / 2 ^ r=2*(2 ^ s*q)+((m / 2 ^ r:Nat):Int):=by
   rw[hq]
   have:(2:Int) ^ 64*q+m=m+2 ^ r*(2*(2 ^ s*q)):=by
    have h2:(2:Int) ^ 64*q=2 ^ r*(2*(2 ^ s*q)):=by
     conv=>lhs;rw[h64]
     simp only[Int.mul_assoc]
    rw[h2,Int.add_comm]
   rw[this,Int.add_mul_ediv_left _ _ hr0,hpi]
   omega
  generalize a / 2 ^ r=x at e
  generalize 2 ^ s*q=y at e
  omega
 rw[hdiv,hm,Int.toNat_natCast]
 have hbit:(m.testBit r).toNat=m / 2 ^ r % 2:=by
  rw[Nat.testBit_eq_decide_div_mod_eq]
  by_cases h:m / 2 ^ r % 2=1
  ·rw[h];rfl
  ·have:m / 2 ^ r % 2=0:=by omega
   rw[this];rfl
 rw[hbit]
 rcases (by omega:m / 2 ^ r % 2=0∨m / 2 ^ r % 2=1) with h | h
 ·rw[h,Nat.zero_mul];rfl
 ·rw[h,Nat.one_mul]
  have e1:IntKind.u64.wrap ((1:Nat):Int)=1:=by decide
  have e2:IntKind.u64.wrap ((2 ^ r:Nat):Int)=((2 ^ r:Nat):Int):=wrapu64 (by omega) (by omega)
  rw[e1,e2]
  have:((2 ^ r:Nat):Int)≠0:=by omega
  simp
  omega
theorem has19 {a b c d:Int}{n:Nat}(hx:n≤255){lk lim:Nat}{H:Heap}:
  callW X A lk lim 19 [.agg [U a,U b,U c,U d],.val (.int .u8 n)] H=some (Bo (hasC [U a,U b,U c,U d] n),H):=by
 have hX:X lk lim 19 [.agg [U a,U b,U c,U d],.val (.int .u8 n)] H=none:=noX1 (by decide) (by decide) (by decide)
 refine wb_callB [2] hX A19 rfl rfl ?_
 unfold t19B
 generalize callW X A=C
 obtain⟨r,hr⟩:∃r,n % 64=r:=⟨_,rfl⟩
 have h64:r<64:=by omega
 obtain⟨t,ht⟩:∃t,hasC [U a,U b,U c,U d] n=t:=⟨_,rfl⟩
 rw[ht]
 unfold hasC at ht
 rw[hr]at ht
 have h0:¬((r:Int)<0):=by omega
 have e0:IntKind.u8.wrap ((n:Int) / 64)=((n / 64:Nat):Int):=by
  rw[wrapu8 (by omega) (by omega)];omega
 have e1:(n:Int).tmod 64=(r:Int):=by
  rw[Int.tmod_eq_emod_of_nonneg (by omega)];omega
 have hw:¬(IntKind.u64.wrap (r:Int)<0):=by rw[wrapu64 (by omega) (by omega)];omega
 have f0:IntKind.u8.wrap 0=0:=by decide
 have f1:IntKind.u8.wrap 1=1:=by decide
 have f2:IntKind.u8.wrap 2=2:=by decide
 have f3:IntKind.u8.wrap 3=3:=by decide
 have ba:=bit_eq a r h64
 have bb:=bit_eq b r h64
 have bc:=bit_eq c r h64
 have bd:=bit_eq d r h64
 rcases (by omega:n / 64=0∨n / 64=1∨n / 64=2∨n / 64=3) with h | h | h | h
 all_goals
  rw[h]at e0 ht
  simp only[List.getElem?_cons_zero,List.getElem?_cons_succ]at ht
 ·rw[←ba]at ht
  simp[-Nat.and_one_is_mod,f0,f1,f2,f3,e0,e1,h0,hw]
  simpa using ht
 ·rw[←bb]at ht
  simp[-Nat.and_one_is_mod,f0,f1,f2,f3,e0,e1,h0,hw]
  simpa using ht
 ·rw[←bc]at ht
  simp[-Nat.and_one_is_mod,f0,f1,f2,f3,e0,e1,h0,hw]
  simpa using ht
 ·rw[←bd]at ht
  simp[-Nat.and_one_is_mod,f0,f1,f2,f3,e0,e1,h0,hw]
  simpa using ht
end Go.Proofs.Ytnhennjliinplaa
