/- maps.Copy, union: walked. -/
import Derived.Test.YtnhennjliinplaaT
set_option linter.all false
namespace Go.Proofs.Ytnhennjliinplaa
open Go Go.Hm

theorem isSet_of {H:Heap}{b:Nat}{l:List Int}(h:H[b]?=some (.map (sE l)))(hn:l.Nodup):isSet H (.mp b)=true:=by
 simp[isSet,h,ik_sE hn]
theorem rangeOf_sE {pre:Nat→List (AV×AV)→Env→Heap→Bool}{b:Nat}{env:Env}{H:Heap}{l:List Int}(hb:H[b]?=some (.map (sE l)))(hn:l.Nodup)(hx:noBx env=true)(hp:pre b (sE l) env H=true):rangeOf pre (.mp b) env H=some (b,sE l):=by
 simp[rangeOf,hb,ik_sE hn,hx,hp]

@[simp] theorem keyOk_I (n:Int):keyOk false [1] (I n)=true:=by simp[keyOk,eqKey,eqScalar]
theorem copy_rd {C:Orc}{lk lim d L b N:Nat}{a:List Int}{n:Int}{h:Heap}{K:Heap→Prop}(hd:h[d]?=some (.map (sE a)))(hlk:lk≤d)(hok:okM (h.set d (.map (sE (addI a n)))) b N L=true)(hK:K (h.set d (.map (sE (addI a n))))):
  WB ⟨C,lk,lim,[5]⟩ t72R1 (RmE [7,0] [(7,.hp L 0 0),(0,.mp d)] b N L K) ((10,.tup [I n,.agg []])::(7,.hp L 0 0)::[(0,.mp d)]) h:=by
 unfold t72R1
 simp[hd,hlk,mset_sE,RmE,hok,hK]
theorem okM_of {H:Heap}{b L:Nat}{l:List Int}(hb:H[b]?=some (.map (sE l)))(hL:H[L]?=some (.cells [])):okM H b (sE l).length L=true:=by
 simp[okM,hb,hL]
theorem take_snoc {α:Type}{l:List α}{i:Nat}{x:α}(h:l[i]?=some x):l.take (i+1)=l.take i++[x]:=by
 rw[List.take_add_one,h];rfl
theorem set_self {H:Heap}{d:Nat}{x:HB}(h:H[d]?=some x):H.set d x=H:=by
 apply List.ext_getElem?
 intro i
 by_cases hi:d=i
 ·subst hi
  rw[List.getElem?_set_self (List.getElem?_eq_some_iff.1 h).1,h]
 ·rw[List.getElem?_set_ne hi]
theorem mrgI_snoc (a l:List Int)(n:Int):mrgI a (l++[n])=addI (mrgI a l) n:=by simp[mrgI]
theorem copy_code {lk lim b d:Nat}{H:Heap}{a l:List Int}(hb:H[b]?=some (.map (sE l)))(hd:H[d]?=some (.map (sE a)))(hl:l.Nodup)(ha:a.Nodup)(hne:d≠b)(hlk:lk≤d):
  callW X0 A1 lk lim 72 [.mp d,.mp b] H=some (.tup [],H.set d (.map (sE (mrgI a l)))):=by
 have hbl:b<H.length:=(List.getElem?_eq_some_iff.1 hb).1
 have hdl:d<H.length:=(List.getElem?_eq_some_iff.1 hd).1
 refine wb_callB [5] rfl A72 rfl rfl ?_
 unfold t72B
 generalize callW X0 A1=C
 simp only[wb_seq]
 simp
 have gL:∀x,((H++[HB.cells []]).set d x)[H.length]?=some (.cells []):=fun x=>by
  rw[List.getElem?_set_ne (by omega),List.getElem?_append_right (Nat.le_refl _)];simp
 have gb:∀x,((H++[HB.cells []]).set d x)[b]?=some (.map (sE l)):=fun x=>by
  rw[List.getElem?_set_ne hne,List.getElem?_append_left hbl,hb]
 refine wb_rangeM b (sE l) [(0,.mp d)] (by simp) ?_ (fun i h=>h=(H++[HB.cells []]).set d (.map (sE (mrgI a (l.take i))))) ?_ ?_ ?_
 ·refine rangeOf_sE hb hl rfl ?_
  have e:Nat.decEq d b= .isFalse hne:=by
   cases h:Nat.decEq d b with
   | isTrue h'=>exact absurd h' hne
   | isFalse h'=>rfl
  simp[preN,preCopy,isSet_of hd ha,hlk,find,e]
 ·rw[List.take_zero]
  show _=List.set _ _ (HB.map (sE (mrgI a [])))
  rw[List.set_append_left _ _ hdl,show mrgI a []=a from rfl,set_self hd]
 ·rintro i k v h hi rfl
  obtain⟨n,hn,rfl,rfl⟩:=sE_get hi
  have e:=take_snoc hn
  refine copy_rd (h:=(H++[HB.cells []]).set d (.map (sE (mrgI a (l.take i))))) (by rw[List.getElem?_set_self (by simp;omega)]) hlk ?_ ?_
  ·rw[List.set_set]
   exact okM_of (gb _) (gL _)
  ·rw[List.set_set,e,mrgI_snoc]
 ·rintro h rfl
  rw[sE_len,List.take_length]
  have:((H++[HB.cells []]).set d (.map (sE (mrgI a l)))).take H.length=H.set d (.map (sE (mrgI a l))):=by
   rw[List.set_append_left _ _ hdl];simp
  simp[this]

def unI (a b:List Int):List Int:=mrgI (mrgI [] a) b
theorem nd_unI (a b:List Int):(unI a b).Nodup:=nd_mrgI (nd_mrgI List.nodup_nil)
theorem mem_unI {z:Int}{a b:List Int}:z∈unI a b↔z∈a∨z∈b:=by simp[unI,mem_mrgI]
def unK (a b:List Int):Nat→List Int
 | 0=>[]
 | 1=>mrgI [] a
 | _=>unI a b
theorem union_code {lk lim x y:Nat}{H:Heap}{a b:List Int}(hx:H[x]?=some (.map (sE a)))(hy:H[y]?=some (.map (sE b)))(ha:a.Nodup)(hb:b.Nodup)(hlk:lk≤H.length):
  callW X0 A1 lk lim 61 [.sl 2 [.mp x,.mp y]] H=some (.mp H.length,H++[.map (sE (unI a b))]):=by
 have hxl:x<H.length:=(List.getElem?_eq_some_iff.1 hx).1
 have hyl:y<H.length:=(List.getElem?_eq_some_iff.1 hy).1
 have kc:∀(z:Nat) (c e:List Int),H[z]?=some (.map (sE c))→c.Nodup→e.Nodup→callW X0 A1 lk lim 72 [.mp H.length,.mp z] (H++[.map (sE e)])=some (.tup [],H++[.map (sE (mrgI e c))]):=fun z c e hz hc he=>by
  have hzl:z<H.length:=(List.getElem?_eq_some_iff.1 hz).1
  rw[copy_code (l:=c) (a:=e) (by rw[List.getElem?_append_left hzl,hz]) (get_at0 _ _) hc he (by omega) hlk,set_at0]
  rfl
 refine wb_callB [] rfl A61 rfl rfl ?_
 unfold t61B
 generalize callW X0 A1=C at kc ⊢
 simp
 refine wb_loop (σ:=Nat) (fun k=>[(3,.mp H.length),(7,.sl 2 [.mp x,.mp y]),(8,I 2),(9,I k)]) (fun k=>H++[.map (sE (unK a b k))]) (fun k=>k≤2) (fun k=>2-k) ?_ 0 (by simp) (by simp) (by simp[unK])
 intro k hk
 unfold t61L1
 have:k=0∨k=1∨k=2:=by omega
 rcases this with rfl | rfl | rfl
 ·have k0:=kc x a [] hx ha List.nodup_nil
  simp[unK]at k0 ⊢
  simp[k0,rnd_nrm,Rnd]
  refine⟨1,by omega,by omega,rfl,rfl⟩
 ·have k1:=kc y b (mrgI [] a) hy hb (nd_mrgI List.nodup_nil)
  simp[unK,k1,rnd_nrm,Rnd]
  refine⟨2,by omega,by omega,rfl,rfl⟩
 ·simp[unK]
end Go.Proofs.Ytnhennjliinplaa

namespace Go.Proofs.Ytnhennjliinplaa
open Go Go.Hm

def noLp:AC→Bool
 | .seq a b=>noLp a&&noLp b
 | .cond _ a b=>noLp a&&noLp b
 | .block _ b=>noLp b
 | .loop .. =>false
 | .rangeF .. =>false
 | .rangeM .. =>false
 | _=>true
theorem exec_eqW {C:Orc}{n lk lim:Nat}:∀{c:AC} {env:Env} {H:Heap},noLp c=true→exec C n lk lim c env H=execW C lk lim c env H
 | .skip,_,_,_=>rfl
 | .frz,_,_,_=>rfl
 | .regN ..,_,_,_=>rfl
 | .regD ..,_,_,_=>rfl
 | .seq a b,env,H,h=>by
  simp only[noLp,Bool.and_eq_true]at h
  simp only[exec,execW,exec_eqW h.1]
  cases execW C lk lim a env H with
  | none=>rfl
  | some p=>
   obtain⟨x,e,h'⟩:=p
   cases x with
   | nrm=>exact exec_eqW h.2
   | exit id=>rfl
   | ret=>rfl
 | .cond c a b,env,H,h=>by
  simp only[noLp,Bool.and_eq_true]at h
  simp only[exec,execW,exec_eqW h.1,exec_eqW h.2]
  cases ev env c<;>first | rfl | (rename_i v;cases v<;>rfl)
 | .block id b,env,H,h=>by
  simp only[noLp]at h
  simp only[exec,execW,exec_eqW h]
  cases execW C lk lim b env H with
  | none=>rfl
  | some p=>
   obtain⟨x,e,h'⟩:=p
   cases x<;>rfl
 | .loop ..,_,_,h=>by cases h
 | .rangeF ..,_,_,h=>by cases h
 | .rangeM ..,_,_,h=>by cases h
 | .exit _,_,_,_=>rfl
 | .ret,_,_,_=>rfl
 | .bad,_,_,_=>rfl
theorem rounds_wb {S:Cx}{n:Nat}{body:AC}(hn:noLp body=true){keep:List Nat}{tE:Nat}{env:Env}{b N L:Nat}{k:Heap→Prop}(hi:Inv S.B env):∀{l:List (AV×AV)} {H:Heap},rmB (WB S body) keep tE env b N L k l H→∃h,roundsM (fun e H=>exec S.C n S.lk S.lim body e H) keep tE env b N L l H=some h∧k h
 | [],_,h=>⟨_,rfl,h⟩
 | (key,v)::r,H,h=>by
  simp only[rmB]at h
  obtain⟨x1,e1,H1,h1,h2,h3⟩:=wb_sound (c:=body) h (inv_cons hi rfl)
  cases x1 with
  | exit id=>exact h2.elim
  | ret=>exact h2.elim
  | nrm=>
   obtain⟨h4,h5,h6⟩:=h2
   obtain⟨h,g1,g2⟩:=rounds_wb hn hi h6
   have h1':exec S.C n S.lk S.lim body ((tE,.tup [key,v])::env) H=some (.nrm,e1,H1):=by rw[exec_eqW hn];exact h1
   exact⟨h,by simp only[roundsM,h1',sameE_iff.2 h4,h5,and_self,if_true];exact g1,g2⟩

mutual
theorem ren_self:∀a:AV,ren (fun b=>b) a=a
 | .hp .. =>rfl
 | .hs .. =>rfl
 | .mp _=>rfl
 | .fn f c=>by simp[ren,renL_self c]
 | .agg c=>by simp[ren,renL_self c]
 | .tup c=>by simp[ren,renL_self c]
 | .sl n c=>by simp[ren,renL_self c]
 | .rop c o=>by simp[ren,renL_self c]
 | .val _=>rfl
 | .e0=>rfl
 | .rp .. =>rfl
 | .box _=>rfl
 | .und=>rfl
 | .dead=>rfl
theorem renL_self:∀l:List AV,renL (fun b=>b) l=l
 | []=>rfl
 | a::r=>by simp[renL,ren_self a,renL_self r]
end
theorem map_ren_self (l:List AV):l.map (ren fun b=>b)=l:=by
 rw[←renL_map];exact renL_self l
theorem Iso.same {n:Nat}{H H':Heap}(hl:H'.length=H.length)(h:∀(b:Nat) x,H[b]?=some x→H'[b]?=some x∨∃es es',x= .map es∧H'[b]?=some (.map es')∧Ep es es'):Iso n (fun b=>b) (fun b=>b) H H':=by
 refine⟨hl,fun b hb=>⟨hb,rfl⟩,fun b hb=>⟨hb,rfl⟩,fun _ _=>rfl,fun b x hx=>?_⟩
 rcases h b x hx with h | ⟨es,es',rfl,h1,h2⟩
 ·refine⟨x,h,?_⟩
  cases x with
  | hole=>rfl
  | cells cs=>show HB.cells cs=_;rw[map_ren_self]
  | map es=>exact⟨es,rfl,.inl rfl⟩
 ·exact⟨_,h1,es',rfl,h2⟩

theorem perm_sE {es:List (AV×AV)}{l:List Int}(h:es.Perm (sE l)):∃l1:List Int,es=sE l1∧l1.Perm l:=by
 have hall:∀p∈es,∃n,p=ent n:=fun p hp=>by
  obtain⟨n,_,e⟩:=List.mem_map.1 (h.mem_iff.1 hp)
  exact⟨n,e.symm⟩
 have key:∀es:List (AV×AV),(∀p∈es,∃n,p=ent n)→∃l1,es=sE l1:=by
  intro es
  induction es with
  | nil=>intro _;exact⟨[],rfl⟩
  | cons p r ih=>
   intro h
   obtain⟨n,rfl⟩:=h p List.mem_cons_self
   obtain⟨l1,rfl⟩:=ih fun q hq=>h q (List.mem_cons_of_mem _ hq)
   exact⟨n::l1,rfl⟩
 obtain⟨l1,rfl⟩:=key es hall
 exact⟨l1,rfl,sE_perm h⟩
theorem ep_sE {a b:List Int}(ha:a.Nodup)(hb:b.Nodup)(h:∀x,x∈a↔x∈b):Ep (sE a) (sE b):=
 .inr ⟨((List.perm_ext_iff_of_nodup ha hb).2 h).map ent,ikOk_get (ik_sE hb)⟩
theorem isSet_get {H:Heap}{v:AV}(h:isSet H v=true):∃b l,v= .mp b∧H[b]?=some (.map (sE l))∧l.Nodup:=by
 unfold isSet at h
 split at h
 ·rename_i b
  split at h
  ·rename_i es hb
   rw[Bool.and_eq_true]at h
   obtain⟨l,rfl,hn⟩:=sE_of h.1 h.2
   exact⟨b,l,rfl,hb,hn⟩
  ·cases h
 ·cases h
theorem rangeOf_get {pre:Nat→List (AV×AV)→Env→Heap→Bool}{b:Nat}{env:Env}{H:Heap}{es:List (AV×AV)}(h:rangeOf pre (.mp b) env H=some (b,es)):H[b]?=some (.map es)∧(∃l,es=sE l∧l.Nodup)∧noBx env=true∧pre b es env H=true:=by
 unfold rangeOf at h
 dsimp only at h
 split at h
 ·rename_i es' hb
  split at h
  ·rename_i hc
   simp only[Option.some.injEq,Prod.mk.injEq,true_and]at h
   subst h
   exact⟨hb,sE_of hc.2.1 hc.2.2.1,hc.1,hc.2.2.2⟩
  ·cases h
 ·cases h

theorem copy_rounds {C:Orc}{lk lim d b L N:Nat}{H:Heap}{K:Heap→Prop}{e0:Env}(he:e0=[(7,.hp L 0 0),(0,.mp d)])(hlk:lk≤d)(hok:∀x,okM (H.set d x) b N L=true):∀(l a:List Int),H[d]?=some (.map (sE a))→K (H.set d (.map (sE (mrgI a l))))→
  rmB (WB ⟨C,lk,lim,[5]⟩ t72R1) [7,0] 10 e0 b N L K (sE l) H
 | [],a,hd,hK=>by
  show K H
  rw[show mrgI a []=a from rfl,set_self hd]at hK
  exact hK
 | n::l,a,hd,hK=>by
  subst he
  have hdl:d<H.length:=(List.getElem?_eq_some_iff.1 hd).1
  refine wb_mono (copy_rd (K:=fun h=>h=H.set d (.map (sE (addI a n)))) hd hlk (hok _) rfl) fun x e h hh=>?_
  cases x with
  | exit id=>exact hh
  | ret=>exact hh
  | nrm=>
   obtain⟨h1,h2,rfl⟩:=hh
   refine⟨h1,h2,?_⟩
   refine copy_rounds rfl hlk (fun x=>by rw[List.set_set];exact hok x) l (addI a n) (List.getElem?_set_self hdl) ?_
   rw[List.set_set];exact hK
theorem restrict_one {t:Nat}{env:Env}{v:AV}(h:find (restrict [t] env) t=v):restrict [t] env=[(t,v)]:=by
 simp only[restrict,List.map_cons,List.map_nil,find,if_true]at h ⊢
 rw[h]
theorem rm72 {C:Orc}{n lk lim:Nat}:RmIso (fun e H=>exec C n lk lim t72R1 e H) [0] (preN 72 7 lk lim) 7 10:=by
 intro env H Hp b es _ hr hrun es1 hp
 obtain⟨hb,⟨l,rfl,hl⟩,hnb,hpre⟩:=rangeOf_get hr
 have hpre:preCopy lk b (restrict [0] env) H=true:=hpre
 unfold preCopy at hpre
 split at hpre
 case h_2=>cases hpre
 rename_i d hd
 simp only[Bool.and_eq_true,Nat.ble_eq]at hpre
 obtain⟨⟨h1,hlk⟩,hset⟩:=hpre
 have hne:d≠b:=by
  cases h:Nat.decEq d b with
  | isTrue h'=>rw[h]at h1;cases h1
  | isFalse h'=>exact h'
 obtain⟨_,a,e,hda,ha⟩:=isSet_get hset
 cases e
 have hbl:b<H.length:=(List.getElem?_eq_some_iff.1 hb).1
 have hdl:d<H.length:=(List.getElem?_eq_some_iff.1 hda).1
 have he:(7,AV.hp H.length 0 0)::restrict [0] env=[(7,.hp H.length 0 0),(0,.mp d)]:=by rw[restrict_one hd]
 have hok:∀x,okM ((H++[HB.cells []]).set d x) b (sE l).length H.length=true:=fun x=>by
  refine okM_of ?_ ?_
  ·rw[List.getElem?_set_ne hne,List.getElem?_append_left hbl,hb]
  ·rw[List.getElem?_set_ne (by omega),List.getElem?_append_right (Nat.le_refl _)];simp
 have go:∀l1:List Int,∃h,roundsM (fun e H=>exec C n lk lim t72R1 e H) [7,0] 10 ((7,.hp H.length 0 0)::restrict [0] env) b (sE l).length H.length (sE l1) (H++[.cells []])=some h∧h=(H++[HB.cells []]).set d (.map (sE (mrgI a l1))):=fun l1=>
  rounds_wb (S:=⟨C,lk,lim,[5]⟩) rfl (by rw[he];intro p hp;simp at hp;rcases hp with rfl | rfl<;>rfl) (copy_rounds he hlk hok l1 a (by rw[List.getElem?_append_left hdl,hda]) rfl)
 obtain⟨l1,rfl,hp1⟩:=perm_sE hp
 obtain⟨_,g1,rfl⟩:=go l
 rw[g1]at hrun
 cases hrun
 obtain⟨_,g2,rfl⟩:=go l1
 refine⟨_,_,_,g2,Iso.same (by simp) fun b' x hx=>?_⟩
 by_cases hbd:d=b'
 ·subst hbd
  have hdl':d<(H++[HB.cells []]).length:=by simp;omega
  rw[List.getElem?_set_self hdl']at hx ⊢
  cases hx
  exact .inr ⟨_,_,rfl,rfl,ep_sE (nd_mrgI ha) (nd_mrgI ha) fun z=>by rw[mem_mrgI,mem_mrgI,hp1.mem_iff]⟩
 ·rw[List.getElem?_set_ne hbd]at hx ⊢
  exact .inl hx
theorem rmA1:RmA X0 A1:=rmA_of fun p hp=>by
 simp only[tab1,List.mem_cons,List.not_mem_nil,or_false]at hp
 rcases hp with rfl | rfl
 ·exact .inl rfl
 ·exact .inr fun n lk lim=>⟨trivial,rm72,trivial,trivial⟩
end Go.Proofs.Ytnhennjliinplaa

namespace Go.Proofs.Ytnhennjliinplaa
open Go Go.Hm

def mps (ms:List Nat):List AV:=ms.map AV.mp
@[simp] theorem mps_len (ms:List Nat):(mps ms).length=ms.length:=by simp[mps]
theorem mps_get {ms:List Nat}{k m:Nat}(h:ms[k]?=some m):(mps ms)[k]?=some (.mp m):=by simp[mps,h]
theorem mps_set (ms:List Nat)(k m:Nat):(mps ms).set k (.mp m)=mps (ms.set k m):=by simp[mps,List.map_set]
@[simp] theorem rep2a (x y a:AV):replaceAt [x,y] 0 [a]=[a,y]:=rfl
@[simp] theorem rep2b (x y a:AV):replaceAt [x,y] 1 [a]=[x,a]:=rfl
@[simp] theorem rep3a (x y z a:AV):replaceAt [x,y,z] 0 [a]=[a,y,z]:=rfl
@[simp] theorem rep3b (x y z a:AV):replaceAt [x,y,z] 1 [a]=[x,a,z]:=rfl
@[simp] theorem rep3c (x y z a:AV):replaceAt [x,y,z] 2 [a]=[x,y,a]:=rfl
@[simp] theorem rep3f (x y z a b c:AV):replaceAt [x,y,z] 0 [a,b,c]=[a,b,c]:=rfl
@[simp] theorem rep1 (x a:AV):replaceAt [x] 0 [a]=[a]:=rfl
@[simp] theorem rep4a (x y z w a:AV):replaceAt [x,y,z,w] 0 [a]=[a,y,z,w]:=rfl
@[simp] theorem rep4b (x y z w a:AV):replaceAt [x,y,z,w] 1 [a]=[x,a,z,w]:=rfl
@[simp] theorem rep4c (x y z w a:AV):replaceAt [x,y,z,w] 2 [a]=[x,y,a,w]:=rfl
@[simp] theorem rep4d (x y z w a:AV):replaceAt [x,y,z,w] 3 [a]=[x,y,z,a]:=rfl
@[simp] theorem rep4f (x y z w a b c d:AV):replaceAt [x,y,z,w] 0 [a,b,c,d]=[a,b,c,d]:=rfl
def Uni (C:Orc):Prop:=∀(lk lim x y:Nat) (H:Heap) (a b:List Int),H[x]?=some (.map (sE a))→H[y]?=some (.map (sE b))→a.Nodup→b.Nodup→lk≤H.length→C lk lim 61 [.sl 2 [.mp x,.mp y]] H=some (.mp H.length,H++[.map (sE (unI a b))])
theorem join_rd {C:Orc}(hC:Uni C){lk lim L p bx g m k b N:Nat}{c0 c1 c2:AV}{ms:List Nat}{u v:List Int}{h:Heap}{K:Heap→Prop}(hp:h[p]?=some (.cells [c0,c1,c2,.hs bx ms.length 0 ms.length 1]))(hx:h[bx]?=some (.cells (mps ms)))(hk:ms[k]?=some m)
  (hm:h[m]?=some (.map (sE u))) (hg:h[g]?=some (.map (sE v))) (hu:u.Nodup) (hv:v.Nodup) (hlk:lk≤bx) (hlim:lim≤bx)
  (hK:okM ((h++[HB.map (sE (unI u v))]).set bx (.cells (mps (ms.set k h.length)))) b N L=true∧K ((h++[HB.map (sE (unI u v))]).set bx (.cells (mps (ms.set k h.length))))):
  WB ⟨C,lk,lim,[]⟩ t39R1 (RmE [8,0,2] [(8,.hp L 0 0),(0,.hp p 4 0),(2,.mp g)] b N L K) ((11,.tup [I k,.agg []])::[(8,.hp L 0 0),(0,.hp p 4 0),(2,.mp g)]) h:=by
 have hkl:k<ms.length:=(List.getElem?_eq_some_iff.1 hk).1
 have hml:m<h.length:=(List.getElem?_eq_some_iff.1 hm).1
 have hgl:g<h.length:=(List.getElem?_eq_some_iff.1 hg).1
 have hbl:bx<h.length:=(List.getElem?_eq_some_iff.1 hx).1
 have hc:=hC h.length lim m g h u v hm hg hu hv (Nat.le_refl _)
 have hk2:(mps ms)[k]'(by simpa using hkl)= .mp m:=by
  have:=mps_get hk
  rwa [List.getElem?_eq_getElem (by simpa using hkl),Option.some.injEq]at this
 have hx2:(h++[HB.map (sE (unI u v))])[bx]?=some (.cells (mps ms)):=by rw[List.getElem?_append_left hbl,hx]
 have hkm:(k:Int)<(ms.length:Int):=by omega
 unfold t39R1
 have hr:replaceAt (mps ms) k [.mp h.length]=mps (ms.set k h.length):=by
  rw[replaceAt_one _ (by simpa using hkl),mps_set]
 have hk1:k+1≤ms.length:=hkl
 simp[hp,hx,hk2,hkl,hml,hgl,hc,hx2,hlk,hlim,setH,hkm,hk1,hr]
 refine⟨?_,hK⟩
 simp[restrict,find]

def jms:Nat→List Int→List Nat→List Nat
 | _,[],ms=>ms
 | n,k::l,ms=>jms (n+1) l (ms.set k.toNat n)
def jnew (nx:List (List Int))(v:List Int)(l:List Int):Heap:=l.map fun k=>HB.map (sE (unI (nx.getD k.toNat []) v))
def jH (h:Heap)(bx:Nat)(ms:List Nat)(nx:List (List Int))(v l:List Int):Heap:=(h.set bx (.cells (mps (jms h.length l ms))))++jnew nx v l
@[simp] theorem jms_len:∀(l:List Int) (n:Nat) (ms:List Nat),(jms n l ms).length=ms.length
 | [],_,_=>rfl
 | k::l,n,ms=>by simp[jms,jms_len l]
@[simp] theorem jnew_len (nx:List (List Int))(v l:List Int):(jnew nx v l).length=l.length:=by simp[jnew]
@[simp] theorem jH_len (h:Heap)(bx:Nat)(ms:List Nat)(nx:List (List Int))(v l:List Int):(jH h bx ms nx v l).length=h.length+l.length:=by simp[jH]
theorem jH_cons {h:Heap}{bx:Nat}{ms:List Nat}{nx:List (List Int)}{v l:List Int}{k:Int}(hb:bx<h.length):
  jH ((h++[HB.map (sE (unI (nx.getD k.toNat []) v))]).set bx (.cells (mps (ms.set k.toNat h.length)))) bx (ms.set k.toNat h.length) nx v l=jH h bx ms nx v (k::l):=by
 unfold jH
 rw[List.set_set,List.length_set,List.length_append,List.length_singleton,List.set_append_left _ _ hb,List.append_assoc]
 rfl
def SetsAt (H:Heap)(ms:List Nat)(nx:List (List Int))(l:List Int):Prop:=∀k∈l,∃(j m:Nat),k=(j:Int)∧ms[j]?=some m∧H[m]?=some (.map (sE (nx.getD j [])))∧(nx.getD j []).Nodup
theorem join_rounds {C:Orc}(hC:Uni C){lk lim L p bx g b:Nat}{c0 c1 c2:AV}{v l0:List Int}{nx:List (List Int)}{K:Heap→Prop}{e0:Env}(he:e0=[(8,.hp L 0 0),(0,.hp p 4 0),(2,.mp g)])(hv:v.Nodup)(hlk:lk≤bx)(hlim:lim≤bx)(hpb:p≠bx)(hLb:L≠bx){n:Nat}:
  ∀(l:List Int) {ms:List Nat} {h:Heap},l.Nodup→ms.length=n→h[p]?=some (.cells [c0,c1,c2,.hs bx n 0 n 1])→h[bx]?=some (.cells (mps ms))→SetsAt h ms nx l→h[g]?=some (.map (sE v))→h[b]?=some (.map (sE l0))→h[L]?=some (.cells [])→
   K (jH h bx ms nx v l)→rmB (WB ⟨C,lk,lim,[]⟩ t39R1) [8,0,2] 11 e0 b l0.length L K (sE l) h
 | [],ms,h,_,_,_,hx,_,_,_,_,hK=>by
  have:jH h bx ms nx v []=h:=by
   unfold jH
   rw[show jms h.length [] ms=ms from rfl,set_self hx];simp[jnew]
  rw[this]at hK
  exact hK
 | k::l,ms,h,hnd,hn,hp,hx,hs,hg,hb,hL,hK=>by
  subst he
  obtain⟨j,m,rfl,hj,hm,hu⟩:=hs k List.mem_cons_self
  have hbl:bx<h.length:=(List.getElem?_eq_some_iff.1 hx).1
  have lt:∀{i:Nat} {x:HB},h[i]?=some x→i<h.length:=fun h=>(List.getElem?_eq_some_iff.1 h).1
  have keep:∀{i:Nat} {x:HB} (X:HB) (y:HB),i≠bx→h[i]?=some x→((h++[X]).set bx y)[i]?=some x:=fun X y hne hi=>by
   rw[List.getElem?_set_ne (Ne.symm hne),List.getElem?_append_left (lt hi),hi]
  have notb:∀{i:Nat} {es:List (AV×AV)},h[i]?=some (.map es)→i≠bx:=fun hi e=>by subst e;rw[hx]at hi;cases hi
  have hok:okM ((h++[HB.map (sE (unI (nx.getD j []) v))]).set bx (.cells (mps (ms.set j h.length)))) b l0.length L=true:=by
   rw[←sE_len l0]
   exact okM_of (keep _ _ (notb hb) hb) (keep _ _ hLb hL)
  have hnd':=List.nodup_cons.1 hnd
  subst hn
  refine wb_mono (join_rd hC (K:=fun h'=>h'=(h++[HB.map (sE (unI (nx.getD j []) v))]).set bx (.cells (mps (ms.set j h.length)))) hp hx hj hm hg hu hv hlk hlim ⟨hok,rfl⟩) fun x e h' hh=>?_
  cases x with
  | exit id=>exact hh
  | ret=>exact hh
  | nrm=>
   obtain⟨h1,h2,rfl⟩:=hh
   refine⟨h1,h2,?_⟩
   refine join_rounds (nx:=nx) hC rfl hv hlk hlim hpb hLb l hnd'.2 (by simp) (keep _ _ hpb hp) (List.getElem?_set_self (by simp;omega)) (fun k' hk'=>?_) (keep _ _ (notb hg) hg) (keep _ _ (notb hb) hb) (keep _ _ hLb hL) ?_
   ·obtain⟨j',m',rfl,hj',hm',hu'⟩:=hs k' (List.mem_cons_of_mem _ hk')
    have hne:j≠j':=fun e=>hnd'.1 (e▸hk')
    exact⟨j',m',rfl,by rw[List.getElem?_set_ne hne];exact hj',keep _ _ (notb hm') hm',hu'⟩
   ·have:=jH_cons (h:=h) (bx:=bx) (ms:=ms) (nx:=nx) (v:=v) (l:=l) (k:=(j:Int)) hbl
    rw[Int.toNat_natCast]at this
    rw[this];exact hK

theorem jms_get:∀(l:List Int) (n:Nat) (ms:List Nat) (j:Nat),l.Nodup→(∀k∈l,0≤k)→j<ms.length→(jms n l ms)[j]?=if (j:Int)∈l then some (n+l.idxOf (j:Int)) else ms[j]?
 | [],n,ms,j,_,_,_=>by simp[jms]
 | k::l,n,ms,j,hn,h0,hj=>by
  have hn':=List.nodup_cons.1 hn
  show (jms (n+1) l (ms.set k.toNat n))[j]?=_
  rw[jms_get l (n+1) (ms.set k.toNat n) j hn'.2 (fun q hq=>h0 q (List.mem_cons_of_mem _ hq)) (by simpa using hj)]
  have hk0:=h0 k List.mem_cons_self
  by_cases hm:(j:Int)∈l
  ·have hne:k≠(j:Int):=fun e=>hn'.1 (e▸hm)
   rw[if_pos hm,if_pos (List.mem_cons_of_mem _ hm),List.idxOf_cons,show (k==(j:Int))=false from by simpa using hne]
   simp only[cond_false]
   congr 1;omega
  ·rw[if_neg hm]
   by_cases hk:k=(j:Int)
   ·subst hk
    rw[if_pos List.mem_cons_self,List.idxOf_cons_self,Int.toNat_natCast,List.getElem?_set_self hj];rfl
   ·rw[if_neg (by simp[hm];exact fun e=>hk e.symm),List.getElem?_set_ne (by omega)]
theorem sets_of {H:Heap}:∀{cs:List AV},cs.all (isSet H)=true→∃(ms:List Nat) (nx:List (List Int)),cs=mps ms∧nx.length=ms.length∧∀(j m:Nat),ms[j]?=some m→H[m]?=some (.map (sE (nx.getD j [])))∧(nx.getD j []).Nodup
 | [],_=>⟨[],[],rfl,rfl,fun j m h=>by cases h⟩
 | v::r,h=>by
  simp only[List.all_cons,Bool.and_eq_true]at h
  obtain⟨ms,nx,rfl,hl,hs⟩:=sets_of h.2
  obtain⟨b,l,rfl,hb,hn⟩:=isSet_get h.1
  refine⟨b::ms,l::nx,rfl,by simp[hl],fun j m hj=>?_⟩
  cases j with
  | zero=>simp at hj;subst hj;exact⟨hb,hn⟩
  | succ j=>simpa using hs j m (by simpa using hj)
theorem keysIn_get {n:Nat}{l:List Int}(h:keysIn n (sE l)=true):∀k∈l,0≤k∧k<(n:Int):=fun k hk=>by
 have:=List.all_eq_true.1 h (ent k) (List.mem_map_of_mem hk)
 simpa[ent] using this
def shf (n:Nat)(l1 l:List Int)(b:Nat):Nat:=if b<n then b else match l1[b-n]? with
 | some k=>n+l.idxOf k
 | none=>b
theorem shf_low {n:Nat}{l1 l:List Int}{b:Nat}(h:b<n):shf n l1 l b=b:=by unfold shf;rw[if_pos h]
theorem shf_at {n:Nat}{l1 l:List Int}{i:Nat}{k:Int}(h:l1[i]?=some k):shf n l1 l (n+i)=n+l.idxOf k:=by
 unfold shf
 rw[if_neg (by omega),Nat.add_sub_cancel_left,h]
theorem idx_get {l:List Int}{k:Int}(h:k∈l):l[l.idxOf k]?=some k:=by
 rw[List.getElem?_eq_getElem (List.idxOf_lt_length_of_mem h),List.getElem_idxOf]
theorem idx_of {l:List Int}(hn:l.Nodup){i:Nat}{k:Int}(h:l[i]?=some k):l.idxOf k=i:=by
 obtain⟨hi,e⟩:=List.getElem?_eq_some_iff.1 h
 have hm:k∈l:=e▸List.getElem_mem hi
 exact(List.getElem?_inj (List.idxOf_lt_length_of_mem hm) hn).1 ((idx_get hm).trans h.symm)
theorem shf_back {n:Nat}{l1 l:List Int}(hp:l1.Perm l)(hn:l1.Nodup){b:Nat}(hb:b<n+l1.length):shf n l1 l b<n+l1.length∧shf n l l1 (shf n l1 l b)=b:=by
 by_cases h:b<n
 ·rw[shf_low h,shf_low h];exact⟨hb,rfl⟩
 ·obtain⟨i,rfl⟩:∃i,b=n+i:=⟨b-n,by omega⟩
  have hi:i<l1.length:=by omega
  have hk:l1[i]?=some l1[i]:=List.getElem?_eq_getElem hi
  have hm:l1[i]∈l:=hp.mem_iff.1 (List.getElem_mem hi)
  rw[shf_at hk,shf_at (idx_get hm),idx_of hn hk]
  have:=List.idxOf_lt_length_of_mem hm
  rw[hp.length_eq]
  exact⟨by omega,rfl⟩
theorem join_iso {h:Heap}{bx:Nat}{ms:List Nat}{nx:List (List Int)}{v l l1:List Int}(hp:l1.Perm l)(hn:l.Nodup)(h0:∀k∈l,0≤k)(hx:h[bx]?=some (.cells (mps ms)))(hms:∀m∈ms,m<h.length)(hcl:∀(b:Nat) cs,h[b]?=some (.cells cs)→belowL h.length cs=true):
  Iso h.length (shf h.length l1 l) (shf h.length l l1) (jH h bx ms nx v l1) (jH h bx ms nx v l):=by
 have hn1:l1.Nodup:=hp.nodup_iff.2 hn
 have hbl:bx<h.length:=(List.getElem?_eq_some_iff.1 hx).1
 have ll:=hp.length_eq
 refine⟨by simp[ll],fun b hb=>?_,fun b hb=>?_,fun b hb=>shf_low hb,fun b x hb=>?_⟩
 ·rw[jH_len]at hb ⊢
  exact shf_back hp hn1 hb
 ·rw[jH_len,ll]at hb ⊢
  exact shf_back hp.symm hn hb
 ·have hbt:b<h.length+l1.length:=by
   have:=(List.getElem?_eq_some_iff.1 hb).1
   rwa [jH_len]at this
  by_cases hlt:b<h.length
  ·rw[shf_low hlt]
   unfold jH at hb ⊢
   rw[List.getElem?_append_left (by simpa using hlt)]at hb ⊢
   by_cases hbx:bx=b
   ·subst hbx
    rw[List.getElem?_set_self hbl]at hb ⊢
    simp only[Option.some.injEq]at hb
    subst hb
    refine⟨_,rfl,?_⟩
    show HB.cells _=HB.cells _
    congr 1
    apply List.ext_getElem?
    intro j
    simp only[mps,List.getElem?_map]
    by_cases hj:j<ms.length
    ·rw[jms_get l _ _ j hn h0 hj,jms_get l1 _ _ j hn1 (fun k hk=>h0 k (hp.mem_iff.1 hk)) hj]
     by_cases hm:(j:Int)∈l
     ·rw[if_pos hm,if_pos (hp.mem_iff.2 hm)]
      simp only[Option.map_some,ren]
      rw[shf_at (idx_get (hp.mem_iff.2 hm))]
     ·rw[if_neg hm,if_neg (fun e=>hm (hp.mem_iff.1 e)),List.getElem?_eq_getElem hj]
      simp only[Option.map_some,ren]
      rw[shf_low (hms _ (List.getElem_mem hj))]
    ·rw[List.getElem?_eq_none (by simp;omega),List.getElem?_eq_none (by simp;omega)];rfl
   ·rw[List.getElem?_set_ne hbx]at hb ⊢
    refine⟨x,hb,?_⟩
    cases x with
    | hole=>rfl
    | map es=>exact⟨es,rfl,.inl rfl⟩
    | cells cs=>
     show HB.cells cs=HB.cells (cs.map (ren (shf h.length l1 l)))
     rw[←renL_map,renL_id (fun b hb=>shf_low hb) cs (hcl b cs hb)]
  ·obtain⟨i,rfl⟩:∃i,b=h.length+i:=⟨b-h.length,by omega⟩
   have hi:i<l1.length:=by omega
   have hk:l1[i]?=some l1[i]:=List.getElem?_eq_getElem hi
   have hm:l1[i]∈l:=hp.mem_iff.1 (List.getElem_mem hi)
   rw[shf_at hk]
   have get:∀(l:List Int) (i:Nat),(jH h bx ms nx v l)[h.length+i]?=(jnew nx v l)[i]?:=fun l i=>by
    unfold jH
    rw[List.getElem?_append_right (by simp),List.length_set,Nat.add_sub_cancel_left]
   rw[get]at hb ⊢
   unfold jnew at hb ⊢
   rw[List.getElem?_map,hk]at hb
   rw[List.getElem?_map,idx_get hm]
   simp only[Option.map_some,Option.some.injEq]at hb
   subst hb
   exact⟨_,rfl,_,rfl,.inl rfl⟩
theorem rm39 {C:Orc}(hC:Uni C){n lk lim:Nat}:RmIso (fun e H=>exec C n lk lim t39R1 e H) [0,2] (preN 39 8 lk lim) 8 11:=by
 intro env H Hp b es hcl hr hrun es1 hp
 obtain⟨hb,⟨l,rfl,hl⟩,hnb,hpre⟩:=rangeOf_get hr
 have hpre:preJoin lk lim (sE l) (restrict [0,2] env) H=true:=hpre
 unfold preJoin at hpre
 split at hpre
 case h_2=>cases hpre
 rename_i p hp0
 split at hpre
 case h_2=>cases hpre
 rename_i c0 c1 c2 bx g' n' hpc
 simp only[Bool.and_eq_true,Nat.ble_eq]at hpre
 obtain⟨⟨⟨⟨h1,hlk⟩,hlim⟩,hkeys⟩,hset⟩:=hpre
 split at h1
 case h_2=>cases h1
 rename_i cs hcs
 simp only[Bool.and_eq_true,Nat.beq_eq]at h1
 obtain⟨⟨rfl,hn'⟩,hall⟩:=h1
 subst hn'
 obtain⟨ms,nx,rfl,hnl,hms⟩:=sets_of hall
 obtain⟨g,v,hg0,hg,hv⟩:=isSet_get hset
 have lt:∀{i:Nat} {x:HB},H[i]?=some x→i<H.length:=fun h=>(List.getElem?_eq_some_iff.1 h).1
 have up:∀{i:Nat} {x:HB},H[i]?=some x→(H++[HB.cells []])[i]?=some x:=fun h=>by rw[List.getElem?_append_left (lt h),h]
 have he:(8,AV.hp H.length 0 0)::restrict [0,2] env=[(8,.hp H.length 0 0),(0,.hp p 4 0),(2,.mp g)]:=by
  simp only[restrict,List.map_cons,List.map_nil,find,if_true]at hp0 hg0 ⊢
  simp at hg0
  rw[hp0,hg0]
 rw[mps_len]at hpc hkeys
 have hpb:p≠bx:=fun e=>by
  subst e
  rw[hpc]at hcs
  simp only[Option.some.injEq,HB.cells.injEq]at hcs
  have:(mps ms)[3]?=some (.hs p ms.length 0 ms.length 1):=by rw[←hcs];rfl
  unfold mps at this
  rw[List.getElem?_map]at this
  cases h3:ms[3]?<;>rw[h3]at this<;>cases this
 have hks:=keysIn_get hkeys
 have hsets:∀l1:List Int,(∀k∈l1,k∈l)→SetsAt (H++[HB.cells []]) ms nx l1:=fun l1 hl1 k hk=>by
  obtain⟨h1,h2⟩:=hks k (hl1 k hk)
  obtain⟨j,rfl⟩:=Int.eq_ofNat_of_zero_le h1
  have hj:j<ms.length:=by omega
  have hj2:ms[j]?=some ms[j]:=List.getElem?_eq_getElem hj
  obtain⟨h3,h4⟩:=hms j _ hj2
  exact⟨j,_,rfl,hj2,up h3,h4⟩
 have hbH:=lt hcs
 have go:∀l1:List Int,l1.Nodup→(∀k∈l1,k∈l)→∃h,roundsM (fun e H=>exec C n lk lim t39R1 e H) [8,0,2] 11 ((8,.hp H.length 0 0)::restrict [0,2] env) b (sE l).length H.length (sE l1) (H++[.cells []])=some h∧h=jH (H++[HB.cells []]) bx ms nx v l1:=fun l1 hn1 hl1=>by
  rw[sE_len]
  exact rounds_wb (S:=⟨C,lk,lim,[]⟩) rfl (by rw[he];intro p hp;simp at hp;rcases hp with rfl | rfl | rfl<;>rfl)
   (join_rounds hC he hv hlk hlim hpb (by omega) (l0:=l) l1 hn1 rfl (up hpc) (up hcs) (hsets l1 hl1) (up hg) (up hb) (by rw[List.getElem?_append_right (Nat.le_refl _)];simp) rfl)
 obtain⟨l1,rfl,hp1⟩:=perm_sE hp
 obtain⟨_,g1,rfl⟩:=go l hl (fun _ h=>h)
 rw[g1]at hrun
 cases hrun
 obtain⟨_,g2,rfl⟩:=go l1 (hp1.nodup_iff.2 hl) (fun k h=>hp1.mem_iff.1 h)
 have hH1:(H++[HB.cells []]).length=H.length+1:=by simp
 refine⟨_,_,_,g2,hH1▸join_iso hp1 hl (fun k hk=>(hks k hk).1) (up hcs) (fun m hm=>?_) (fun b' cs hb'=>?_)⟩
 ·obtain⟨j,hj⟩:=List.getElem?_of_mem hm
  have:=lt (hms j m hj).1
  omega
 ·by_cases hlt:b'<H.length
  ·rw[List.getElem?_append_left hlt]at hb'
   rw[hH1]
   exact belowL_mono (Nat.le_succ _) cs (hcl b' cs hlt hb')
  ·rw[List.getElem?_append_right (by omega)]at hb'
   cases hq:b'-H.length with
   | zero=>rw[hq]at hb';cases hb';rfl
   | succ q=>rw[hq]at hb';cases hb'
end Go.Proofs.Ytnhennjliinplaa
