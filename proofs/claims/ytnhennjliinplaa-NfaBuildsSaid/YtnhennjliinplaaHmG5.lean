/- The machine HM, part 5. -/
import Derived.Test.YtnhennjliinplaaHmG4
import Derived.Scope
import Derived.RangeFuncNested
import Derived.RangeFuncLeaves
import Derived.Test.YtnhennjliinplaaHmG1
import Derived.LoopNIn
import Derived.Maps.RangeRun
set_option linter.all false
namespace Go.Hm
open Go

theorem cls2_free {i:AI}(h:isFree i=true):cls2 i= .callF:=if_pos h
theorem cls2_two {i:AI}(h:¬isFree i=true):cls2 i=cls i.op∨(cls2 i= .env∧cls i.op= .memH∧isRow i=true):=by
 unfold cls2
 rw[if_neg h]
 split
 ·rename_i hr
  refine .inr ⟨rfl,?_,hr⟩
  unfold isRow at hr
  simp only[Bool.and_eq_true,beq_iff_eq]at hr
  exact hr.2
 ·exact .inl rfl
theorem isCall_eq (i:AI):isCall i=(cls i.op==.call&&!i.fl):=by
 unfold isCall cls2 isFree isRow
 cases i.fl<;>cases cls i.op<;>rfl
theorem cls2_of {i:AI}{c:Cls}(h:¬isFree i=true)(hc:cls i.op=c)(hn:c≠.memH):cls2 i=c:=by
 rcases cls2_two h with h1 | ⟨_,h2,_⟩
 ·rw[h1,hc]
 ·exact absurd (hc.symm.trans h2) hn
theorem cls2_inv {i:AI}{c:Cls}(h:¬isFree i=true)(hc:cls2 i=c)(hn:c≠.env):cls i.op=c:=by
 rcases cls2_two h with h1 | ⟨h1,_,_⟩
 ·rw[←h1,hc]
 ·exact absurd (hc.symm.trans h1) hn

inductive Ed where
 | put (dst:Option Nat) (v:AV)
 | box (t:Nat) (cs:List AV)
inductive Hd where
 | same
 | fill (k:Nat) (x:HB)
 | app (X:Heap)
 | to (H:Heap)

def Ed.run:Ed→Env→Option Env
 | .put dst v,env=>Hm.put dst v env
 | .box t cs,env=>some (setAt env t (.box cs))
def Hd.run (base:Nat):Hd→Heap→Option Heap
 | .same,H=>some H
 | .fill k x,H=>match H[k]? with
  | some .hole=>some (H.set k x)
  | _=>none
 | .app X,H=>if H.length=base then some (H++X) else none
 | .to H',_=>some H'

def exE (lk lim base:Nat)(dst:Option Nat)(op:AOp)(env:Env)(H:Heap):Option (Ed×Heap):=
 match op with
 | .st l n a x=>
  match cellsV (ev env x) with
  | some new=>if new.length=n then
    match l,ev env a with
    | some t,.rp t' off=>if t'=t then match find env t with
      | .box cs=>if off+n≤cs.length∧dst=none then some (.box t (replaceAt cs off new),H) else none
      | _=>none
     else none
    | none,.hp b g off=>match H[b]? with
     | some (.cells cs)=>if cs.length=g∧off+n≤g∧0<n∧dst=none then
       match setH lk lim base H b (replaceAt cs off new) new with
       | some H'=>some (.put dst .und,H')
       | none=>none
      else none
     | _=>none
    | _,_=>none
   else none
  | none=>none
 | .app es bytes x y=>match srcCells H (ev env y) with
  | some (m,new)=>if new.length=m*es then
    match ev env x with
    | .e0=>
     if m=0 then some (.put dst .e0,H)
     else if m*bytes≤room then some (.put dst (.hs H.length (m*es) 0 m es),H++[.cells new])
     else none
    | .hs b g off n es'=>match H[b]? with
     | some (.cells cs)=>
      if cs.length=g∧es'=es∧(off+n*es=g∨off+n*es+m*es≤g)∧(n+m)*bytes≤room then
       match setH lk lim base H b (appC (off+n*es) g cs new) new with
       | some H'=>some (.put dst (.hs b (appG (off+n*es) g (m*es)) off (n+m) es),H')
       | none=>none
      else none
     | _=>none
    | _=>none
   else none
  | none=>none
 | .mup ag ks m k v=>match ev env m with
  | .mp b=>match H[b]? with
   | some (.map es)=>
    if lk≤b∧dst=none∧keyOk ag ks (ev env k)=true∧argOk (ev env v)=true∧Hm.below 0 (ev env v)=true then
     match mset ag ks (ev env k) (ev env v) es with
     | some es'=>some (.put dst .und,H.set b (.map es'))
     | none=>none
    else none
   | _=>none
  | _=>none
 | _=>none

def effA (C:Orc)(lk lim base cb:Nat)(dst:Option Nat)(op:AOp)(k:Nat)(env:Env)(H:Heap):Option (Ed×Hd):=
 match cls op with
 | .actL _=>match exE lk lim cb dst op env H with
  | some (e,_)=>some (e,.same)
  | none=>none
 | .actH=>match exE lk lim cb dst op env H with
  | some (e,H')=>some (e,.to H')
  | none=>none
 | .make=>match mkOp op env (base+k) with
  | some (v,x)=>some (.put dst v,.fill (base+k) x)
  | none=>none
 | .call=>match clArgs op env with
  | some (g,as)=>if as.all argOk=true∧belowL base as=true then
    match C base lim g as (H.take base) with
    | some (v,H')=>if isRp v=false then some (.put dst v,if H'.length≤base then .same else .app (H'.drop base)) else none
    | none=>none
   else none
  | none=>none
 | _=>match rdOp op env (H.take base) with
  | some v=>if isRp v=false∨rpOp op=true then some (.put dst v,.same) else none
  | none=>none

def effF (C:Orc)(lk lim:Nat)(dst:Option Nat)(op:AOp)(env:Env)(H:Heap):Option (Ed×Hd):=
 match clArgs op env with
 | some (g,as)=>if as.all argOk=true then
   match C lk lim g as H with
   | some (v,H')=>if isRp v=false then some (.put dst v,.to H') else none
   | none=>none
  else none
 | none=>none

def eff (C:Orc)(lk lim:Nat)(ws:WS)(base cb:Nat)(i:AI)(env:Env)(H:Heap):Option (Ed×Hd):=
 match guardI i env with
 | some true=>if okT ws i env=true then (if isFree i=true then effF C lk lim i.dst i.op env H else effA C lk lim base cb i.dst i.op i.at_ env H) else none
 | some false=>some (.put i.dst .und,.same)
 | none=>none

def Steps1 (C:Orc)(lk lim:Nat)(ws:WS)(base cb:Nat)(i:AI)(env:Env)(H:Heap)(env':Env)(H':Heap):Prop:=
 ∃e d,eff C lk lim ws base cb i env H=some (e,d)∧e.run env=some env'∧d.run base H=some H'

def edRun (env:Env):Option (Ed×Heap)→Option (Env×Heap)
 | some (e,H')=>match e.run env with
  | some env'=>some (env',H')
  | none=>none
 | none=>none

theorem exOp_st {lk lim cb:Nat}{dst:Option Nat}{l:Option Nat}{n:Nat}{a x:AO}{env:Env}{H:Heap}:exOp lk lim cb dst (.st l n a x) env H=edRun env (exE lk lim cb dst (.st l n a x) env H):=by
 simp only[exOp,exE]
 generalize cellsV (ev env x)=c
 cases c with
 | none=>rfl
 | some new=>
  dsimp only
  by_cases hn:new.length=n
  ·rw[if_pos hn,if_pos hn]
   generalize ev env a=va
   cases l with
   | some t=>
    cases va<;>try rfl
    rename_i t' off
    dsimp only
    by_cases ht:t'=t
    ·rw[if_pos ht,if_pos ht]
     generalize find env t=fv
     cases fv<;>try rfl
     rename_i cs
     dsimp only
     by_cases hc:off+n≤cs.length∧dst=none
     ·rw[if_pos hc,if_pos hc];rfl
     ·rw[if_neg hc,if_neg hc];rfl
    ·rw[if_neg ht,if_neg ht];rfl
   | none=>
    cases va<;>try rfl
    rename_i b g off
    dsimp only
    generalize H[b]?=hb
    cases hb with
    | none=>rfl
    | some hb=>
     cases hb<;>try rfl
     rename_i cs
     dsimp only
     by_cases hc:cs.length=g∧off+n≤g∧0<n∧dst=none
     ·rw[if_pos hc,if_pos hc]
      obtain⟨_,_,_,hd⟩:=hc
      subst hd
      generalize setH lk lim cb H b (replaceAt cs off new) new=s
      cases s<;>rfl
     ·rw[if_neg hc,if_neg hc];rfl
  ·rw[if_neg hn,if_neg hn];rfl

theorem exOp_app {lk lim cb:Nat}{dst:Option Nat}{es bytes:Nat}{x y:AO}{env:Env}{H:Heap}:exOp lk lim cb dst (.app es bytes x y) env H=edRun env (exE lk lim cb dst (.app es bytes x y) env H):=by
 simp only[exOp,exE]
 generalize srcCells H (ev env y)=c
 cases c with
 | none=>rfl
 | some mn=>
  obtain⟨m,new⟩:=mn
  dsimp only
  by_cases hn:new.length=m*es
  ·rw[if_pos hn,if_pos hn]
   generalize ev env x=va
   cases va<;>try rfl
   ·dsimp only
    by_cases hm:m=0
    ·rw[if_pos hm,if_pos hm];rfl
    ·rw[if_neg hm,if_neg hm]
     by_cases hr:m*bytes≤room
     ·rw[if_pos hr,if_pos hr];rfl
     ·rw[if_neg hr,if_neg hr];rfl
   ·rename_i b g off n es'
    dsimp only
    generalize H[b]?=hb
    cases hb with
    | none=>rfl
    | some hb=>
     cases hb<;>try rfl
     rename_i cs
     dsimp only
     by_cases hc:cs.length=g∧es'=es∧(off+n*es=g∨off+n*es+m*es≤g)∧(n+m)*bytes≤room
     ·rw[if_pos hc,if_pos hc]
      generalize setH lk lim cb H b (appC (off+n*es) g cs new) new=s
      cases s<;>rfl
     ·rw[if_neg hc,if_neg hc];rfl
  ·rw[if_neg hn,if_neg hn];rfl

theorem exOp_mup {lk lim cb:Nat}{dst:Option Nat}{ag:Bool}{ks:List Nat}{m k v:AO}{env:Env}{H:Heap}:exOp lk lim cb dst (.mup ag ks m k v) env H=edRun env (exE lk lim cb dst (.mup ag ks m k v) env H):=by
 simp only[exOp,exE]
 generalize ev env m=va
 cases va<;>try rfl
 rename_i b
 dsimp only
 generalize H[b]?=hb
 cases hb with
 | none=>rfl
 | some hb=>
  cases hb<;>try rfl
  rename_i es
  dsimp only
  by_cases hc:lk≤b∧dst=none∧keyOk ag ks (ev env k)=true∧argOk (ev env v)=true∧Hm.below 0 (ev env v)=true
  ·rw[if_pos hc,if_pos hc]
   obtain⟨_,hd,_⟩:=hc
   subst hd
   generalize mset ag ks (ev env k) (ev env v) es=s
   cases s<;>rfl
  ·rw[if_neg hc,if_neg hc];rfl

theorem exOp_eq {lk lim cb:Nat}{dst:Option Nat}{op:AOp}{env:Env}{H:Heap}:exOp lk lim cb dst op env H=edRun env (exE lk lim cb dst op env H):=by
 cases op
 case st=>exact exOp_st
 case app=>exact exOp_app
 case mup=>exact exOp_mup
 all_goals rfl

theorem exE_actL {lk lim cb:Nat}{dst:Option Nat}{op:AOp}{env:Env}{H:Heap}{t:Nat}{e:Ed}{H':Heap}(hc:cls op= .actL t)(h:exE lk lim cb dst op env H=some (e,H')):
  H'=H∧∃cs cs0,e= .box t cs∧find env t= .box cs0∧dst=none:=by
 cases op
 case st l n a x=>
  cases l with
  | none=>simp[cls]at hc
  | some t'=>
   simp only[cls,Cls.actL.injEq]at hc
   subst hc
   simp only[exE]at h
   split at h
   case h_2=>simp at h
   split at h
   case isFalse=>simp at h
   generalize ev env a=va at h
   cases va<;>dsimp only at h<;>first | (simp at h;done) | skip
   split at h
   case isFalse=>simp at h
   split at h
   case h_2=>simp at h
   rename_i cs hf
   split at h
   case isFalse=>simp at h
   rename_i hcc
   simp only[Option.some.injEq,Prod.mk.injEq]at h
   obtain⟨rfl,rfl⟩:=h
   exact⟨rfl,_,_,rfl,hf,hcc.2⟩
 case app=>simp[cls]at hc
 case mup=>simp[cls]at hc
 all_goals simp[exE]at h
end Go.Hm

namespace Go.Hm
open Go

section
variable {C:Orc}{lk lim base cb:Nat}{ws:WS}{env env':Env}{H H':Heap}

def fin (base:Nat)(env:Env)(H:Heap):Option (Ed×Hd)→Option (Env×Heap)
 | some (e,d)=>match e.run env with
  | some env'=>match d.run base H with
   | some H'=>some (env',H')
   | none=>none
  | none=>none
 | none=>none

theorem stepD_eq {i:AI}:stepD C lk lim ws base cb i env H=fin base env H (eff C lk lim ws base cb i env H):=by
 unfold stepD eff
 cases hg:guardI i env with
 | none=>simp[fin]
 | some b=>
  cases b with
  | false=>
   dsimp only
   cases hp:put i.dst .und env<;>simp[fin,Ed.run,Hd.run,hp]
  | true=>
   dsimp only
   by_cases hok:okT ws i env=true
   case neg=>rw[if_neg hok,if_neg hok];rfl
   rw[if_pos hok,if_pos hok]
   by_cases hfr:isFree i=true
   case pos=>
    rw[if_pos hfr,if_pos hfr]
    unfold actF effF
    cases ha:clArgs i.op env with
    | none=>simp[fin]
    | some p=>
     obtain⟨g,as⟩:=p
     dsimp only
     by_cases hall:as.all argOk=true
     ·rw[if_pos hall,if_pos hall]
      cases hcc:C lk lim g as H with
      | none=>simp[fin]
      | some q=>
       obtain⟨v,H2⟩:=q
       dsimp only
       by_cases hr:isRp v=false
       ·rw[if_pos hr,if_pos hr]
        cases hp:put i.dst v env<;>simp[fin,Ed.run,Hd.run,hp]
       ·rw[if_neg hr,if_neg hr];rfl
     ·rw[if_neg hall,if_neg hall];rfl
   rw[if_neg hfr,if_neg hfr]
   unfold actD effA
   cases hc:cls i.op with
   | actL t=>
    dsimp only
    rw[exOp_eq]
    cases hx:exE lk lim cb i.dst i.op env H with
    | none=>simp[edRun,fin]
    | some p=>
     obtain⟨e,H2⟩:=p
     obtain⟨rfl,_⟩:=exE_actL hc hx
     cases he:e.run env<;>simp[edRun,fin,Hd.run,he]
   | actH=>
    dsimp only
    rw[exOp_eq]
    cases hx:exE lk lim cb i.dst i.op env H with
    | none=>simp[edRun,fin]
    | some p=>
     obtain⟨e,H2⟩:=p
     cases he:e.run env<;>simp[edRun,fin,Hd.run,he]
   | make=>
    dsimp only
    cases hm:mkOp i.op env (base+i.at_) with
    | none=>simp[fin]
    | some p=>
     obtain⟨v,cs⟩:=p
     dsimp only
     cases hk:H[base+i.at_]? with
     | none=>cases hp:put i.dst v env<;>simp[fin,Ed.run,Hd.run,hk,hp]
     | some x=>
      cases x with
      | hole=>cases hp:put i.dst v env<;>simp[fin,Ed.run,Hd.run,hk,hp]
      | cells c=>cases hp:put i.dst v env<;>simp[fin,Ed.run,Hd.run,hk,hp]
      | map m=>cases hp:put i.dst v env<;>simp[fin,Ed.run,Hd.run,hk,hp]
   | call=>
    dsimp only
    cases ha:clArgs i.op env with
    | none=>simp[fin]
    | some p=>
     obtain⟨g,as⟩:=p
     dsimp only
     by_cases hok:as.all argOk=true∧belowL base as=true
     ·rw[if_pos hok,if_pos hok]
      cases hcc:C base lim g as (H.take base) with
      | none=>simp[fin]
      | some q=>
       obtain⟨v,H2⟩:=q
       dsimp only
       by_cases hr:isRp v=false
       ·by_cases hl:H2.length≤base
        ·have:H2.drop base=[]:=List.drop_eq_nil_of_le hl
         cases hp:put i.dst v env<;>simp[fin,Ed.run,Hd.run,hl,hr,hp,this]
        ·by_cases hl2:H.length=base
         ·cases hp:put i.dst v env<;>simp[fin,Ed.run,Hd.run,hl,hl2,hr,hp]
         ·cases hp:put i.dst v env<;>simp[fin,Ed.run,Hd.run,hl,hl2,hr,hp]
       ·simp[fin,hr]
     ·rw[if_neg hok,if_neg hok];rfl
   | env=>
    dsimp only
    cases hr:rdOp i.op env (H.take base) with
    | none=>simp[fin]
    | some v=>
     dsimp only
     by_cases hk:isRp v=false∨rpOp i.op=true
     ·rw[if_pos hk,if_pos hk]
      cases hp:put i.dst v env<;>simp[fin,Ed.run,Hd.run,hp]
     ·simp[fin,hk]
   | memL t=>
    dsimp only
    cases hr:rdOp i.op env (H.take base) with
    | none=>simp[fin]
    | some v=>
     dsimp only
     by_cases hk:isRp v=false∨rpOp i.op=true
     ·rw[if_pos hk,if_pos hk]
      cases hp:put i.dst v env<;>simp[fin,Ed.run,Hd.run,hp]
     ·simp[fin,hk]
   | callF=>
    dsimp only
    cases hr:rdOp i.op env (H.take base) with
    | none=>simp[fin]
    | some v=>
     dsimp only
     by_cases hk:isRp v=false∨rpOp i.op=true
     ·rw[if_pos hk,if_pos hk]
      cases hp:put i.dst v env<;>simp[fin,Ed.run,Hd.run,hp]
     ·simp[fin,hk]
   | memH=>
    dsimp only
    cases hr:rdOp i.op env (H.take base) with
    | none=>simp[fin]
    | some v=>
     dsimp only
     by_cases hk:isRp v=false∨rpOp i.op=true
     ·rw[if_pos hk,if_pos hk]
      cases hp:put i.dst v env<;>simp[fin,Ed.run,Hd.run,hp]
     ·simp[fin,hk]

theorem stepD_iff {i:AI}:stepD C lk lim ws base cb i env H=some (env',H')↔Steps1 C lk lim ws base cb i env H env' H':=by
 rw[stepD_eq]
 unfold Steps1
 cases eff C lk lim ws base cb i env H with
 | none=>simp[fin]
 | some p=>
  obtain⟨e,d⟩:=p
  simp only[fin]
  constructor
  ·intro h
   refine⟨e,d,rfl,?_⟩
   split at h
   case h_2=>simp at h
   rename_i e1 he
   split at h
   case h_2=>simp at h
   rename_i h1 hd
   simp only[Option.some.injEq,Prod.mk.injEq]at h
   obtain⟨rfl,rfl⟩:=h
   exact⟨he,hd⟩
  ·rintro⟨e',d',h,h1,h2⟩
   simp only[Option.some.injEq,Prod.mk.injEq]at h
   obtain⟨rfl,rfl⟩:=h
   rw[h1,h2]

structure Agree (i:AI)(env env':Env):Prop where
 ev:∀x∈opnds i.op,Hm.ev env x=Hm.ev env' x
 loc:∀t,locOf i.op=some t→find env t=find env' t
 grd:guardI i env=guardI i env'

theorem fillP_congr:∀{l:List (Nat×Nat×AO)} {z:List AV},(∀p∈l,ev env p.2.2=ev env' p.2.2)→fillP env l z=fillP env' l z
 | [],z,_=>rfl
 | (off,n,x)::r,z,h=>by
  have h1:=h (off,n,x) (by simp)
  dsimp only at h1
  simp only[fillP,h1]
  split
  ·split
   ·exact fillP_congr (fun p hp=>h p (List.mem_cons_of_mem _ hp))
   ·rfl
  ·rfl
theorem bnd_congr {x:Option AO}{d y:Nat}(h:∀a∈x.toList,ev env a=ev env' a):bnd env x d y=bnd env' x d y:=by
 cases x with
 | none=>rfl
 | some a=>simp only[bnd,h a (by simp)]
theorem map_ev_congr {l:List AO}(h:∀x∈l,ev env x=ev env' x):l.map (ev env)=l.map (ev env'):=List.map_congr_left h
theorem ptr_congr {l:Option Nat}{a:AV}(h:∀t,l=some t→find env t=find env' t):ptrCells l env H a=ptrCells l env' H a:=by
 cases l with
 | none=>rfl
 | some t=>
  have:=h t rfl
  simp only[ptrCells,this]

theorem rdOp_congr {op:AOp}(h:∀x∈opnds op,ev env x=ev env' x)(hl:∀t,locOf op=some t→find env t=find env' t):rdOp op env H=rdOp op env' H:=by
 cases op
 case build z l=>simp only[rdOp,fillP_congr (fun p hp=>h p.2.2 (List.mem_map.2 ⟨p,hp,rfl⟩))]
 case buildS n z l=>simp only[rdOp,fillP_congr (fun p hp=>h p.2.2 (List.mem_map.2 ⟨p,hp,rfl⟩))]
 case ld1 l a=>simp only[rdOp,h a (by simp[opnds]),ptr_congr (l:=l) (fun t ht=>hl t (by simpa[locOf] using ht))]
 case ldA l n a=>simp only[rdOp,h a (by simp[opnds]),ptr_congr (l:=l) (fun t ht=>hl t (by simpa[locOf] using ht))]
 case mkf f l=>simp only[rdOp,map_ev_congr (l:=l) h]
 case slS x lo hi=>
  have hx:=h x (by simp[opnds])
  have h1:∀d y,bnd env lo d y=bnd env' lo d y:=fun d y=>bnd_congr (fun a ha=>h a (by simp[opnds];exact .inr (.inl (by simpa using ha))))
  have h2:∀d y,bnd env hi d y=bnd env' hi d y:=fun d y=>bnd_congr (fun a ha=>h a (by simp[opnds];exact .inr (.inr (by simpa using ha))))
  simp only[rdOp,hx,h1,h2]
 case slC es x lo hi=>
  have hx:=h x (by simp[opnds])
  have h1:∀d y,bnd env lo d y=bnd env' lo d y:=fun d y=>bnd_congr (fun a ha=>h a (by simp[opnds];exact .inr (.inl (by simpa using ha))))
  have h2:∀d y,bnd env hi d y=bnd env' hi d y:=fun d y=>bnd_congr (fun a ha=>h a (by simp[opnds];exact .inr (.inr (by simpa using ha))))
  simp only[rdOp,hx,h1,h2]
 case mm mx l=>
  cases l with
  | nil=>rfl
  | cons x r=>
   have h1:=h x (by simp[opnds])
   have h2:r.map (ev env)=r.map (ev env'):=map_ev_congr (fun y hy=>h y (by simp[opnds,hy]))
   simp only[rdOp,h1,h2]
 case pick c a b=>simp only[rdOp,h c (by simp[opnds]),h a (by simp[opnds]),h b (by simp[opnds])]
 case len b x=>cases b<;>simp only[rdOp,h x (by simp[opnds])]
 case bini op x y=>simp only[rdOp,h x (by simp[opnds]),h y (by simp[opnds])]
 case bins op x y=>simp only[rdOp,h x (by simp[opnds]),h y (by simp[opnds])]
 case eqb op x y=>simp only[rdOp,h x (by simp[opnds]),h y (by simp[opnds])]
 case eqp op x y=>simp only[rdOp,h x (by simp[opnds]),h y (by simp[opnds])]
 case eqf op x y=>simp only[rdOp,h x (by simp[opnds]),h y (by simp[opnds])]
 case eqa op ks x y=>simp only[rdOp,h x (by simp[opnds]),h y (by simp[opnds])]
 case ixA k x y=>simp only[rdOp,h x (by simp[opnds]),h y (by simp[opnds])]
 case ixR k n x y=>simp only[rdOp,h x (by simp[opnds]),h y (by simp[opnds])]
 case ixS x y=>simp only[rdOp,h x (by simp[opnds]),h y (by simp[opnds])]
 case ixG k n b x y=>simp only[rdOp,h x (by simp[opnds]),h y (by simp[opnds])]
 case mv x=>simp only[rdOp,h x (by simp[opnds])]
 case boxR n x=>simp only[rdOp,h x (by simp[opnds])]
 case nilc x=>simp only[rdOp,h x (by simp[opnds])]
 case not x=>simp only[rdOp,h x (by simp[opnds])]
 case negi x=>simp only[rdOp,h x (by simp[opnds])]
 case xori x=>simp only[rdOp,h x (by simp[opnds])]
 case cvi k x=>simp only[rdOp,h x (by simp[opnds])]
 case b2s x=>simp only[rdOp,h x (by simp[opnds])]
 case s2b x=>simp only[rdOp,h x (by simp[opnds])]
 case sl00 x=>simp only[rdOp,h x (by simp[opnds])]
 case fldA o x=>simp only[rdOp,h x (by simp[opnds])]
 case fld o n b x=>simp only[rdOp,h x (by simp[opnds])]
 case ext x n=>simp only[rdOp,h x (by simp[opnds])]
 case mlk ag ks z ok x y=>simp only[rdOp,h x (by simp[opnds]),h y (by simp[opnds])]
 case mlen x=>simp only[rdOp,h x (by simp[opnds])]
 all_goals rfl

theorem mkOp_congr {op:AOp}{b:Nat}(h:∀x∈opnds op,ev env x=ev env' x):mkOp op env b=mkOp op env' b:=by
 cases op
 case buildH n es z l=>simp only[mkOp,fillP_congr (fun p hp=>h p.2.2 (List.mem_map.2 ⟨p,hp,rfl⟩))]
 case boxH n x=>simp only[mkOp,h x (by simp[opnds])]
 case mks es bytes z x=>simp only[mkOp,h x (by simp[opnds])]
 all_goals rfl
theorem clArgs_congr {op:AOp}(h:∀x∈opnds op,ev env x=ev env' x):clArgs op env=clArgs op env':=by
 cases op
 case call f l=>simp only[clArgs,map_ev_congr (l:=l) h]
 case callv x l=>
  have h1:=h x (by simp[opnds])
  have h2:l.map (ev env)=l.map (ev env'):=map_ev_congr (fun y hy=>h y (by simp[opnds,hy]))
  simp only[clArgs,h1,h2]
 all_goals rfl
theorem exE_congr {dst:Option Nat}{op:AOp}(h:∀x∈opnds op,ev env x=ev env' x)(hl:∀t,locOf op=some t→find env t=find env' t):exE lk lim cb dst op env H=exE lk lim cb dst op env' H:=by
 cases op
 case st l n a x=>
  cases l with
  | none=>
   simp only[exE,h x (by simp[opnds]),h a (by simp[opnds])]
   generalize cellsV (ev env' x)=c
   cases c with
   | none=>rfl
   | some new=>
    dsimp only
    split
    ·generalize ev env' a=va
     cases va<;>rfl
    ·rfl
  | some t=>
   have:=hl t rfl
   simp only[exE,h x (by simp[opnds]),h a (by simp[opnds])]
   split
   ·split
    ·split
     ·rename_i heq _
      cases heq
      rw[this]
     ·rfl
     ·rfl
    ·rfl
   ·rfl
 case app es bytes x y=>simp only[exE,h x (by simp[opnds]),h y (by simp[opnds])]
 case mup ag ks x y z=>simp only[exE,h x (by simp[opnds]),h y (by simp[opnds]),h z (by simp[opnds])]
 all_goals rfl

theorem rdTgt_congr {op:AOp}(h:∀x∈opnds op,ev env x=ev env' x):rdTgt op env=rdTgt op env':=by
 cases op
 case ld1 l a=>cases l<;>simp only[rdTgt,h a (by simp[opnds])]
 case ldA l n a=>cases l<;>simp only[rdTgt,h a (by simp[opnds])]
 case b2s x=>simp only[rdTgt,h x (by simp[opnds])]
 case mlk ag ks z ok x y=>simp only[rdTgt,h x (by simp[opnds])]
 case mlen x=>simp only[rdTgt,h x (by simp[opnds])]
 all_goals rfl
theorem wrTgt_congr {op:AOp}(h:∀x∈opnds op,ev env x=ev env' x):wrTgt op env=wrTgt op env':=by
 cases op
 case st l n a x=>cases l<;>simp only[wrTgt,h a (by simp[opnds])]
 case app es bytes x y=>simp only[wrTgt,h x (by simp[opnds])]
 case mup ag ks x y z=>simp only[wrTgt,h x (by simp[opnds])]
 all_goals rfl
theorem okT_congr {i:AI}(h:∀x∈opnds i.op,ev env x=ev env' x):okT ws i env=okT ws i env':=by
 unfold okT
 rw[rdTgt_congr h,wrTgt_congr h]

theorem eff_congr {i:AI}(h:Agree i env env'):eff C lk lim ws base cb i env H=eff C lk lim ws base cb i env' H:=by
 unfold eff effA effF
 rw[h.grd,okT_congr h.ev,rdOp_congr h.ev h.loc,mkOp_congr h.ev,clArgs_congr h.ev,exE_congr h.ev h.loc]
end
end Go.Hm

namespace Go.Hm
open Go

def EqE (e e':Env):Prop:=(∀t,find e t=find e' t)∧∀d,noRp d e=noRp d e'
theorem EqE.refl (e:Env):EqE e e:=⟨fun _=>rfl,fun _=>rfl⟩
theorem EqE.symm {e e':Env}(h:EqE e e'):EqE e' e:=⟨fun t=>(h.1 t).symm,fun d=>(h.2 d).symm⟩
theorem EqE.trans {e e' e'':Env}(h:EqE e e')(k:EqE e' e''):EqE e e'':=⟨fun t=>(h.1 t).trans (k.1 t),fun d=>(h.2 d).trans (k.2 d)⟩

def rpTo (d:Nat):AV→Bool
 | .rp t _=>decide (t=d)
 | _=>false
theorem noRp_cons (d t:Nat)(v:AV)(env:Env):noRp d ((t,v)::env)=(!rpTo d v&&noRp d env):=by
 cases v<;>simp[noRp,rpTo]
theorem noRp_setAt {d t:Nat}{cs:List AV}:∀{env:Env} {cs0:List AV},find env t= .box cs0→noRp d (setAt env t (.box cs))=noRp d env
 | [],cs0,h=>by simp[find]at h
 | (t',v')::r,cs0,h=>by
  simp only[find]at h
  simp only[setAt]
  by_cases e:t'=t
  ·rw[if_pos e]at h ⊢
   subst h
   rw[noRp_cons,noRp_cons];rfl
  ·rw[if_neg e]at h ⊢
   rw[noRp_cons,noRp_cons,noRp_setAt h]

theorem ev_find {env env':Env}{x:AO}(h:∀t∈oT x,find env t=find env' t):ev env x=ev env' x:=by
 cases x with
 | con v=>rfl
 | tmp t=>simp only[ev,h t (by simp[oT])]
theorem guard_find {env env':Env}{i:AI}(h:∀t∈(i.grd.map (·.1)).toList,find env t=find env' t):guardI i env=guardI i env':=by
 unfold guardI
 cases hg:i.grd with
 | none=>rfl
 | some p=>
  obtain⟨t,want⟩:=p
  have:=h t (by rw[hg];simp)
  dsimp only
  rw[this]

theorem Agree.of_find {env env':Env}{i:AI}(h:∀t∈rds i,find env t=find env' t):Agree i env env':=
 ⟨fun x hx=>ev_find fun t ht=>h t (by unfold rds;simp only[List.mem_append,List.mem_flatMap];exact .inl (.inl ⟨x,hx,ht⟩)),
  fun t ht=>h t (by unfold rds;simp only[List.mem_append];exact .inl (.inr (by simpa using ht))),
  guard_find fun t ht=>h t (by unfold rds;simp only[List.mem_append];exact .inr ht)⟩

theorem agree_put {env env1:Env}{j:AI}{dst:Option Nat}{v:AV}(hp:put dst v env=some env1)(hn:∀d,dst=some d→d∉rds j):Agree j env env1:=
 Agree.of_find fun t ht=>by
  cases dst with
  | none=>simp[put]at hp;subst hp;rfl
  | some d=>
   simp only[put]at hp
   split at hp
   ·simp only[Option.some.injEq]at hp;subst hp
    simp only[find]
    rw[if_neg (fun e=>hn d rfl (by subst e;exact ht))]
   ·simp at hp

theorem agree_box {env:Env}{j:AI}{t:Nat}{cs cs0:List AV}(hb:find env t= .box cs0)(hl:locOf j.op≠some t):Agree j env (setAt env t (.box cs)):=by
 have nd:find env t≠.dead:=by rw[hb];exact fun h=>by cases h
 have fs:=find_setAt (v:=.box cs) nd
 refine⟨fun x hx=>?_,fun u hu=>?_,?_⟩
 ·cases x with
  | con v=>rfl
  | tmp u=>
   simp only[ev,fs u]
   by_cases e:u=t
   ·subst e;rw[if_pos rfl,hb]
   ·rw[if_neg e]
 ·rw[fs u,if_neg (fun e=>hl (by rw[hu,e]))]
 ·unfold guardI
  cases j.grd with
  | none=>rfl
  | some p=>
   obtain⟨u,want⟩:=p
   dsimp only
   rw[fs u]
   by_cases e:u=t
   ·subst e;rw[if_pos rfl,hb]
   ·rw[if_neg e]

theorem EqE.agree {env env':Env}(h:EqE env env')(j:AI):Agree j env env':=Agree.of_find fun t _=>h.1 t

theorem EqE.put {env env' env1:Env}(h:EqE env env'){dst:Option Nat}{v:AV}(hp:put dst v env=some env1):∃env1',Hm.put dst v env'=some env1'∧EqE env1 env1':=by
 cases dst with
 | none=>simp[Hm.put]at hp;subst hp;exact⟨env',rfl,h⟩
 | some d=>
  simp only[Hm.put]at hp ⊢
  split at hp
  ·rename_i hn
   simp only[Option.some.injEq]at hp;subst hp
   rw[h.2 d]at hn
   exact⟨_,if_pos hn,fun t=>by simp only[find,h.1 t],fun d'=>by rw[noRp_cons,noRp_cons,h.2]⟩
  ·simp at hp

section
variable {C:Orc}{lk lim base cb:Nat}{ws:WS}{env env':Env}{H H':Heap}

theorem rd_rp {op:AOp}{t o:Nat}(ho:rpOp op=true)(h:rdOp op env H=some (.rp t o)):∃x∈opnds op,∃o',ev env x= .rp t o':=by
 cases op<;>simp only[rpOp]at ho<;>try (cases ho;done)
 case mv x=>simp only[rdOp,Option.some.injEq]at h;exact⟨x,by simp[opnds],_,h⟩
 case pick c a b=>
  simp only[rdOp]at h
  split at h
  ·simp only[Option.some.injEq]at h
   split at h
   ·exact⟨a,by simp[opnds],_,h⟩
   ·exact⟨b,by simp[opnds],_,h⟩
  ·simp at h
 case nilc x=>
  simp only[rdOp]at h
  generalize hx:ev env x=vx at h
  cases vx<;>simp at h
  obtain⟨rfl,rfl⟩:=h
  exact⟨x,by simp[opnds],_,hx⟩
 case fldA off x=>
  simp only[rdOp]at h
  generalize hx:ev env x=vx at h
  cases vx<;>simp at h
  obtain⟨rfl,rfl⟩:=h
  exact⟨x,by simp[opnds],_,hx⟩
 case ixR len es a i=>
  simp only[rdOp]at h
  split at h
  ·split at h
   ·generalize hx:ev env a=vx at h
    cases vx<;>simp at h
    obtain⟨rfl,rfl⟩:=h
    exact⟨a,by simp[opnds],_,hx⟩
   ·simp at h
  ·simp at h

theorem mk_rp {op:AOp}{b:Nat}{v:AV}{x:HB}(h:mkOp op env b=some (v,x)):isRp v=false:=by
 cases op
 case allocH z=>simp only[mkOp,Option.some.injEq,Prod.mk.injEq]at h;rw[←h.1];rfl
 case mkm=>simp only[mkOp,Option.some.injEq,Prod.mk.injEq]at h;rw[←h.1];rfl
 case boxH n x=>
  simp only[mkOp]at h
  split at h
  ·split at h
   ·simp only[Option.some.injEq,Prod.mk.injEq]at h;rw[←h.1];rfl
   ·simp at h
  ·simp at h
 case buildH n es z l=>
  simp only[mkOp]at h
  split at h
  ·split at h
   ·simp only[Option.some.injEq,Prod.mk.injEq]at h;rw[←h.1];rfl
   ·simp at h
  ·simp at h
 case mks es bytes z x=>
  simp only[mkOp]at h
  split at h
  ·split at h
   ·simp only[Option.some.injEq,Prod.mk.injEq]at h;rw[←h.1];rfl
   ·simp at h
  ·simp at h
 all_goals simp[mkOp]at h

theorem exE_actH {dst:Option Nat}{op:AOp}{e:Ed}(hc:cls op= .actH)(h:exE lk lim cb dst op env H=some (e,H')):∃v,e= .put dst v∧isRp v=false:=by
 cases op
 case st l n a x=>
  cases l with
  | some t=>simp[cls]at hc
  | none=>
   simp only[exE]at h
   split at h
   case h_2=>simp at h
   split at h
   case isFalse=>simp at h
   generalize ev env a=va at h
   cases va<;>dsimp only at h<;>first | (simp at h;done) | skip
   split at h
   case h_2=>simp at h
   split at h
   case isFalse=>simp at h
   split at h
   case h_2=>simp at h
   simp only[Option.some.injEq,Prod.mk.injEq]at h
   exact⟨_,h.1.symm,rfl⟩
 case app es bytes x y=>
  simp only[exE]at h
  split at h
  case h_2=>simp at h
  split at h
  case isFalse=>simp at h
  generalize ev env x=va at h
  cases va<;>dsimp only at h<;>first | (simp at h;done) | skip
  ·split at h
   ·simp only[Option.some.injEq,Prod.mk.injEq]at h
    exact⟨_,h.1.symm,rfl⟩
   ·split at h
    case isFalse=>simp at h
    simp only[Option.some.injEq,Prod.mk.injEq]at h
    exact⟨_,h.1.symm,rfl⟩
  ·split at h
   case h_2=>simp at h
   split at h
   case isFalse=>simp at h
   split at h
   case h_2=>simp at h
   simp only[Option.some.injEq,Prod.mk.injEq]at h
   exact⟨_,h.1.symm,rfl⟩
 case mup ag ks m k v=>
  simp only[exE]at h
  split at h
  case h_2=>simp at h
  split at h
  case h_2=>simp at h
  split at h
  case isFalse=>simp at h
  split at h
  case h_2=>simp at h
  simp only[Option.some.injEq,Prod.mk.injEq]at h
  exact⟨_,h.1.symm,rfl⟩
 all_goals simp[exE]at h

theorem eff_form {i:AI}{e:Ed}{d:Hd}(h:eff C lk lim ws base cb i env H=some (e,d)):
  (∃v,e= .put i.dst v∧∀t o,v= .rp t o→∃x∈opnds i.op,∃o',ev env x= .rp t o')∨(∃t cs cs0,e= .box t cs∧cls2 i= .actL t∧find env t= .box cs0∧i.dst=none):=by
 have nr:∀{v:AV},isRp v=false→∀t o,v= .rp t o→∃x∈opnds i.op,∃o',ev env x= .rp t o':=fun h t o hv=>by subst hv;cases h
 unfold eff at h
 split at h
 ·split at h
  case isFalse=>simp at h
  split at h
  ·unfold effF at h
   split at h
   case h_2=>simp at h
   split at h
   case isFalse=>simp at h
   split at h
   case h_2=>simp at h
   split at h
   case isFalse=>simp at h
   rename_i hr
   simp only[Option.some.injEq,Prod.mk.injEq]at h
   exact .inl ⟨_,h.1.symm,nr hr⟩
  rename_i hfr
  unfold effA at h
  split at h
  ·rename_i t hc
   split at h
   case h_2=>simp at h
   rename_i e2 H2 hx
   simp only[Option.some.injEq,Prod.mk.injEq]at h
   obtain⟨rfl,rfl⟩:=h
   obtain⟨_,cs,cs0,h1,h2,h3⟩:=exE_actL hc hx
   exact .inr ⟨t,cs,cs0,h1,cls2_of hfr hc (fun e=>by cases e),h2,h3⟩
  ·rename_i hc
   split at h
   case h_2=>simp at h
   rename_i e2 H2 hx
   simp only[Option.some.injEq,Prod.mk.injEq]at h
   obtain⟨rfl,rfl⟩:=h
   obtain⟨v,h1,h2⟩:=exE_actH hc hx
   exact .inl ⟨v,h1,nr h2⟩
  ·split at h
   case h_2=>simp at h
   rename_i v cs hm
   simp only[Option.some.injEq,Prod.mk.injEq]at h
   exact .inl ⟨v,h.1.symm,nr (mk_rp hm)⟩
  ·split at h
   case h_2=>simp at h
   split at h
   case isFalse=>simp at h
   split at h
   case h_2=>simp at h
   split at h
   case isFalse=>simp at h
   rename_i hr
   simp only[Option.some.injEq,Prod.mk.injEq]at h
   exact .inl ⟨_,h.1.symm,nr hr⟩
  ·split at h
   case h_2=>simp at h
   rename_i v hrd
   split at h
   case isFalse=>simp at h
   rename_i hr
   simp only[Option.some.injEq,Prod.mk.injEq]at h
   refine .inl ⟨v,h.1.symm,fun t o hv=>?_⟩
   subst hv
   exact rd_rp (hr.resolve_left (by simp[isRp])) hrd
 ·simp only[Option.some.injEq,Prod.mk.injEq]at h
  exact .inl ⟨.und,h.1.symm,nr rfl⟩
 ·simp at h

theorem eff_heap {i:AI}{e:Ed}{d:Hd}(h:eff C lk lim ws base cb i env H=some (e,d)):
  d= .same∨(cls2 i= .make∧∃x,d= .fill (base+i.at_) x)∨(cls2 i= .call∧∃X,X≠[]∧d= .app X)∨cls2 i= .actH∨cls2 i= .callF:=by
 unfold eff at h
 split at h
 ·split at h
  case isFalse=>simp at h
  split at h
  ·exact .inr (.inr (.inr (.inr (cls2_free ‹_›))))
  rename_i hfr
  unfold effA at h
  split at h
  ·split at h
   case h_2=>simp at h
   simp only[Option.some.injEq,Prod.mk.injEq]at h
   exact .inl h.2.symm
  ·exact .inr (.inr (.inr (.inl (cls2_of hfr ‹_› (fun e=>by cases e)))))
  ·split at h
   case h_2=>simp at h
   simp only[Option.some.injEq,Prod.mk.injEq]at h
   exact .inr (.inl ⟨cls2_of hfr ‹_› (fun e=>by cases e),_,h.2.symm⟩)
  ·split at h
   case h_2=>simp at h
   split at h
   case isFalse=>simp at h
   split at h
   case h_2=>simp at h
   split at h
   case isFalse=>simp at h
   simp only[Option.some.injEq,Prod.mk.injEq]at h
   split at h
   ·exact .inl h.2.symm
   ·rename_i hl
    exact .inr (.inr (.inl ⟨cls2_of hfr ‹_› (fun e=>by cases e),_,fun hx=>hl (List.drop_eq_nil_iff.1 hx),h.2.symm⟩))
  ·split at h
   case h_2=>simp at h
   split at h
   case isFalse=>simp at h
   simp only[Option.some.injEq,Prod.mk.injEq]at h
   exact .inl h.2.symm
 ·simp only[Option.some.injEq,Prod.mk.injEq]at h
  exact .inl h.2.symm
 ·simp at h
end
end Go.Hm

namespace Go.Hm
open Go

section
variable {C:Orc}{lk lim base cb cb':Nat}{ws:WS}{env env':Env}{H H':Heap}

theorem rd_env {op:AOp}(h:cls op= .env∨∃t,cls op= .memL t):rdOp op env H=rdOp op env H':=by
 cases op<;>try rfl
 case ld1 l a=>
  cases l with
  | none=>rcases h with h | ⟨t,h⟩<;>simp[cls]at h
  | some t=>rfl
 case ldA l n a=>
  cases l with
  | none=>rcases h with h | ⟨t,h⟩<;>simp[cls]at h
  | some t=>rfl
 case b2s x=>rcases h with h | ⟨t,h⟩<;>simp[cls]at h
 case mlk ag ks z ok m k=>rcases h with h | ⟨t,h⟩<;>simp[cls]at h
 case mlen m=>rcases h with h | ⟨t,h⟩<;>simp[cls]at h
 case len b x=>cases b<;>rfl

theorem exE_actL_heap {dst:Option Nat}{op:AOp}{t:Nat}(hc:cls op= .actL t):(exE lk lim cb dst op env H).map (·.1)=(exE lk lim cb' dst op env H').map (·.1):=by
 cases op
 case st l n a x=>
  cases l with
  | none=>simp[cls]at hc
  | some t'=>
   simp only[exE]
   generalize cellsV (ev env x)=c
   cases c with
   | none=>rfl
   | some new=>
    dsimp only
    split
    ·generalize ev env a=va
     cases va<;>try rfl
     dsimp only
     split
     ·generalize find env t'=fv
      cases fv<;>try rfl
      dsimp only
      split<;>rfl
     ·rfl
    ·rfl
 case app=>simp[cls]at hc
 case mup=>simp[cls]at hc
 all_goals rfl

theorem mapOf_congr {va:AV}(h:∀b,va= .mp b→H[b]?=H'[b]?):mapOf H va=mapOf H' va:=by
 unfold mapOf
 split
 ·rfl
 ·rename_i b;rw[h b rfl]
 ·rfl

theorem rd_memH {op:AOp}(h:∀b,rdTgt op env=some b→H[b]?=H'[b]?)(hc:cls op= .memH):rdOp op env H=rdOp op env H':=by
 cases op<;>simp only[cls]at hc<;>try (cases hc;done)
 case st l n a x=>cases l<;>cases hc
 case ld1 l a=>
  cases l with
  | some t=>cases hc
  | none=>
   simp only[rdTgt]at h
   simp only[rdOp]
   have:ptrCells none env H (ev env a)=ptrCells none env H' (ev env a):=by
    generalize ev env a=va at h
    cases va<;>try rfl
    rename_i b g off
    simp only[ptrCells,h b rfl]
   rw[this]
 case ldA l n a=>
  cases l with
  | some t=>cases hc
  | none=>
   simp only[rdTgt]at h
   simp only[rdOp]
   have:ptrCells none env H (ev env a)=ptrCells none env H' (ev env a):=by
    generalize ev env a=va at h
    cases va<;>try rfl
    rename_i b g off
    simp only[ptrCells,h b rfl]
   rw[this]
 case b2s x=>
  simp only[rdTgt]at h
  simp only[rdOp]
  have:slCells H (ev env x)=slCells H' (ev env x):=by
   generalize ev env x=va at h
   cases va<;>try rfl
   rename_i b g off n es
   simp only[slCells,h b rfl]
  rw[this]
 case mlk ag ks z ok m k=>
  simp only[rdTgt]at h
  simp only[rdOp]
  rw[mapOf_congr (H:=H) (H':=H') (va:=ev env m) (fun b hb=>h b (by rw[hb]))]
 case mlen m=>
  simp only[rdTgt]at h
  simp only[rdOp]
  rw[mapOf_congr (H:=H) (H':=H') (va:=ev env m) (fun b hb=>h b (by rw[hb]))]

theorem eff_heap_congr {i:AI}(h:(cls2 i≠.actH∧cls2 i≠.callF∧H.take base=H'.take base)∨((cls2 i= .actH∨cls2 i= .callF)∧H=H'∧(cls2 i= .actH→cb=cb'))∨((cls2 i= .env∨∃t,cls2 i= .memL t)∨∃t,cls2 i= .actL t)∨(cls2 i= .memH∧∀b,b<base→ws b=false→H[b]?=H'[b]?)):
  eff C lk lim ws base cb i env H=eff C lk lim ws base cb' i env H':=by
 unfold eff
 split
 ·by_cases hok:okT ws i env=true
  case neg=>rw[if_neg hok,if_neg hok]
  rw[if_pos hok,if_pos hok]
  by_cases hfr:isFree i=true
  case pos=>
   rw[if_pos hfr,if_pos hfr]
   rw[cls2_free hfr]at h
   rcases h with h | h | h | h
   ·exact absurd rfl h.2.1
   ·rw[h.2.1]
   ·rcases h with (h | ⟨t,h⟩) | ⟨t,h⟩<;>cases h
   ·cases h.1
  rw[if_neg hfr,if_neg hfr]
  rcases cls2_two hfr with hcc | ⟨hcc,hm,hrow⟩
  case inr=>
   have hn:rdTgt i.op env=none:=by
    unfold okT at hok
    simp only[hrow,Bool.not_true,Bool.false_or,Bool.and_eq_true,Option.isNone_iff_eq_none]at hok
    exact hok.2
   have ht:rdOp i.op env (H.take base)=rdOp i.op env (H'.take base):=rd_memH (fun b hb=>by rw[hn]at hb;cases hb) hm
   unfold effA
   rw[hm]
   dsimp only
   rw[ht]
  rw[hcc]at h
  unfold effA
  cases hc:cls i.op with
  | actL t=>
   dsimp only
   have:=exE_actL_heap (lk:=lk) (lim:=lim) (cb:=cb) (cb':=cb') (env:=env) (H:=H) (H':=H') (dst:=i.dst) hc
   cases h1:exE lk lim cb i.dst i.op env H with
   | none=>rw[h1]at this;cases h2:exE lk lim cb' i.dst i.op env H' with
    | none=>rfl
    | some p=>rw[h2]at this;simp at this
   | some p=>rw[h1]at this;cases h2:exE lk lim cb' i.dst i.op env H' with
    | none=>rw[h2]at this;simp at this
    | some q=>rw[h2]at this;simp at this;obtain⟨_,_⟩:=p;obtain⟨_,_⟩:=q;dsimp only at this ⊢;rw[this]
  | actH=>
   rw[hc]at h
   rcases h with h | h | h | h
   ·exact absurd rfl h.1
   ·obtain⟨_,h1,h2⟩:=h;subst h1;rw[h2 rfl]
   ·rcases h with (h | ⟨t,h⟩) | ⟨t,h⟩<;>cases h
   ·cases h.1
  | make=>rfl
  | call=>
   rw[hc]at h
   have ht:H.take base=H'.take base:=by
    rcases h with h | h | h | h
    ·exact h.2.2
    ·rcases h.1 with h | h<;>cases h
    ·rcases h with (h | ⟨t,h⟩) | ⟨t,h⟩<;>cases h
    ·cases h.1
   rw[ht]
  | callF=>exact(by cases hcc:i.op<;>rw[hcc]at hc<;>(try simp only[cls]at hc)<;>first | (cases hc;done) | (rename_i l _<;>cases l<;>cases hc) | (rename_i l _ _<;>cases l<;>cases hc) | (rename_i l _ _ _<;>cases l<;>cases hc))
  | env=>rw[rd_env (H:=H.take base) (H':=H'.take base) (.inl hc)]
  | memL t=>rw[rd_env (H:=H.take base) (H':=H'.take base) (.inr ⟨t,hc⟩)]
  | memH=>
   rw[hc]at h
   have ht:rdOp i.op env (H.take base)=rdOp i.op env (H'.take base):=by
    rcases h with h | h | h | h
    ·rw[h.2.2]
    ·rcases h.1 with h | h<;>cases h
    ·rcases h with (h | ⟨t,h⟩) | ⟨t,h⟩<;>cases h
    ·refine rd_memH (fun b hb=>?_) hc
     obtain⟨_,h2⟩:=h
     have hw:ws b=false:=by
      unfold okT at hok
      rw[hb]at hok
      simp only[Bool.and_eq_true,Bool.not_eq_true']at hok
      exact hok.1.2
     rw[List.getElem?_take,List.getElem?_take]
     split
     ·exact h2 b ‹_› hw
     ·rfl
   rw[ht]
 ·rfl
 ·rfl

structure Indep (i j:AI):Prop where
 ij:∀d,i.dst=some d→d∉rds j
 ji:∀d,j.dst=some d→d∉rds i
 dd:∀d,i.dst=some d→j.dst≠some d
 ok:okPair (cls2 i) (cls2 j)=true∨mmPair i j=true∨mmPair j i=true
 fl1:cls2 i= .actH→cls2 j= .memH→i.fl=true
 fl2:cls2 i= .memH→cls2 j= .actH→j.fl=true
 at_:cls2 i= .make→cls2 j= .make→i.at_≠j.at_
 ci:∀x∈opnds i.op,conOk x=true
 cj:∀x∈opnds j.op,conOk x=true

theorem okPair_symm (a b:Cls):okPair a b=okPair b a:=by
 cases a<;>cases b<;>simp[okPair,bne_comm]

theorem Indep.of {i j:AI}(h:indep i j=true):Indep i j:=by
 unfold indep at h
 simp only[Bool.and_eq_true]at h
 obtain⟨⟨⟨⟨⟨⟨⟨h1,h2⟩,h3⟩,h4⟩,hf1⟩,hf2⟩,h5⟩,h6⟩:=h
 refine⟨fun d hd=>?_,fun d hd=>?_,fun d hd=>?_,by rw[Bool.or_eq_true,Bool.or_eq_true,or_assoc]at h3;exact h3,fun a b=>by rw[a,b]at hf1;simpa using hf1,fun a b=>by rw[a,b]at hf2;simpa using hf2,fun a b=>?_,fun x hx=>?_,fun x hx=>?_⟩
 ·rw[hd]at h1;simp at h1;exact h1.1
 ·rw[hd]at h2;simpa using h2
 ·rw[hd]at h1;simp at h1;exact h1.2
 ·rw[a,b]at h4;simpa using h4
 ·rw[List.all_eq_true]at h5;exact h5 x hx
 ·rw[List.all_eq_true]at h6;exact h6 x hx
theorem Indep.symm {i j:AI}(h:Indep i j):Indep j i:=
 ⟨h.ji,h.ij,fun d hd he=>h.dd d he hd,h.ok.elim (fun h=>.inl (by rw[okPair_symm];exact h)) (fun h=>.inr h.symm),fun a b=>h.fl2 b a,fun a b=>h.fl1 b a,fun a b e=>h.at_ b a e.symm,h.cj,h.ci⟩

theorem mup_cls2 {i:AI}(h:isMup i.op=true):cls2 i= .actH:=by
 have hc:cls i.op= .actH:=by
  cases ho:i.op<;>rw[ho]at h<;>simp only[isMup]at h<;>first | rfl | cases h
 exact cls2_of (fun hf=>by unfold isFree at hf;rw[hc]at hf;simp at hf) hc (fun e=>by cases e)
theorem mk_cls2 {i:AI}(h:isMk i.op=true):cls2 i= .make:=by
 have hc:cls i.op= .make:=by
  cases ho:i.op<;>rw[ho]at h<;>simp only[isMk]at h<;>first | rfl | cases h
 exact cls2_of (fun hf=>by unfold isFree at hf;rw[hc]at hf;simp at hf) hc (fun e=>by cases e)
theorem sa_cls2 {i:AI}(h:isSa i.op=true):cls2 i= .actH:=by
 have hc:cls i.op= .actH:=by
  generalize i.op=op at h
  cases op<;>try (cases h;done)
  case st l n a x=>cases l with
   | some t=>cases h
   | none=>rfl
  case app=>rfl
 exact cls2_of (fun hf=>by unfold isFree at hf;rw[hc]at hf;simp at hf) hc (fun e=>by cases e)
theorem mmk_cls2 {i:AI}(h:isMm i.op=true):cls2 i= .make:=by
 have hc:cls i.op= .make:=by
  cases ho:i.op<;>rw[ho]at h<;>simp only[isMm]at h<;>first | rfl | cases h
 exact cls2_of (fun hf=>by unfold isFree at hf;rw[hc]at hf;simp at hf) hc (fun e=>by cases e)
theorem mm_cls {i j:AI}(h:mmPair i j=true):cls2 i= .actH∧cls2 j= .make:=by
 unfold mmPair at h
 rw[Bool.or_eq_true,Bool.and_eq_true,Bool.and_eq_true]at h
 exact h.elim (fun h=>⟨mup_cls2 h.1,mk_cls2 h.2⟩) fun h=>⟨sa_cls2 h.1,mmk_cls2 h.2⟩
theorem Indep.okL {i j:AI}{t:Nat}(h:Indep i j)(hc:cls2 i= .actL t):okPair (cls2 i) (cls2 j)=true:=by
 rcases h.ok with h | h | h
 ·exact h
 ·have:=(mm_cls h).1;rw[hc]at this;cases this
 ·have:=(mm_cls h).2;rw[hc]at this;cases this

theorem locOf_actL {op:AOp}{t:Nat}(h:cls op= .actL t):locOf op=some t:=by
 cases op<;>simp only[cls]at h<;>try (cases h;done)
 case st l n a x=>cases l with
  | none=>cases h
  | some t'=>cases h;rfl
 case ld1 l a=>cases l<;>cases h
 case ldA l n a=>cases l<;>cases h
theorem cls_loc {op:AOp}{t:Nat}(h:locOf op=some t):cls op= .actL t∨cls op= .memL t:=by
 cases op<;>simp only[locOf]at h<;>try (cases h;done)
 all_goals subst h
 case st=>exact .inl rfl
 case ld1=>exact .inr rfl
 case ldA=>exact .inr rfl

theorem cls2_actL {i:AI}{t:Nat}(h:cls2 i= .actL t):cls i.op= .actL t:=by
 unfold cls2 at h
 split at h
 ·cases h
 ·split at h
  ·cases h
  ·exact h
theorem cls_loc2 {i:AI}{t:Nat}(h:locOf i.op=some t):cls2 i= .actL t∨cls2 i= .memL t:=by
 have nf:cls i.op≠.call→¬isFree i=true:=fun hn hf=>by
  unfold isFree at hf
  simp only[Bool.and_eq_true,beq_iff_eq]at hf
  exact hn hf.2
 rcases cls_loc h with h | h
 ·exact .inl (cls2_of (nf (by rw[h];exact fun e=>by cases e)) h (fun e=>by cases e))
 ·exact .inr (cls2_of (nf (by rw[h];exact fun e=>by cases e)) h (fun e=>by cases e))

theorem agree_eff {i j:AI}(hi:Indep i j){e:Ed}{d:Hd}{env1:Env}(h:eff C lk lim ws base cb i env H=some (e,d))(hr:e.run env=some env1):Agree j env env1:=by
 rcases eff_form h with⟨v,rfl,_⟩ | ⟨t,cs,cs0,rfl,hc,hb,_⟩
 ·exact agree_put hr hi.ij
 ·simp only[Ed.run,Option.some.injEq]at hr
  subst hr
  refine agree_box hb (fun hl=>?_)
  have hok:=hi.okL hc
  rw[hc]at hok
  rcases cls_loc2 hl with h | h<;>rw[h]at hok<;>simp[okPair]at hok

theorem edits_swap {i j:AI}(hi:Indep i j){e1 e2:Ed}{d1 d2:Hd}{env1 env2:Env}{Ha Hb:Heap}{ca cc:Nat}(h1:eff C lk lim ws base ca i env Ha=some (e1,d1))(r1:e1.run env=some env1)(h2:eff C lk lim ws base cc j env Hb=some (e2,d2))(r2:e2.run env1=some env2):
  ∃env1' env2',e2.run env=some env1'∧e1.run env1'=some env2'∧EqE env2 env2':=by
 rcases eff_form h1 with⟨v,rfl,hv⟩ | ⟨t,cs,cs0,rfl,hc,hb,hdn⟩<;>rcases eff_form h2 with⟨u,rfl,hu⟩ | ⟨t',cs',cs0',rfl,hc',hb',hdn'⟩
 ·cases hdi:i.dst with
  | none=>
   rw[hdi]at r1
   simp only[Ed.run,put,Option.some.injEq]at r1 ⊢
   subst r1
   exact⟨env2,env2,r2,rfl,EqE.refl _⟩
  | some d=>
   cases hdj:j.dst with
   | none=>
    rw[hdj]at r2
    rw[hdi]at r1
    simp only[Ed.run,put,Option.some.injEq]at r1 r2 ⊢
    subst r2
    exact⟨env,env1,rfl,r1,EqE.refl _⟩
   | some d'=>
    rw[hdi]at r1
    rw[hdj]at r2
    have hne:d≠d':=fun e=>hi.dd d hdi (by rw[hdj,e])
    simp only[Ed.run,put]at r1 r2 ⊢
    split at r1
    case isFalse=>simp at r1
    rename_i hn1
    simp only[Option.some.injEq]at r1;subst r1
    split at r2
    case isFalse=>simp at r2
    rename_i hn2
    simp only[Option.some.injEq]at r2;subst r2
    rw[noRp_cons,Bool.and_eq_true]at hn2
    rw[if_pos hn2.2]
    have hu1:rpTo d u=false:=by
     cases hru:rpTo d u with
     | false=>rfl
     | true=>
      exfalso
      cases u<;>simp[rpTo]at hru
      rename_i tt oo
      subst hru
      obtain⟨x,hx,o',hev⟩:=hu tt oo rfl
      cases x with
      | con w=>
       have:=hi.cj _ hx
       simp only[ev]at hev
       rw[hev]at this
       simp[conOk]at this
      | tmp k=>
       simp only[ev]at hev
       have hk:k∈rds j:=by
        unfold rds
        simp only[List.mem_append,List.mem_flatMap]
        exact .inl (.inl ⟨_,hx,by simp[oT]⟩)
       generalize hfk:find env k=fk at hev
       cases fk
       case box=>simp only[AV.rp.injEq]at hev;exact hi.ij tt hdi (hev.1▸hk)
       all_goals first | (simp only[AV.rp.injEq]at hev;obtain⟨rfl,rfl⟩:=hev;exact find_noRp hn1 k _ hfk) | cases hev
    refine⟨_,(d,v)::(d',u)::env,rfl,?_,fun t=>?_,fun k=>?_⟩
    ·rw[if_pos (by rw[noRp_cons,hu1,hn1];rfl)]
    ·simp only[find]
     by_cases ha:d'=t
     ·rw[if_pos ha,if_neg (by omega),if_pos ha]
     ·by_cases hbb:d=t
      ·rw[if_neg ha,if_pos hbb,if_pos hbb]
      ·rw[if_neg ha,if_neg hbb,if_neg hbb,if_neg ha]
    ·simp only[noRp_cons]
     cases rpTo k u<;>cases rpTo k v<;>simp
 ·-- i puts,j writes a box
  have hloc:=locOf_actL (cls2_actL hc')
  have hdi:i.dst≠some t':=fun e=>hi.ij t' e (by unfold rds;simp[hloc])
  simp only[Ed.run,Option.some.injEq]at r2 ⊢
  subst r2
  simp only[Ed.run]at r1
  cases hd:i.dst with
  | none=>
   rw[hd]at r1
   simp only[put,Option.some.injEq]at r1 ⊢
   subst r1
   exact⟨_,_,rfl,rfl,EqE.refl _⟩
  | some d=>
   rw[hd]at r1 hdi
   simp only[put]at r1 ⊢
   split at r1
   case isFalse=>simp at r1
   rename_i hn
   simp only[Option.some.injEq]at r1;subst r1
   refine⟨_,(d,v)::setAt env t' (.box cs'),rfl,if_pos (by rw[noRp_setAt hb'];exact hn),?_⟩
   simp only[setAt]
   rw[if_neg (fun e=>hdi (by rw[e]))]
   exact EqE.refl _
 ·-- i writes a box,j puts
  have hloc:=locOf_actL (cls2_actL hc)
  have hdj:j.dst≠some t:=fun e=>hi.ji t e (by unfold rds;simp[hloc])
  simp only[Ed.run,Option.some.injEq]at r1
  subst r1
  simp only[Ed.run]at r2 ⊢
  cases hd:j.dst with
  | none=>
   rw[hd]at r2
   simp only[put,Option.some.injEq]at r2 ⊢
   subst r2
   exact⟨_,_,rfl,rfl,EqE.refl _⟩
  | some d=>
   rw[hd]at r2 hdj
   simp only[put]at r2 ⊢
   split at r2
   case isFalse=>simp at r2
   rename_i hn
   simp only[Option.some.injEq]at r2;subst r2
   rw[noRp_setAt hb]at hn
   refine⟨(d,u)::env,_,if_pos hn,rfl,?_⟩
   simp only[setAt]
   rw[if_neg (fun e=>hdj (by rw[e]))]
   exact EqE.refl _
 ·-- both write boxes
  have hne:t≠t':=fun e=>by
   have hok:=hi.okL hc
   rw[hc,hc',e]at hok
   simp[okPair]at hok
  simp only[Ed.run,Option.some.injEq]at r1 r2 ⊢
  subst r1;subst r2
  have nd:find env t≠.dead:=by rw[hb];exact fun h=>by cases h
  have nd':find env t'≠.dead:=by rw[hb'];exact fun h=>by cases h
  have f1:=find_setAt (v:=.box cs) nd
  have f2:=find_setAt (v:=.box cs') nd'
  have f3:=find_setAt (env:=setAt env t (.box cs)) (t:=t') (v:=.box cs') (by rw[f1,if_neg hne.symm];exact nd')
  have f4:=find_setAt (env:=setAt env t' (.box cs')) (t:=t) (v:=.box cs) (by rw[f2,if_neg hne];exact nd)
  refine⟨_,_,rfl,rfl,fun k=>?_,fun k=>?_⟩
  ·rw[f3,f4,f1,f2]
   by_cases h1:k=t
   ·by_cases h2:k=t'
    ·omega
    ·rw[if_neg h2,if_pos h1,if_pos h1]
   ·by_cases h2:k=t'
    ·rw[if_pos h2,if_neg h1,if_pos h2]
    ·rw[if_neg h2,if_neg h1,if_neg h1,if_neg h2]
  ·rw[noRp_setAt (cs0:=cs0') (by rw[f1,if_neg hne.symm];exact hb'),noRp_setAt hb,noRp_setAt (cs0:=cs0) (by rw[f2,if_neg hne];exact hb),noRp_setAt hb']
end
end Go.Hm

namespace Go.Hm
open Go

section
variable {C:Orc}{lk lim base:Nat}{ws:WS}{env env':Env}{H H':Heap}

def OrcLen (C:Orc):Prop:=∀lk lim f l H r H',C lk lim f l H=some (r,H')→H.length≤H'.length

theorem setH_len {cb:Nat}{b:Nat}{cs new:List AV}(h:setH lk lim cb H b cs new=some H'):H'.length=H.length:=by
 unfold setH at h
 split at h
 ·simp only[Option.some.injEq]at h;subst h;simp
 ·simp at h
theorem exE_len {cb:Nat}{dst:Option Nat}{op:AOp}{e:Ed}(h:exE lk lim cb dst op env H=some (e,H')):H.length≤H'.length:=by
 cases op
 case st l n a x=>
  simp only[exE]at h
  split at h
  case h_2=>simp at h
  split at h
  case isFalse=>simp at h
  generalize ev env a=va at h
  cases l with
  | some t=>
   cases va<;>dsimp only at h<;>first | (simp at h;done) | skip
   split at h
   case isFalse=>simp at h
   split at h
   case h_2=>simp at h
   split at h
   case isFalse=>simp at h
   simp only[Option.some.injEq,Prod.mk.injEq]at h
   rw[←h.2];exact Nat.le_refl _
  | none=>
   cases va<;>dsimp only at h<;>first | (simp at h;done) | skip
   split at h
   case h_2=>simp at h
   split at h
   case isFalse=>simp at h
   split at h
   case h_2=>simp at h
   rename_i hs
   simp only[Option.some.injEq,Prod.mk.injEq]at h
   rw[←h.2,setH_len hs];exact Nat.le_refl _
 case app es bytes x y=>
  simp only[exE]at h
  split at h
  case h_2=>simp at h
  split at h
  case isFalse=>simp at h
  generalize ev env x=va at h
  cases va<;>dsimp only at h<;>first | (simp at h;done) | skip
  ·split at h
   ·simp only[Option.some.injEq,Prod.mk.injEq]at h
    rw[←h.2];exact Nat.le_refl _
   ·split at h
    case isFalse=>simp at h
    simp only[Option.some.injEq,Prod.mk.injEq]at h
    rw[←h.2];simp
  ·split at h
   case h_2=>simp at h
   split at h
   case isFalse=>simp at h
   split at h
   case h_2=>simp at h
   rename_i hs
   simp only[Option.some.injEq,Prod.mk.injEq]at h
   rw[←h.2,setH_len hs];exact Nat.le_refl _
 case mup ag ks m k v=>
  simp only[exE]at h
  split at h
  case h_2=>simp at h
  split at h
  case h_2=>simp at h
  split at h
  case isFalse=>simp at h
  split at h
  case h_2=>simp at h
  simp only[Option.some.injEq,Prod.mk.injEq]at h
  rw[←h.2];simp
 all_goals simp[exE]at h

theorem exE_other {cb:Nat}{dst:Option Nat}{op:AOp}{e:Ed}(h:exE lk lim cb dst op env H=some (e,H')){b:Nat}(hb:b<H.length)(hn:wrTgt op env≠some b):H'[b]?=H[b]?:=by
 cases op
 case st l n a x=>
  simp only[exE]at h
  split at h
  case h_2=>simp at h
  split at h
  case isFalse=>simp at h
  cases l with
  | some t=>
   generalize ev env a=va at h
   cases va<;>dsimp only at h<;>first | (simp at h;done) | skip
   split at h
   case isFalse=>simp at h
   split at h
   case h_2=>simp at h
   split at h
   case isFalse=>simp at h
   simp only[Option.some.injEq,Prod.mk.injEq]at h
   rw[←h.2]
  | none=>
   simp only[wrTgt]at hn
   generalize ev env a=va at h hn
   cases va<;>dsimp only at h<;>first | (simp at h;done) | skip
   split at h
   case h_2=>simp at h
   split at h
   case isFalse=>simp at h
   split at h
   case h_2=>simp at h
   rename_i hs
   simp only[Option.some.injEq,Prod.mk.injEq]at h
   obtain⟨_,rfl⟩:=h
   unfold setH at hs
   split at hs
   case isFalse=>simp at hs
   simp only[Option.some.injEq]at hs
   subst hs
   exact List.getElem?_set_ne (fun e=>hn (by rw[e]))
 case app es bytes x y=>
  simp only[exE]at h
  split at h
  case h_2=>simp at h
  split at h
  case isFalse=>simp at h
  simp only[wrTgt]at hn
  generalize ev env x=va at h hn
  cases va<;>dsimp only at h<;>first | (simp at h;done) | skip
  ·split at h
   ·simp only[Option.some.injEq,Prod.mk.injEq]at h
    rw[←h.2]
   ·split at h
    case isFalse=>simp at h
    simp only[Option.some.injEq,Prod.mk.injEq]at h
    rw[←h.2,List.getElem?_append_left hb]
  ·split at h
   case h_2=>simp at h
   split at h
   case isFalse=>simp at h
   split at h
   case h_2=>simp at h
   rename_i hs
   simp only[Option.some.injEq,Prod.mk.injEq]at h
   obtain⟨_,rfl⟩:=h
   unfold setH at hs
   split at hs
   case isFalse=>simp at hs
   simp only[Option.some.injEq]at hs
   subst hs
   exact List.getElem?_set_ne (fun e=>hn (by rw[e]))
 case mup ag ks m k v=>
  simp only[exE]at h
  simp only[wrTgt]at hn
  generalize ev env m=va at h hn
  cases va<;>dsimp only at h<;>first | (simp at h;done) | skip
  split at h
  case h_2=>simp at h
  split at h
  case isFalse=>simp at h
  split at h
  case h_2=>simp at h
  simp only[Option.some.injEq,Prod.mk.injEq]at h
  rw[←h.2]
  exact List.getElem?_set_ne (fun e=>hn (by rw[e]))
 all_goals simp[exE]at h

theorem eff_keeps {cb:Nat}{i:AI}{e:Ed}{d:Hd}{H1:Heap}(h:eff C lk lim ws base cb i env H=some (e,d))(hr:d.run base H=some H1)(hc:cls2 i= .actH)(hfl:i.fl=true){b:Nat}(hb:b<H.length)(hw:ws b=false):H1[b]?=H[b]?:=by
 unfold eff at h
 split at h
 ·split at h
  case isFalse=>simp at h
  rename_i hok
  split at h
  ·rename_i hfr
   rw[cls2_free hfr]at hc;cases hc
  rename_i hfr
  have hc:=cls2_inv hfr hc (fun e=>by cases e)
  unfold effA at h
  rw[hc]at h
  dsimp only at h
  split at h
  case h_2=>simp at h
  rename_i hx
  simp only[Option.some.injEq,Prod.mk.injEq]at h
  obtain⟨_,rfl⟩:=h
  simp only[Hd.run,Option.some.injEq]at hr
  subst hr
  refine exE_other hx hb (fun ht=>?_)
  unfold okT at hok
  rw[ht]at hok
  simp only[hw,hfl,Bool.not_true,Bool.or_false,Bool.false_and]at hok
  cases hok
 ·simp only[Option.some.injEq,Prod.mk.injEq]at h
  obtain⟨_,rfl⟩:=h
  simp only[Hd.run,Option.some.injEq]at hr
  subst hr;rfl
 ·simp at h

theorem eff_to (hF:OrcLen C){cb:Nat}{i:AI}{e:Ed}{H2:Heap}(h:eff C lk lim ws base cb i env H=some (e,.to H2)):H.length≤H2.length:=by
 unfold eff at h
 split at h
 ·split at h
  case isFalse=>simp at h
  split at h
  ·unfold effF at h
   split at h
   case h_2=>simp at h
   split at h
   case isFalse=>simp at h
   split at h
   case h_2=>simp at h
   rename_i hcc
   split at h
   case isFalse=>simp at h
   simp only[Option.some.injEq,Prod.mk.injEq,Hd.to.injEq]at h
   rw[←h.2];exact hF _ _ _ _ _ _ _ hcc
  unfold effA at h
  split at h
  ·split at h<;>simp at h
  ·split at h
   case h_2=>simp at h
   rename_i hx
   simp only[Option.some.injEq,Prod.mk.injEq,Hd.to.injEq]at h
   rw[←h.2];exact exE_len hx
  ·split at h<;>simp at h
  ·split at h
   case h_2=>simp at h
   split at h
   case isFalse=>simp at h
   split at h
   case h_2=>simp at h
   split at h
   case isFalse=>simp at h
   simp only[Option.some.injEq,Prod.mk.injEq]at h
   split at h<;>simp at h
  ·split at h
   case h_2=>simp at h
   split at h<;>simp at h
 ·simp at h
 ·simp at h

theorem hd_len (hF:OrcLen C){cb:Nat}{i:AI}{e:Ed}{d:Hd}{H1:Heap}(h:eff C lk lim ws base cb i env H=some (e,d))(hr:d.run base H=some H1):H.length≤H1.length:=by
 cases d with
 | same=>simp[Hd.run]at hr;rw[←hr];exact Nat.le_refl _
 | fill k cs=>
  simp only[Hd.run]at hr
  split at hr
  ·simp only[Option.some.injEq]at hr;rw[←hr];simp
  ·simp at hr
 | app X=>
  simp only[Hd.run]at hr
  split at hr
  ·simp only[Option.some.injEq]at hr;rw[←hr];simp
  ·simp at hr
 | to H2=>simp[Hd.run]at hr;rw[←hr];exact eff_to hF h

theorem eff_after {i j:AI}(hi:Indep i j)(hok:okPair (cls2 i) (cls2 j)=true)(hb:base≤H.length){ca cc cc':Nat}{e1:Ed}{d1:Hd}{envx:Env}{H1:Heap}(h1:eff C lk lim ws base ca i envx H=some (e1,d1))(s1:d1.run base H=some H1)(hc:cls2 j= .actH→cc=cc'):
  eff C lk lim ws base cc j env H1=eff C lk lim ws base cc' j env H:=by
 apply eff_heap_congr
 rcases eff_heap h1 with rfl | ⟨hm,cs,rfl⟩ | ⟨hm,X,_,rfl⟩ | hm | hm
 ·simp only[Hd.run,Option.some.injEq]at s1
  subst s1
  by_cases hj:cls2 j= .actH
  ·exact .inr (.inl ⟨.inl hj,rfl,hc⟩)
  ·by_cases hj2:cls2 j= .callF
   ·exact .inr (.inl ⟨.inr hj2,rfl,hc⟩)
   ·exact .inl ⟨hj,hj2,rfl⟩
 ·rw[hm]at hok
  have hj:cls2 j≠.actH:=fun e=>by rw[e]at hok;simp[okPair]at hok
  have hj2:cls2 j≠.callF:=fun e=>by rw[e]at hok;simp[okPair]at hok
  refine .inl ⟨hj,hj2,?_⟩
  simp only[Hd.run]at s1
  split at s1
  ·simp only[Option.some.injEq]at s1;subst s1
   rw[List.take_set_of_le (by omega)]
  ·simp at s1
 ·rw[hm]at hok
  have hj:cls2 j≠.actH:=fun e=>by rw[e]at hok;simp[okPair]at hok
  have hj2:cls2 j≠.callF:=fun e=>by rw[e]at hok;simp[okPair]at hok
  refine .inl ⟨hj,hj2,?_⟩
  simp only[Hd.run]at s1
  split at s1
  ·simp only[Option.some.injEq]at s1;subst s1
   rw[List.take_append_of_le_length hb]
  ·simp at s1
 ·rw[hm]at hok
  refine .inr (.inr ?_)
  cases hj:cls2 j<;>rw[hj]at hok<;>simp[okPair]at hok
  ·exact .inl (.inl (.inl rfl))
  ·exact .inl (.inl (.inr ⟨_,rfl⟩))
  ·exact .inr ⟨rfl,fun b hlt hw=>eff_keeps h1 s1 hm (hi.fl1 hm hj) (by omega) hw⟩
  ·exact .inl (.inr ⟨_,rfl⟩)
 ·rw[hm]at hok
  refine .inr (.inr ?_)
  cases hj:cls2 j<;>rw[hj]at hok<;>simp[okPair]at hok
  ·exact .inl (.inl (.inl rfl))
  ·exact .inl (.inl (.inr ⟨_,rfl⟩))
  ·exact .inl (.inr ⟨_,rfl⟩)

theorem heaps_swap {i j:AI}(hi:Indep i j)(hok:okPair (cls2 i) (cls2 j)=true)(hmk:cls2 i= .make∨cls2 j= .make→base<H.length){ca cc:Nat}{e1 e2:Ed}{d1 d2:Hd}{envx envy:Env}{H1 H2 Hx Hy:Heap}
  (h1:eff C lk lim ws base ca i envx Hx=some (e1,d1)) (s1:d1.run base H=some H1) (h2:eff C lk lim ws base cc j envy Hy=some (e2,d2)) (s2:d2.run base H1=some H2):∃H1',d2.run base H=some H1'∧d1.run base H1'=some H2:=by
 rcases eff_heap h1 with rfl | ⟨hm,cs,rfl⟩ | ⟨hm,X,hX,rfl⟩ | hm | hm
 ·simp only[Hd.run,Option.some.injEq]at s1
  subst s1
  exact⟨H2,s2,rfl⟩
 ·rcases eff_heap h2 with rfl | ⟨hm2,cs2,rfl⟩ | ⟨hm2,X2,hX2,rfl⟩ | hm2 | hm2
  ·simp only[Hd.run,Option.some.injEq]at s2
   subst s2
   exact⟨H,rfl,s1⟩
  ·have hne:=hi.at_ hm hm2
   have hne2:base+i.at_≠base+j.at_:=by omega
   simp only[Hd.run]at s1 s2 ⊢
   split at s1
   case h_2=>simp at s1
   rename_i hk1
   simp only[Option.some.injEq]at s1;subst s1
   rw[List.getElem?_set_ne hne2]at s2
   split at s2
   case h_2=>simp at s2
   rename_i hk2
   simp only[Option.some.injEq]at s2;subst s2
   rw[hk2]
   refine⟨_,rfl,?_⟩
   rw[List.getElem?_set_ne (Ne.symm hne2),hk1]
   dsimp only
   rw[List.set_comm _ _ hne2]
  ·have hlt:=hmk (.inl hm)
   simp only[Hd.run]at s1 s2
   split at s1
   case h_2=>simp at s1
   simp only[Option.some.injEq]at s1;subst s1
   rw[List.length_set,if_neg (by omega)]at s2
   simp at s2
  ·rw[hm,hm2]at hok;simp[okPair]at hok
  ·rw[hm,hm2]at hok;simp[okPair]at hok
 ·rcases eff_heap h2 with rfl | ⟨hm2,cs2,rfl⟩ | ⟨hm2,X2,hX2,rfl⟩ | hm2 | hm2
  ·simp only[Hd.run,Option.some.injEq]at s2
   subst s2
   exact⟨H,rfl,s1⟩
  ·have hlt:=hmk (.inr hm2)
   simp only[Hd.run]at s1
   rw[if_neg (by omega)]at s1
   simp at s1
  ·simp only[Hd.run]at s1 s2
   split at s1
   case isFalse=>simp at s1
   rename_i hl
   simp only[Option.some.injEq]at s1;subst s1
   split at s2
   case isFalse=>simp at s2
   rename_i hl2
   rw[List.length_append]at hl2
   exact absurd (List.eq_nil_of_length_eq_zero (by omega)) hX
  ·rw[hm,hm2]at hok;simp[okPair]at hok
  ·rw[hm,hm2]at hok;simp[okPair]at hok
 ·rw[hm]at hok
  rcases eff_heap h2 with rfl | ⟨hm2,cs2,rfl⟩ | ⟨hm2,X2,hX2,rfl⟩ | hm2 | hm2
  ·simp only[Hd.run,Option.some.injEq]at s2
   subst s2
   exact⟨H,rfl,s1⟩
  all_goals rw[hm2]at hok;simp[okPair]at hok
 ·rw[hm]at hok
  rcases eff_heap h2 with rfl | ⟨hm2,cs2,rfl⟩ | ⟨hm2,X2,hX2,rfl⟩ | hm2 | hm2
  ·simp only[Hd.run,Option.some.injEq]at s2
   subst s2
   exact⟨H,rfl,s1⟩
  all_goals rw[hm2]at hok;simp[okPair]at hok

def Big (base:Nat)(l:List AI)(H:Heap):Prop:=base≤H.length∧∀i∈l,cls2 i= .make→base<H.length

theorem Big.mono {l l':List AI}(h:Big base l H)(hl:∀i∈l',i∈l)(hs:H.length≤H'.length):Big base l' H':=
 ⟨Nat.le_trans h.1 hs,fun i hi hm=>Nat.lt_of_lt_of_le (h.2 i (hl i hi) hm) hs⟩

theorem steps_len (hF:OrcLen C){cb:Nat}{i:AI}(h:Steps1 C lk lim ws base cb i env H env' H'):H.length≤H'.length:=by
 obtain⟨e,d,h1,_,h3⟩:=h
 exact hd_len hF h1 h3

theorem Ed.run_EqE {cb:Nat}{i:AI}{e:Ed}{d:Hd}{env1:Env}(h:eff C lk lim ws base cb i env H=some (e,d))(hr:e.run env=some env1)(he:EqE env env'):∃env1',e.run env'=some env1'∧EqE env1 env1':=by
 rcases eff_form h with⟨v,rfl,_⟩ | ⟨t,cs,cs0,rfl,_,hb,_⟩
 ·exact he.put hr
 ·simp only[Ed.run,Option.some.injEq]at hr ⊢
  subst hr
  have hb':find env' t= .box cs0:=by rw[←he.1 t];exact hb
  have f1:=find_setAt (v:=.box cs) (show find env t≠.dead by rw[hb];exact fun h=>by cases h)
  have f2:=find_setAt (v:=.box cs) (show find env' t≠.dead by rw[hb'];exact fun h=>by cases h)
  exact⟨_,rfl,fun k=>by rw[f1,f2,he.1 k],fun k=>by rw[noRp_setAt hb,noRp_setAt hb',he.2 k]⟩

theorem steps_EqE {cb:Nat}{i:AI}{env1:Env}{H1:Heap}(h:Steps1 C lk lim ws base cb i env H env1 H1)(he:EqE env env'):∃env1',Steps1 C lk lim ws base cb i env' H env1' H1∧EqE env1 env1':=by
 obtain⟨e,d,h1,h2,h3⟩:=h
 obtain⟨env1',h4,h5⟩:=Ed.run_EqE h1 h2 he
 exact⟨env1',⟨e,d,by rw[←eff_congr (he.agree i)];exact h1,h4,h3⟩,h5⟩

def cbOf (base:Nat)(r:List AI):Nat:=if r.any isCall=true then base else 0
theorem runD_cons {i:AI}{r:List AI}{env2:Env}{H2:Heap}:runD C lk lim ws base (i::r) env H=some (env2,H2)↔∃env1 H1,Steps1 C lk lim ws base (cbOf base r) i env H env1 H1∧runD C lk lim ws base r env1 H1=some (env2,H2):=by
 simp only[runD]
 constructor
 ·intro h
  split at h
  ·rename_i env1 H1 hs
   exact⟨env1,H1,stepD_iff.1 hs,h⟩
  ·simp at h
 ·rintro⟨env1,H1,hs,h⟩
  rw[show stepD C lk lim ws base (if r.any isCall=true then base else 0) i env H=some (env1,H1) from stepD_iff.2 hs]
  exact h

theorem runD_EqE:∀{l:List AI} {env env':Env} {H:Heap} {env2:Env} {H2:Heap},EqE env env'→runD C lk lim ws base l env H=some (env2,H2)→∃env2',runD C lk lim ws base l env' H=some (env2',H2)∧EqE env2 env2'
 | [],env,env',H,env2,H2,he,h=>by
  simp only[runD,Option.some.injEq,Prod.mk.injEq]at h ⊢
  obtain⟨rfl,rfl⟩:=h
  exact⟨env',⟨rfl,rfl⟩,he⟩
 | i::r,env,env',H,env2,H2,he,h=>by
  obtain⟨env1,H1,hs,hr⟩:=runD_cons.1 h
  obtain⟨env1',hs',he'⟩:=steps_EqE hs he
  obtain⟨env2',hr',he2⟩:=runD_EqE he' hr
  exact⟨env2',runD_cons.2 ⟨env1',H1,hs',hr'⟩,he2⟩

theorem cb_eq {i j:AI}{r:List AI}(hi:Indep i j)(h:cls2 j= .actH):cbOf base r=cbOf base (i::r):=by
 have:isCall i=false:=by
  unfold isCall
  rcases hi.ok with hok | hok | hok
  ·rw[h]at hok
   cases hc:cls2 i<;>rw[hc]at hok<;>simp[okPair]at hok ⊢
  ·rw[(mm_cls hok).1];rfl
  ·rw[(mm_cls hok).2];rfl
 unfold cbOf
 rw[List.any_cons,this,Bool.false_or]

theorem eff_mup {cb:Nat}{i:AI}(hm:isMup i.op=true){e:Ed}{d:Hd}(h:eff C lk lim ws base cb i env H=some (e,d)):
  (d= .same∧∀cb' H',eff C lk lim ws base cb' i env H'=some (e,.same))∨∃b es es',H[b]?=some (.map es)∧d= .to (H.set b (.map es'))∧∀cb' H',H'[b]?=some (.map es)→eff C lk lim ws base cb' i env H'=some (e,.to (H'.set b (.map es'))):=by
 have hfr:isFree i=false:=by
  unfold isFree
  cases ho:i.op<;>rw[ho]at hm<;>simp only[isMup]at hm<;>first | (cases hm;done) | simp[cls]
 unfold eff at h ⊢
 rw[hfr]at h ⊢
 cases hg:guardI i env with
 | none=>rw[hg]at h;cases h
 | some q=>
  rw[hg]at h
  cases q with
  | false=>
   simp only[Option.some.injEq,Prod.mk.injEq]at h
   exact .inl ⟨h.2.symm,fun _ _=>by rw[h.1]⟩
  | true=>
   dsimp only at h ⊢
   by_cases hok:okT ws i env=true
   case neg=>rw[if_neg hok]at h;cases h
   rw[if_pos hok]at h
   simp only[hok,Bool.false_eq_true,if_false,if_true]at h ⊢
   cases ho:i.op<;>rw[ho]at hm<;>simp only[isMup]at hm<;>try (cases hm;done)
   rename_i ag ks m k v
   rw[ho]at h
   unfold effA at h ⊢
   simp only[cls,exE]at h ⊢
   cases hv:ev env m<;>rw[hv]at h<;>dsimp only at h<;>try (cases h;done)
   rename_i b
   cases hb:H[b]? with
   | none=>rw[hb]at h;cases h
   | some x=>
    rw[hb]at h
    cases x<;>dsimp only at h<;>try (cases h;done)
    rename_i es
    split at h
    case h_2=>cases h
    rename_i e2 H2 hx
    split at hx
    case isFalse=>cases hx
    rename_i hc
    split at hx
    case h_2=>cases hx
    rename_i es' hes
    simp only[Option.some.injEq,Prod.mk.injEq]at h hx
    obtain⟨rfl,rfl⟩:=hx
    obtain⟨rfl,rfl⟩:=h
    refine .inr ⟨b,es,es',hb,rfl,fun cb' H' hb'=>?_⟩
    simp only[hb',if_pos hc,hes]
theorem eff_mk {cb:Nat}{i:AI}(hm:isMk i.op=true){e:Ed}{d:Hd}(h:eff C lk lim ws base cb i env H=some (e,d)):
  (∀cb' H',eff C lk lim ws base cb' i env H'=some (e,d))∧(d= .same∨∃cs,d= .fill (base+i.at_) (.cells cs)):=by
 have hfr:isFree i=false:=by
  unfold isFree
  cases ho:i.op<;>rw[ho]at hm<;>simp only[isMk]at hm<;>first | (cases hm;done) | simp[cls]
 have hc:cls i.op= .make:=by
  cases ho:i.op<;>rw[ho]at hm<;>simp only[isMk]at hm<;>first | (cases hm;done) | rfl
 unfold eff at h ⊢
 rw[hfr]at h ⊢
 cases hg:guardI i env with
 | none=>rw[hg]at h;cases h
 | some q=>
  rw[hg]at h
  cases q with
  | false=>
   simp only[Option.some.injEq,Prod.mk.injEq]at h
   exact⟨fun _ _=>by rw[h.1,h.2],.inl h.2.symm⟩
  | true=>
   dsimp only at h ⊢
   by_cases hok:okT ws i env=true
   case neg=>rw[if_neg hok]at h;cases h
   rw[if_pos hok]at h
   simp only[hok,Bool.false_eq_true,if_false,if_true]at h ⊢
   unfold effA at h ⊢
   rw[hc]at h ⊢
   dsimp only at h ⊢
   cases hk:mkOp i.op env (base+i.at_) with
   | none=>rw[hk]at h;cases h
   | some p=>
    obtain⟨v,x⟩:=p
    rw[hk]at h
    simp only[Option.some.injEq,Prod.mk.injEq]at h
    refine⟨fun _ _=>by dsimp only;rw[h.1,h.2],.inr ?_⟩
    rw[←h.2]
    suffices hx:∃cs,x= .cells cs by
     obtain⟨cs,rfl⟩:=hx;exact⟨cs,rfl⟩
    cases ho:i.op<;>rw[ho]at hm hk<;>simp only[isMk]at hm<;>try (cases hm;done)
    case allocH z=>simp only[mkOp,Option.some.injEq,Prod.mk.injEq]at hk;exact⟨_,hk.2.symm⟩
    case boxH n x=>
     simp only[mkOp]at hk
     split at hk
     ·split at hk
      ·simp only[Option.some.injEq,Prod.mk.injEq]at hk;exact⟨_,hk.2.symm⟩
      ·cases hk
     ·cases hk
    case buildH n es z l=>
     simp only[mkOp]at hk
     split at hk
     ·split at hk
      ·simp only[Option.some.injEq,Prod.mk.injEq]at hk;exact⟨_,hk.2.symm⟩
      ·cases hk
     ·cases hk
    case mks es bytes z x=>
     simp only[mkOp]at hk
     split at hk
     ·split at hk
      ·simp only[Option.some.injEq,Prod.mk.injEq]at hk;exact⟨_,hk.2.symm⟩
      ·cases hk
     ·cases hk
theorem mm_swap {i j:AI}(hm:isMup i.op=true)(hk:isMk j.op=true){ca cc:Nat}{envi envj:Env}{e1 e2:Ed}{d1 d2:Hd}{H1 H2:Heap}
  (h1:eff C lk lim ws base ca i envi H=some (e1,d1)) (s1:d1.run base H=some H1) (h2:eff C lk lim ws base cc j envj H1=some (e2,d2)) (s2:d2.run base H1=some H2):
  ∃d1' H1',(∀cb',eff C lk lim ws base cb' j envj H=some (e2,d2))∧d2.run base H=some H1'∧(∀cb',eff C lk lim ws base cb' i envi H1'=some (e1,d1'))∧d1'.run base H1'=some H2:=by
 obtain⟨m1,m2⟩:=eff_mk hk h2
 rcases eff_mup hm h1 with⟨rfl,p1⟩ | ⟨b,es,es',p0,rfl,p1⟩
 ·simp only[Hd.run,Option.some.injEq]at s1
  subst s1
  exact⟨.same,H2,fun _=>m1 _ _,s2,fun _=>p1 _ _,rfl⟩
 ·simp only[Hd.run,Option.some.injEq]at s1
  subst s1
  rcases m2 with rfl | ⟨cs,rfl⟩
  ·simp only[Hd.run,Option.some.injEq]at s2
   subst s2
   exact⟨_,H,fun _=>m1 _ _,rfl,fun _=>p1 _ _ p0,rfl⟩
  ·have hlt:b<H.length:=by
    rcases Nat.lt_or_ge b H.length with h | h
    ·exact h
    ·rw[List.getElem?_eq_none h]at p0;cases p0
   simp only[Hd.run]at s2
   by_cases hbk:b=base+j.at_
   ·subst hbk
    rw[List.getElem?_set_self hlt]at s2
    cases s2
   ·rw[List.getElem?_set_ne hbk]at s2
    cases hh:H[base+j.at_]? with
    | none=>rw[hh]at s2;cases s2
    | some x=>
     rw[hh]at s2
     cases x<;>dsimp only at s2<;>try (cases s2;done)
     simp only[Option.some.injEq]at s2
     subst s2
     refine⟨_,H.set (base+j.at_) (.cells cs),fun _=>m1 _ _,by simp only[Hd.run,hh],fun _=>p1 _ _ (by rw[List.getElem?_set_ne (Ne.symm hbk)];exact p0),?_⟩
     simp only[Hd.run]
     rw[List.set_comm _ _ (Ne.symm hbk)]
theorem mm_swap' {i j:AI}(hm:isMup j.op=true)(hk:isMk i.op=true){ca cc:Nat}{envi envj:Env}{e1 e2:Ed}{d1 d2:Hd}{H1 H2:Heap}
  (h1:eff C lk lim ws base ca i envi H=some (e1,d1)) (s1:d1.run base H=some H1) (h2:eff C lk lim ws base cc j envj H1=some (e2,d2)) (s2:d2.run base H1=some H2):
  ∃d2' H1',(∀cb',eff C lk lim ws base cb' j envj H=some (e2,d2'))∧d2'.run base H=some H1'∧(∀cb',eff C lk lim ws base cb' i envi H1'=some (e1,d1))∧d1.run base H1'=some H2:=by
 obtain⟨m1,m2⟩:=eff_mk hk h1
 rcases eff_mup hm h2 with⟨rfl,p1⟩ | ⟨b,es,es',p0,rfl,p1⟩
 ·simp only[Hd.run,Option.some.injEq]at s2
  subst s2
  exact⟨.same,H,fun _=>p1 _ _,rfl,fun _=>m1 _ _,s1⟩
 ·simp only[Hd.run,Option.some.injEq]at s2
  subst s2
  rcases m2 with rfl | ⟨cs,rfl⟩
  ·simp only[Hd.run,Option.some.injEq]at s1
   subst s1
   exact⟨_,_,fun _=>p1 _ _ p0,rfl,fun _=>m1 _ _,rfl⟩
  ·simp only[Hd.run]at s1
   cases hh:H[base+i.at_]? with
   | none=>rw[hh]at s1;cases s1
   | some x=>
    rw[hh]at s1
    cases x<;>dsimp only at s1<;>try (cases s1;done)
    simp only[Option.some.injEq]at s1
    subst s1
    have hlt:base+i.at_<H.length:=by
     rcases Nat.lt_or_ge (base+i.at_) H.length with h | h
     ·exact h
     ·rw[List.getElem?_eq_none h]at hh;cases hh
    by_cases hbk:b=base+i.at_
    ·subst hbk
     rw[List.getElem?_set_self hlt]at p0
     cases p0
    ·rw[List.getElem?_set_ne (Ne.symm hbk)]at p0
     refine⟨_,_,fun _=>p1 _ _ p0,rfl,fun _=>m1 _ _,?_⟩
     simp only[Hd.run]
     rw[List.getElem?_set_ne hbk,hh]
     dsimp only
     rw[List.set_comm _ _ hbk]

theorem setH_set {lk lim base:Nat}{H:Heap}{b k:Nat}{cs new:List AV}{x:HB}(hb:b≠k):setH lk lim base (H.set k x) b cs new=(setH lk lim base H b cs new).map (·.set k x):=by
 unfold setH
 split
 ·simp only[Option.map_some];rw[List.set_comm _ _ (Ne.symm hb)]
 ·rfl
theorem setH_get {lk lim base:Nat}{H H':Heap}{b k:Nat}{cs new:List AV}(hb:b≠k)(h:setH lk lim base H b cs new=some H'):H'[k]?=H[k]?:=by
 unfold setH at h
 split at h
 ·simp only[Option.some.injEq]at h;subst h;rw[List.getElem?_set_ne hb]
 ·cases h
theorem slCells_set {H:Heap}{k:Nat}{es:List (AV×AV)}(hk:H[k]?=some .hole)(v:AV):slCells (H.set k (.map es)) v=slCells H v:=by
 have hlt:k<H.length:=(List.getElem?_eq_some_iff.1 hk).1
 cases v<;>try rfl
 rename_i b g off n e
 simp only[slCells]
 by_cases hb:b=k
 ·subst hb;rw[List.getElem?_set_self hlt,hk]
 ·rw[List.getElem?_set_ne (Ne.symm hb)]
theorem srcCells_set {H:Heap}{k:Nat}{es:List (AV×AV)}(hk:H[k]?=some .hole)(v:AV):srcCells (H.set k (.map es)) v=srcCells H v:=by
 unfold srcCells
 split
 ·rfl
 ·rw[slCells_set hk]
theorem exE_set {lk lim cb:Nat}{dst:Option Nat}{op:AOp}{env:Env}{H:Heap}{k:Nat}{es:List (AV×AV)}(hm:isSa op=true)(hk:H[k]?=some .hole):
  exE lk lim cb dst op env (H.set k (.map es))=(exE lk lim cb dst op env H).map (fun p=>(p.1,p.2.set k (.map es)))∧∀p,exE lk lim cb dst op env H=some p→p.2[k]?=some .hole:=by
 have hlt:k<H.length:=(List.getElem?_eq_some_iff.1 hk).1
 cases op<;>try (cases hm;done)
 case st l n a x=>
  cases l with
  | some t=>cases hm
  | none=>
   simp only[exE]
   cases cellsV (ev env x) with
   | none=>exact⟨rfl,fun p h=>by cases h⟩
   | some new=>
    dsimp only
    split
    case isFalse=>exact⟨rfl,fun p h=>by cases h⟩
    cases ev env a<;>try exact⟨rfl,fun p h=>by cases h⟩
    rename_i b g off
    dsimp only
    by_cases hb:b=k
    ·subst hb
     rw[List.getElem?_set_self hlt,hk]
     exact⟨rfl,fun p h=>by cases h⟩
    ·rw[List.getElem?_set_ne (Ne.symm hb)]
     cases hH:H[b]? with
     | none=>exact⟨rfl,fun p h=>by cases h⟩
     | some y=>
      cases y with
      | hole=>exact⟨rfl,fun p h=>by cases h⟩
      | map es=>exact⟨rfl,fun p h=>by cases h⟩
      | cells cs=>
       dsimp only
       split
       case isFalse=>exact⟨rfl,fun p h=>by cases h⟩
       rw[setH_set hb]
       cases hs:setH lk lim cb H b (replaceAt cs off new) new with
       | none=>exact⟨rfl,fun p h=>by cases h⟩
       | some H'=>exact⟨rfl,fun p h=>by cases h;rw[←hk];exact setH_get hb hs⟩
 case app es' bytes x y=>
  simp only[exE]
  rw[srcCells_set hk]
  cases srcCells H (ev env y) with
  | none=>exact⟨rfl,fun p h=>by cases h⟩
  | some q=>
   obtain⟨m,new⟩:=q
   dsimp only
   split
   case isFalse=>exact⟨rfl,fun p h=>by cases h⟩
   cases ev env x<;>try exact⟨rfl,fun p h=>by cases h⟩
   case e0=>
    dsimp only
    split
    ·exact⟨rfl,fun p h=>by cases h;exact hk⟩
    ·split
     ·refine⟨?_,fun p h=>by cases h;rw[List.getElem?_append_left hlt];exact hk⟩
      simp only[Option.map_some,List.length_set]
      rw[List.set_append_left _ _ hlt]
     ·exact⟨rfl,fun p h=>by cases h⟩
   case hs b g off n e=>
    dsimp only
    by_cases hb:b=k
    ·subst hb
     rw[List.getElem?_set_self hlt,hk]
     exact⟨rfl,fun p h=>by cases h⟩
    ·rw[List.getElem?_set_ne (Ne.symm hb)]
     cases hH:H[b]? with
     | none=>exact⟨rfl,fun p h=>by cases h⟩
     | some y=>
      cases y with
      | hole=>exact⟨rfl,fun p h=>by cases h⟩
      | map es=>exact⟨rfl,fun p h=>by cases h⟩
      | cells cs=>
       dsimp only
       split
       case isFalse=>exact⟨rfl,fun p h=>by cases h⟩
       rw[setH_set hb]
       cases hs:setH lk lim cb H b (appC (off+n*es') g cs new) new with
       | none=>exact⟨rfl,fun p h=>by cases h⟩
       | some H'=>exact⟨rfl,fun p h=>by cases h;rw[←hk];exact setH_get hb hs⟩

theorem setH_hole {lk lim base:Nat}{H H':Heap}{b k:Nat}{cs new:List AV}{y:HB}(hb:H[b]?=some y)(h:setH lk lim base H b cs new=some H')(hk:H'[k]?=some .hole):H[k]?=some .hole:=by
 by_cases hbk:b=k
 ·subst hbk
  unfold setH at h
  split at h
  ·simp only[Option.some.injEq]at h;subst h
   rw[List.getElem?_set_self (List.getElem?_eq_some_iff.1 hb).1]at hk;cases hk
  ·cases h
 ·rw[←setH_get hbk h];exact hk
theorem sa_hole {lk lim cb:Nat}{dst:Option Nat}{op:AOp}{env:Env}{H:Heap}{k:Nat}{p:Ed×Heap}(hm:isSa op=true)(h:exE lk lim cb dst op env H=some p)(hk:p.2[k]?=some .hole):H[k]?=some .hole:=by
 cases op<;>try (cases hm;done)
 case st l n a x=>
  cases l with
  | some t=>cases hm
  | none=>
   simp only[exE]at h
   cases hc:cellsV (ev env x) with
   | none=>rw[hc]at h;cases h
   | some new=>
    rw[hc]at h
    dsimp only at h
    split at h
    case isFalse=>cases h
    cases ha:ev env a<;>rw[ha]at h<;>dsimp only at h<;>try (cases h;done)
    rename_i b g off
    cases hH:H[b]? with
    | none=>rw[hH]at h;cases h
    | some y=>
     rw[hH]at h
     cases y<;>dsimp only at h<;>try (cases h;done)
     split at h
     case isFalse=>cases h
     split at h
     case h_2=>cases h
     rename_i H' hs
     cases h
     exact setH_hole hH hs hk
 case app es' bytes x y=>
  simp only[exE]at h
  cases hc:srcCells H (ev env y) with
  | none=>rw[hc]at h;cases h
  | some q=>
   obtain⟨m,new⟩:=q
   rw[hc]at h
   dsimp only at h
   split at h
   case isFalse=>cases h
   cases ha:ev env x<;>rw[ha]at h<;>dsimp only at h<;>try (cases h;done)
   case e0=>
    split at h
    ·cases h;exact hk
    ·split at h
     ·cases h
      by_cases hlt:k<H.length
      ·rwa [List.getElem?_append_left hlt]at hk
      ·rw[List.getElem?_append_right (by omega)]at hk
       cases hq:k-H.length with
       | zero=>rw[hq]at hk;cases hk
       | succ n=>rw[hq]at hk;cases hk
     ·cases h
   case hs b g off n e=>
    cases hH:H[b]? with
    | none=>rw[hH]at h;cases h
    | some y=>
     rw[hH]at h
     cases y<;>dsimp only at h<;>try (cases h;done)
     split at h
     case isFalse=>cases h
     split at h
     case h_2=>cases h
     rename_i H' hs
     cases h
     exact setH_hole hH hs hk

theorem sa_cls {op:AOp}(h:isSa op=true):cls op= .actH:=by
 cases op<;>try (cases h;done)
 case st l n a x=>cases l with
  | some t=>cases h
  | none=>rfl
 case app=>rfl
theorem eff_sa {cb:Nat}{i:AI}(hm:isSa i.op=true):eff C lk lim ws base cb i env H=match guardI i env with
  | some true=>if okT ws i env=true then (exE lk lim cb i.dst i.op env H).map (fun p=>(p.1,.to p.2)) else none
  | some false=>some (.put i.dst .und,.same)
  | none=>none:=by
 have hc:=sa_cls hm
 have hfr:isFree i=false:=by unfold isFree;rw[hc];simp
 unfold eff
 rw[hfr]
 cases guardI i env with
 | none=>rfl
 | some q=>cases q with
  | false=>rfl
  | true=>
   dsimp only
   split
   ·simp only[Bool.false_eq_true,if_false]
    unfold effA
    rw[hc]
    dsimp only
    cases exE lk lim cb i.dst i.op env H<;>rfl
   ·rfl
theorem eff_mm {cb:Nat}{i:AI}(hm:isMm i.op=true){e:Ed}{d:Hd}(h:eff C lk lim ws base cb i env H=some (e,d)):
  (∀cb' H',eff C lk lim ws base cb' i env H'=some (e,d))∧(d= .same∨d= .fill (base+i.at_) (.map [])):=by
 have ho:i.op= .mkm:=by
  cases ho:i.op<;>rw[ho]at hm<;>simp only[isMm]at hm<;>first | rfl | cases hm
 have hfr:isFree i=false:=by unfold isFree;rw[ho];simp[cls]
 have hc:cls i.op= .make:=by rw[ho];rfl
 unfold eff at h ⊢
 rw[hfr]at h ⊢
 cases hg:guardI i env with
 | none=>rw[hg]at h;cases h
 | some q=>
  rw[hg]at h
  cases q with
  | false=>
   simp only[Option.some.injEq,Prod.mk.injEq]at h
   exact⟨fun _ _=>by rw[h.1,h.2],.inl h.2.symm⟩
  | true=>
   dsimp only at h ⊢
   by_cases hok:okT ws i env=true
   case neg=>rw[if_neg hok]at h;cases h
   rw[if_pos hok]at h
   simp only[hok,Bool.false_eq_true,if_false,if_true]at h ⊢
   unfold effA at h ⊢
   rw[hc]at h ⊢
   dsimp only at h ⊢
   rw[ho]at h ⊢
   simp only[mkOp,Option.some.injEq,Prod.mk.injEq]at h ⊢
   exact⟨fun _ _=>⟨h.1,h.2⟩,.inr h.2.symm⟩
theorem sa_swap {i j:AI}(hm:isSa i.op=true)(hk:isMm j.op=true){ca cc:Nat}{envi envj:Env}{e1 e2:Ed}{d1 d2:Hd}{H1 H2:Heap}
  (h1:eff C lk lim ws base ca i envi H=some (e1,d1)) (s1:d1.run base H=some H1) (h2:eff C lk lim ws base cc j envj H1=some (e2,d2)) (s2:d2.run base H1=some H2):
  ∃d1' H1',(∀cb',eff C lk lim ws base cb' j envj H=some (e2,d2))∧d2.run base H=some H1'∧eff C lk lim ws base ca i envi H1'=some (e1,d1')∧d1'.run base H1'=some H2:=by
 obtain⟨m1,m2⟩:=eff_mm hk h2
 have h1':=h1
 rw[eff_sa hm]at h1
 rcases m2 with rfl | rfl
 ·simp only[Hd.run,Option.some.injEq]at s2
  subst s2
  exact⟨d1,H,fun _=>m1 _ _,rfl,h1',s1⟩
 ·simp only[Hd.run]at s2
  cases hg:guardI i envi with
  | none=>rw[hg]at h1;cases h1
  | some q=>
   rw[hg]at h1
   cases q with
   | false=>
    simp only[Option.some.injEq,Prod.mk.injEq]at h1
    obtain⟨rfl,rfl⟩:=h1
    simp only[Hd.run,Option.some.injEq]at s1
    subst s1
    exact⟨.same,H2,fun _=>m1 _ _,s2,by rw[eff_sa hm,hg],rfl⟩
   | true=>
    dsimp only at h1
    by_cases hok:okT ws i envi=true
    case neg=>rw[if_neg hok]at h1;cases h1
    rw[if_pos hok]at h1
    cases hx:exE lk lim ca i.dst i.op envi H with
    | none=>rw[hx]at h1;cases h1
    | some p=>
     rw[hx]at h1
     simp only[Option.map_some,Option.some.injEq,Prod.mk.injEq]at h1
     obtain⟨rfl,rfl⟩:=h1
     simp only[Hd.run,Option.some.injEq]at s1
     subst s1
     have hHk:H[base+j.at_]?=some .hole:=by
      cases hq:p.2[base+j.at_]? with
      | none=>rw[hq]at s2;cases s2
      | some y=>
       rw[hq]at s2
       cases y<;>dsimp only at s2<;>try (cases s2;done)
       exact sa_hole hm hx hq
     obtain⟨x1,x2⟩:=exE_set (lk:=lk) (lim:=lim) (cb:=ca) (dst:=i.dst) (env:=envi) (es:=[]) hm hHk
     rw[x2 p hx]at s2
     simp only[Option.some.injEq]at s2
     subst s2
     refine⟨.to (p.2.set (base+j.at_) (.map [])),H.set (base+j.at_) (.map []),fun _=>m1 _ _,by simp only[Hd.run,hHk],?_,rfl⟩
     rw[eff_sa hm,hg]
     dsimp only
     rw[if_pos hok,x1,hx]
     rfl
theorem sa_swap' {i j:AI}(hm:isSa j.op=true)(hk:isMm i.op=true){ca cc:Nat}{envi envj:Env}{e1 e2:Ed}{d1 d2:Hd}{H1 H2:Heap}
  (h1:eff C lk lim ws base ca i envi H=some (e1,d1)) (s1:d1.run base H=some H1) (h2:eff C lk lim ws base cc j envj H1=some (e2,d2)) (s2:d2.run base H1=some H2):
  ∃d2' H1',eff C lk lim ws base cc j envj H=some (e2,d2')∧d2'.run base H=some H1'∧(∀cb',eff C lk lim ws base cb' i envi H1'=some (e1,d1))∧d1.run base H1'=some H2:=by
 obtain⟨m1,m2⟩:=eff_mm hk h1
 have h2':=h2
 rw[eff_sa hm]at h2
 rcases m2 with rfl | rfl
 ·simp only[Hd.run,Option.some.injEq]at s1
  subst s1
  exact⟨d2,H2,h2',s2,fun _=>m1 _ _,rfl⟩
 ·simp only[Hd.run]at s1
  cases hh:H[base+i.at_]? with
  | none=>rw[hh]at s1;cases s1
  | some x=>
   rw[hh]at s1
   cases x<;>dsimp only at s1<;>try (cases s1;done)
   simp only[Option.some.injEq]at s1
   subst s1
   cases hg:guardI j envj with
   | none=>rw[hg]at h2;cases h2
   | some q=>
    rw[hg]at h2
    cases q with
    | false=>
     simp only[Option.some.injEq,Prod.mk.injEq]at h2
     obtain⟨rfl,rfl⟩:=h2
     simp only[Hd.run,Option.some.injEq]at s2
     subst s2
     exact⟨.same,H,by rw[eff_sa hm,hg],rfl,fun _=>m1 _ _,by simp only[Hd.run,hh]⟩
    | true=>
     dsimp only at h2
     by_cases hok:okT ws j envj=true
     case neg=>rw[if_neg hok]at h2;cases h2
     rw[if_pos hok]at h2
     obtain⟨x1,x2⟩:=exE_set (lk:=lk) (lim:=lim) (cb:=cc) (dst:=j.dst) (env:=envj) (es:=[]) hm hh
     rw[x1]at h2
     cases hx:exE lk lim cc j.dst j.op envj H with
     | none=>rw[hx]at h2;cases h2
     | some p=>
      rw[hx]at h2
      simp only[Option.map_some,Option.some.injEq,Prod.mk.injEq]at h2
      obtain⟨rfl,rfl⟩:=h2
      simp only[Hd.run,Option.some.injEq]at s2
      subst s2
      refine⟨.to p.2,p.2,?_,rfl,fun _=>m1 _ _,by simp only[Hd.run,x2 p hx]⟩
      rw[eff_sa hm,hg]
      dsimp only
      rw[if_pos hok,hx]
      rfl

theorem runD_swap {i j:AI}{r:List AI}{env2:Env}{H2:Heap}(hi:Indep i j)(hb:Big base (i::j::r) H)(h:runD C lk lim ws base (i::j::r) env H=some (env2,H2)):∃env2',runD C lk lim ws base (j::i::r) env H=some (env2',H2)∧EqE env2 env2':=by
 obtain⟨env1,H1,⟨e1,d1,h1,r1,s1⟩,h⟩:=runD_cons.1 h
 obtain⟨envm,Hm',⟨e2,d2,h2,r2,s2⟩,h⟩:=runD_cons.1 h
 have ag:Agree j env env1:=agree_eff hi h1 r1
 by_cases hok:okPair (cls2 i) (cls2 j)=true
 case neg=>
  have h2a:eff C lk lim ws base (cbOf base r) j env H1=some (e2,d2):=by rw[eff_congr ag];exact h2
  rcases hi.ok.resolve_left hok with hm | hm
  all_goals unfold mmPair at hm;rw[Bool.or_eq_true,Bool.and_eq_true,Bool.and_eq_true]at hm;rcases hm with hm | hm
  ·obtain⟨d1',H1',q1,q2,q3,q4⟩:=mm_swap hm.1 hm.2 h1 s1 h2a s2
   obtain⟨env1',envm',r2',r1',heq⟩:=edits_swap hi h1 r1 (q1 (cbOf base (i::r))) r2
   have ag':Agree i env env1':=agree_eff hi.symm (q1 (cbOf base (i::r))) r2'
   obtain⟨env2',h',he2⟩:=runD_EqE heq h
   exact⟨env2',runD_cons.2 ⟨env1',H1',⟨e2,d2,q1 _,r2',q2⟩,runD_cons.2 ⟨envm',Hm',⟨e1,d1',by rw[←eff_congr ag'];exact q3 _,r1',q4⟩,h'⟩⟩,he2⟩
  ·have hcb:cbOf base r=cbOf base (j::r):=cb_eq hi.symm (sa_cls2 hm.1)
   rw[←hcb]at h1
   obtain⟨d1',H1',q1,q2,q3,q4⟩:=sa_swap hm.1 hm.2 h1 s1 h2a s2
   obtain⟨env1',envm',r2',r1',heq⟩:=edits_swap hi h1 r1 (q1 (cbOf base (i::r))) r2
   have ag':Agree i env env1':=agree_eff hi.symm (q1 (cbOf base (i::r))) r2'
   obtain⟨env2',h',he2⟩:=runD_EqE heq h
   exact⟨env2',runD_cons.2 ⟨env1',H1',⟨e2,d2,q1 _,r2',q2⟩,runD_cons.2 ⟨envm',Hm',⟨e1,d1',by rw[←eff_congr ag'];exact q3,r1',q4⟩,h'⟩⟩,he2⟩
  ·obtain⟨d2',H1',q1,q2,q3,q4⟩:=mm_swap' hm.1 hm.2 h1 s1 h2a s2
   obtain⟨env1',envm',r2',r1',heq⟩:=edits_swap hi h1 r1 (q1 (cbOf base (i::r))) r2
   have ag':Agree i env env1':=agree_eff hi.symm (q1 (cbOf base (i::r))) r2'
   obtain⟨env2',h',he2⟩:=runD_EqE heq h
   exact⟨env2',runD_cons.2 ⟨env1',H1',⟨e2,d2',q1 _,r2',q2⟩,runD_cons.2 ⟨envm',Hm',⟨e1,d1,by rw[←eff_congr ag'];exact q3 _,r1',q4⟩,h'⟩⟩,he2⟩
  ·have hcb:cbOf base r=cbOf base (i::r):=cb_eq hi (sa_cls2 hm.1)
   rw[hcb]at h2a
   obtain⟨d2',H1',q1,q2,q3,q4⟩:=sa_swap' hm.1 hm.2 h1 s1 h2a s2
   obtain⟨env1',envm',r2',r1',heq⟩:=edits_swap hi h1 r1 q1 r2
   have ag':Agree i env env1':=agree_eff hi.symm q1 r2'
   obtain⟨env2',h',he2⟩:=runD_EqE heq h
   exact⟨env2',runD_cons.2 ⟨env1',H1',⟨e2,d2',q1,r2',q2⟩,runD_cons.2 ⟨envm',Hm',⟨e1,d1,by rw[←eff_congr ag'];exact q3 _,r1',q4⟩,h'⟩⟩,he2⟩
 have h2':eff C lk lim ws base (cbOf base (i::r)) j env H=some (e2,d2):=by
  rw[←eff_after (env:=env) hi hok hb.1 h1 s1 (fun hj=>cb_eq hi hj),eff_congr ag]
  exact h2
 obtain⟨env1',envm',r2',r1',heq⟩:=edits_swap hi h1 r1 h2' r2
 obtain⟨H1',s2',s1'⟩:=heaps_swap hi hok (fun h=>by
  rcases h with h | h
  ·exact hb.2 i (by simp) h
  ·exact hb.2 j (by simp) h) h1 s1 h2 s2
 have ag':Agree i env env1':=agree_eff hi.symm h2' r2'
 have h1':eff C lk lim ws base (cbOf base r) i env1' H1'=some (e1,d1):=by
  rw[eff_after (cc':=cbOf base (j::r)) (env:=env1') hi.symm (by rw[okPair_symm];exact hok) hb.1 h2' s2' (fun hj=>cb_eq hi.symm hj),←eff_congr ag']
  exact h1
 obtain⟨env2',h',he2⟩:=runD_EqE heq h
 exact⟨env2',runD_cons.2 ⟨env1',H1',⟨e2,d2,h2',r2',s2'⟩,runD_cons.2 ⟨envm',Hm',⟨e1,d1,h1',r1',s1'⟩,h'⟩⟩,he2⟩

theorem cbOf_front {i:AI}(pre post:List AI):cbOf base (pre++i::post)=cbOf base (i::(pre++post)):=by
 unfold cbOf
 have:(pre++i::post).any isCall=(i::(pre++post)).any isCall:=by
  simp only[List.any_append,List.any_cons]
  cases isCall i<;>simp
 rw[this]

theorem runD_front (hF:OrcLen C){i:AI}{post:List AI}:∀{pre:List AI} {env:Env} {H:Heap} {env2:Env} {H2:Heap},(∀p∈pre,Indep p i)→Big base (pre++i::post) H→runD C lk lim ws base (pre++i::post) env H=some (env2,H2)→
  ∃env2',runD C lk lim ws base (i::(pre++post)) env H=some (env2',H2)∧EqE env2 env2'
 | [],env,H,env2,H2,_,_,h=>⟨env2,h,EqE.refl _⟩
 | p::pre,env,H,env2,H2,hp,hb,h=>by
  obtain⟨env1,H1,hs,h⟩:=runD_cons.1 h
  obtain⟨env2',h',he⟩:=runD_front hF (pre:=pre) (fun q hq=>hp q (List.mem_cons_of_mem _ hq)) (hb.mono (fun q hq=>List.mem_cons_of_mem _ hq) (steps_len hF hs)) h
  rw[show cbOf base (pre.append (i::post))=cbOf base (i::(pre++post)) from cbOf_front pre post]at hs
  have hb':Big base (p::i::(pre++post)) H:=hb.mono (fun q hq=>by simp at hq ⊢;rcases hq with h | h | h | h<;>simp[h]) (Nat.le_refl _)
  obtain⟨env3,h3,he3⟩:=runD_swap (hp p (by simp)) hb' (runD_cons.2 ⟨env1,H1,hs,h'⟩)
  exact⟨env3,h3,he.trans he3⟩
end
end Go.Hm

namespace Go.Hm
open Go Go.RowKit

def Cl (n:Nat)(H:Heap):Prop:=∀(b:Nat) cs,b<n→H[b]?=some (.cells cs)→belowL n cs=true

structure OrcFr (C:Orc):Prop where
 len:∀lk lim f as H r H',C lk lim f as H=some (r,H')→H.length≤H'.length
 lock:∀lk lim f as H r H',C lk lim f as H=some (r,H')→lk≤H.length→∀b,b<lk→H'[b]?=H[b]?
 cl:∀lk lim f as H r H',C lk lim f as H=some (r,H')→∀m,m≤lim→m≤H.length→Cl m H→Cl m H'

theorem belowL_append {n:Nat}{a b:List AV}:belowL n (a++b)=(belowL n a&&belowL n b):=by
 induction a with
 | nil=>simp[belowL]
 | cons x r ih=>simp[belowL,ih,Bool.and_assoc]
theorem belowL_sub {n:Nat}{a b:List AV}(h:∀x∈a,x∈b)(hb:belowL n b=true):belowL n a=true:=belowL_iff.2 fun x hx=>belowL_iff.1 hb x (h x hx)
theorem belowL_replaceAt {n off:Nat}{cs new:List AV}(hc:belowL n cs=true)(hn:belowL n new=true):belowL n (replaceAt cs off new)=true:=by
 unfold replaceAt
 rw[belowL_append,belowL_append,hn,belowL_sub (fun x hx=>List.mem_of_mem_take hx) hc,belowL_sub (fun x hx=>List.mem_of_mem_drop hx) hc]
 rfl

theorem belowL_appC {n e g:Nat}{cs new:List AV}(hc:belowL n cs=true)(hn:belowL n new=true):belowL n (appC e g cs new)=true:=by
 unfold appC
 split
 ·rw[belowL_append,hc,hn];rfl
 ·exact belowL_replaceAt hc hn
theorem take_get {H:Heap}{n b:Nat}{x:HB}(h:(H.take n)[b]?=some x):b<n∧H[b]?=some x:=by
 rw[List.getElem?_take]at h
 split at h
 ·exact⟨‹_›,h⟩
 ·simp at h

section
variable {φ:Phi}{F:Nat→Nat→Prop}{H H':Heap}{w:World}{β:Nat→Nat}{env:Env}

theorem VRel.shrink {n:Nat}{a:AV}{v:Value}(h:VRel φ F H w a v)(hb:Hm.below n a=true):VRel φ F (H.take n) w a v:=by
 induction h with
 | one h=>exact .one (h.shrink hb)
 | agg cs vs h=>exact .agg cs vs ⟨h.1,fun i a v ha hv=>(h.2 i a v ha hv).shrink (belowL_get (by simpa[Hm.below] using hb) ha)⟩
 | tup as vs hl _ ih=>exact .tup as vs hl fun i a v ha hv=>ih i a v ha hv (belowL_get (by simpa[Hm.below] using hb) ha)

theorem SR.take {n:Nat}(sr:SR φ F H w)(hc:Cl n H):SR φ F (H.take n) w:=by
 have lv:∀b,live (H.take n) b→live H b:=fun b ⟨cs,h1,h2⟩=>⟨cs,(take_get h1).2,h2⟩
 refine⟨fun b cs hb hne=>?_,fun b es hb=>?_,fun b b' h1 h2=>sr.inj b b' (lv b h1) (lv b' h2),fun b o h=>sr.phiF b o (lv b h),sr.fsz⟩
 ·obtain⟨hlt,hb⟩:=take_get hb
  obtain⟨arr,ty,ha,hr⟩:=sr.blk b cs hb hne
  refine⟨arr,ty,ha,fun i a hi=>?_⟩
  obtain⟨v,hv,hrel⟩:=hr i a hi
  exact⟨v,hv,hrel.shrink (belowL_get (hc b cs hlt hb) hi)⟩
 ·obtain⟨hlt,hb⟩:=take_get hb
  obtain⟨ces,clk,ha,es0,hep,hm1,hm2,hm3⟩:=sr.mblk b es hb
  refine⟨ces,clk,ha,es0,hep,hm1,fun i k v hi=>?_,hm3⟩
  obtain⟨h1,h2,e,h3,h4,h5⟩:=hm2 i k v hi
  exact⟨h1,h2,e,h3,h4.shrink (below_mono (Nat.zero_le _) _ h1),h5.shrink (below_mono (Nat.zero_le _) _ h2)⟩

theorem SR.cl (sr:SR φ F H w):Cl H.length H:=fun b cs _ hb=>by
 by_cases hne:cs=[]
 ·subst hne;rfl
 ·obtain⟨arr,ty,ha,hr⟩:=sr.blk b cs hb hne
  exact belowL_of_get fun i a hi=>by
   obtain⟨v,_,hrel⟩:=hr i a hi
   exact hrel.refs

theorem ptr_take {n:Nat}{l:Option Nat}{a:AV}{r:List AV×Nat}(h:ptrCells l env (H.take n) a=some r):ptrCells l env H a=some r:=by
 cases l with
 | some t=>exact h
 | none=>
  cases a<;>simp only[ptrCells]at h ⊢<;>try exact h
  rename_i b g off
  split at h
  ·rename_i cs hb
   rw[(take_get hb).2]
   exact h
  ·simp at h
theorem slCells_take {n:Nat}{a:AV}{r:List AV}(h:slCells (H.take n) a=some r):slCells H a=some r:=by
 cases a<;>simp only[slCells]at h ⊢<;>try exact h
 rename_i b g off m es
 split at h
 ·rename_i cs hb
  rw[(take_get hb).2]
  exact h
 ·simp at h

theorem mapOf_take {n:Nat}{a:AV}{r:List (AV×AV)}(h:mapOf (H.take n) a=some r):mapOf H a=some r:=by
 unfold mapOf at h ⊢
 split at h
 ·exact h
 ·rename_i b
  split at h
  ·rename_i es hb
   simp only[(take_get hb).2]
   exact h
  ·simp at h
 ·simp at h
theorem rdOp_take {n:Nat}{op:AOp}{v:AV}(h:rdOp op env (H.take n)=some v):rdOp op env H=some v:=by
 cases op
 case ld1 l a=>
  simp only[rdOp]at h ⊢
  split at h
  ·rename_i cs off hp
   rw[ptr_take hp];exact h
  ·simp at h
 case ldA l k a=>
  simp only[rdOp]at h ⊢
  split at h
  ·rename_i cs off hp
   rw[ptr_take hp];exact h
  ·simp at h
 case b2s x=>
  simp only[rdOp]at h ⊢
  split at h
  ·rename_i cs hp
   rw[slCells_take hp];exact h
  ·simp at h
 case len b x=>cases b<;>exact h
 case mlk ag ks z ok m k=>
  simp only[rdOp]at h ⊢
  split at h
  ·rename_i es hm
   rw[mapOf_take hm];exact h
  ·simp at h
 case mlen m=>
  simp only[rdOp]at h ⊢
  split at h
  ·rename_i es hm
   rw[mapOf_take hm];exact h
  ·simp at h
 all_goals exact h
end

section
variable {P:Program}{φ0:Phi}{F0:Nat→Nat→Prop}{H0:Heap}{w0:World}{φ:Phi}{F:Nat→Nat→Prop}{H:Heap}{w:World}{β:Nat→Nat}{env:Env}{act:Act}{T:TT}{C:Orc}{lk lim base cb:Nat}{ws:WS}{pm:Pm}{ops:Array Oper}{Q:Exit→Act→World→Prop}

theorem actD_sound (hC:OrcOk P C)(hF:OrcFr C)(f:Full φ0 F0 H0 w0 φ F H w β env act T){o:Oper}{k:Nat}{env':Env}{H':Heap}(hb:base≤H.length)(hcl:cls (compOp P pm o)= .call→Cl base H)(hd:∀d,o.dst=some d→d<T)
  (h:actD C lk lim base cb o.dst (compOp P pm o) k env H=some (env',H')):Sound P φ0 F0 H0 w0 T act w o.dst o.op H' env':=by
 rcases compOp_rel (P:=P) pm o with hbad | hrel
 ·rw[hbad]at h
  simp[actD,cls,rdOp]at h
 ·unfold actD at h
  split at h
  ·exact s_ex f hrel hd h
  ·exact s_ex f hrel hd h
  ·split at h
   case h_2=>simp at h
   rename_i v cs hm
   split at h
   case h_2=>simp at h
   rename_i hk
   split at h
   case h_2=>simp at h
   rename_i env2 hp
   simp only[Option.some.injEq,Prod.mk.injEq]at h
   obtain⟨rfl,rfl⟩:=h
   obtain⟨m,hop,hmk⟩:=s_mk f hrel hm
   have hlt:base+k<H.length:=(List.getElem?_eq_some_iff.1 hk).1
   exact s_make f hd hp (hop _) hmk ⟨fun cs=>by rw[hk];simp,fun es=>by rw[hk];simp⟩ (by simp[hlt]) (fun b' hb'=>by rw[List.getElem?_set_ne (fun e=>hb' e.symm)])
  ·rename_i hcc
   split at h
   case h_2=>simp at h
   rename_i g as hca
   split at h
   case isFalse=>simp at h
   rename_i hok
   split at h
   case h_2=>simp at h
   rename_i v H2 hcall
   split at h
   case isFalse=>simp at h
   rename_i hl
   split at h
   case h_2=>simp at h
   rename_i env2 hp
   simp only[Option.some.injEq,Prod.mk.injEq]at h
   obtain⟨rfl,rfl⟩:=h
   have hlen:=hF.len _ _ _ _ _ _ _ hcall
   have hlock:=hF.lock _ _ _ _ _ _ _ hcall (by rw[List.length_take,Nat.min_eq_left hb];exact Nat.le_refl _)
   rw[List.length_take,Nat.min_eq_left hb]at hlen
   obtain⟨hE,hcon⟩:=hC _ _ _ _ _ _ _ hcall
   obtain⟨vs,harel,hrun⟩:=s_args f hrel hca hok.1 hE
   have harel':ARel φ F (H.take base) w as vs:=⟨harel.1,fun i a v ha hv=>(harel.2 i a v ha hv).shrink (belowL_get hok.2 ha)⟩
   refine s_call hrun (Calls.mono (hcon φ F w vs (f.st.sr.take (hcl hcc)) harel') (fun e w' ⟨v,he,hr⟩=>⟨v,he,f_call f hd hp (callR_lift f.st.sr ?_ (fun b hlt=>?_) hr)⟩))
   ·rcases hl.1 with h | h
    ·exact .inl (by omega)
    ·exact .inr h
   ·rw[hlock b hlt,List.getElem?_take,if_pos hlt]
  ·split at h
   case h_2=>simp at h
   rename_i v hr
   split at h
   case isFalse=>simp at h
   split at h
   case h_2=>simp at h
   rename_i env2 hp
   simp only[Option.some.injEq,Prod.mk.injEq]at h
   obtain⟨rfl,rfl⟩:=h
   exact s_rd f hrel hd (rdOp_take hr) hp

theorem actF_sound (hC:OrcOk P C)(f:Full φ0 F0 H0 w0 φ F H w β env act T){o:Oper}{env':Env}{H':Heap}(hd:∀d,o.dst=some d→d<T)(h:actF C lk lim o.dst (compOp P pm o) env H=some (env',H')):
  Sound P φ0 F0 H0 w0 T act w o.dst o.op H' env':=by
 rcases compOp_rel (P:=P) pm o with hbad | hrel
 ·rw[hbad]at h
  simp[actF,clArgs]at h
 ·unfold actF at h
  split at h
  case h_2=>simp at h
  rename_i g as hca
  split at h
  case isFalse=>simp at h
  rename_i hok
  split at h
  case h_2=>simp at h
  rename_i v H2 hcc
  split at h
  case isFalse=>simp at h
  split at h
  case h_2=>simp at h
  rename_i env2 hp
  simp only[Option.some.injEq,Prod.mk.injEq]at h
  obtain⟨rfl,rfl⟩:=h
  obtain⟨hE,hcon⟩:=hC _ _ _ _ _ _ _ hcc
  obtain⟨vs,harel,hrun⟩:=s_args f hrel hca hok hE
  exact s_call hrun (Calls.mono (hcon φ F w vs f.st.sr harel) (fun e w' ⟨v,he,hr⟩=>⟨v,he,f_call f hd hp hr⟩))

def SameBut (i j:AI):Prop:=i.dst=j.dst∧i.grd=j.grd∧i.op=j.op

theorem stepD_sound (hC:OrcOk P C)(hF:OrcFr C)(f:Full φ0 F0 H0 w0 φ F H w β env act T){o:Oper}{i:AI}{idx:Nat}{env':Env}{H':Heap}{K:Act→World→Prop}(ho:ops[idx]?=some o)(hi:SameBut i (compI P pm ops o))(hT:pm.T=T)(hb:base≤H.length)(hcl:isCall i=true→Cl base H)
  (h:stepD C lk lim ws base cb i env H=some (env',H')) (hK:∀act' w',Post φ0 F0 H0 w0 H' env' T act' w'→K act' w'):wpOp P ops Q idx K act w:=by
 obtain⟨hi1,hi2,hi3⟩:=hi
 rcases compI_ok (P:=P) (pm:=pm) (ops:=ops) o with hbad | ⟨h1,h2,hd,hg⟩
 ·rw[hbad]at hi1 hi2 hi3
  simp[stepD,guardI,hi2,badI,hi3,actD,cls,rdOp,actF,clArgs]at h
 rw[h1]at hi1
 rw[h2]at hi3
 unfold stepD at h
 rw[hi1,hi3]at h
 have hg':grdOf ops o.guard=some i.grd:=by rw[hg,hi2]
 split at h
 ·rename_i hgd
  split at h
  case isFalse=>simp at h
  split at h
  ·exact wpOp_of f ho (fun d hh=>hT▸hd d hh) hg' hgd (fun _=>actF_sound hC f (fun d hh=>hT▸hd d hh) h) (fun e=>by cases e) hK
  rename_i hfr
  exact wpOp_of f ho (fun d hh=>hT▸hd d hh) hg' hgd (fun _=>actD_sound hC hF f hb (fun hc=>hcl (by unfold isCall;rw[cls2_of (c:=.call) hfr (by rw[hi3];exact hc) (fun e=>by cases e)];rfl)) (fun d hh=>hT▸hd d hh) h) (fun e=>by cases e) hK
 ·rename_i hgd
  split at h
  case h_2=>simp at h
  rename_i env2 hp
  simp only[Option.some.injEq,Prod.mk.injEq]at h
  obtain⟨rfl,rfl⟩:=h
  exact wpOp_of f ho (fun d hh=>hT▸hd d hh) hg' hgd (fun e=>by cases e) (fun _=>⟨hp,rfl⟩) hK
 ·simp at h

theorem setH_cl {n:Nat}{b:Nat}{cs cs0 new:List AV}{H':Heap}(hcl:Cl n H)(h:setH lk lim cb H b cs new=some H')(hb:H[b]?=some (.cells cs0))(hcs:∀m,belowL m cs0=true→belowL m new=true→belowL m cs=true)(hcb2:cb=n∨n≤lim):Cl n H':=by
 unfold setH at h
 split at h
 case isFalse=>simp at h
 rename_i hc
 obtain⟨_,hc1,hc2⟩:=hc
 simp only[Option.some.injEq]at h;subst h
 intro b' cs' hlt hb'
 by_cases e:b'=b
 ·subst e
  have hlt2:=(List.getElem?_eq_some_iff.1 hb).1
  rw[List.getElem?_set_self hlt2]at hb'
  cases hb'
  refine hcs n (hcl b' cs0 hlt hb) ?_
  rcases hcb2 with h | h
  ·subst h;exact hc2.resolve_left (by omega)
  ·exact belowL_mono (Nat.zero_le n) _ (hc1.resolve_left (by omega))
 ·rw[List.getElem?_set_ne (fun h=>e h.symm)]at hb'
  exact hcl b' cs' hlt hb'

theorem exE_heap {dst:Option Nat}{op:AOp}{e:Ed}{H':Heap}(h:exE lk lim cb dst op env H=some (e,H')):
  H'=H∨(∃x,H'=H++[x])∨(∃b cs cs0 new,setH lk lim cb H b cs new=some H'∧H[b]?=some (.cells cs0)∧∀m,belowL m cs0=true→belowL m new=true→belowL m cs=true)∨(∃b es es',lk≤b∧H[b]?=some (.map es)∧H'=H.set b (.map es')):=by
 cases op
 case st l n a x=>
  simp only[exE]at h
  split at h
  case h_2=>simp at h
  split at h
  case isFalse=>simp at h
  generalize ev env a=va at h
  cases l with
  | some t=>
   cases va<;>dsimp only at h<;>first | (simp at h;done) | skip
   split at h
   case isFalse=>simp at h
   split at h
   case h_2=>simp at h
   split at h
   case isFalse=>simp at h
   simp only[Option.some.injEq,Prod.mk.injEq]at h
   exact .inl h.2.symm
  | none=>
   cases va<;>dsimp only at h<;>first | (simp at h;done) | skip
   split at h
   case h_2=>simp at h
   rename_i cs hb
   split at h
   case isFalse=>simp at h
   split at h
   case h_2=>simp at h
   rename_i hs
   simp only[Option.some.injEq,Prod.mk.injEq]at h
   obtain⟨_,rfl⟩:=h
   exact .inr (.inr (.inl ⟨_,_,cs,_,hs,hb,fun m h1 h2=>belowL_replaceAt h1 h2⟩))
 case app es bytes x y=>
  simp only[exE]at h
  split at h
  case h_2=>simp at h
  split at h
  case isFalse=>simp at h
  generalize ev env x=va at h
  cases va<;>dsimp only at h<;>first | (simp at h;done) | skip
  ·split at h
   ·simp only[Option.some.injEq,Prod.mk.injEq]at h
    exact .inl h.2.symm
   ·split at h
    case isFalse=>simp at h
    simp only[Option.some.injEq,Prod.mk.injEq]at h
    exact .inr (.inl ⟨_,h.2.symm⟩)
  ·split at h
   case h_2=>simp at h
   rename_i cs hb
   split at h
   case isFalse=>simp at h
   split at h
   case h_2=>simp at h
   rename_i hs
   simp only[Option.some.injEq,Prod.mk.injEq]at h
   obtain⟨_,rfl⟩:=h
   exact .inr (.inr (.inl ⟨_,_,cs,_,hs,hb,fun m h1 h2=>belowL_appC h1 h2⟩))
 case mup ag ks m k v=>
  simp only[exE]at h
  split at h
  case h_2=>simp at h
  split at h
  case h_2=>simp at h
  rename_i es hb
  split at h
  case isFalse=>simp at h
  rename_i hc
  split at h
  case h_2=>simp at h
  simp only[Option.some.injEq,Prod.mk.injEq]at h
  exact .inr (.inr (.inr ⟨_,es,_,hc.1,hb,h.2.symm⟩))
 all_goals simp[exE]at h

theorem Cl.append {n:Nat}{X:Heap}(h:Cl n H)(hn:n≤H.length):Cl n (H++X):=fun b cs hb hc=>by
 rw[List.getElem?_append_left (by omega)]at hc
 exact h b cs hb hc
theorem Cl.set {n k:Nat}{x:HB}(h:Cl n H)(hk:n≤k):Cl n (H.set k x):=fun b cs hb hc=>by
 rw[List.getElem?_set_ne (by omega)]at hc
 exact h b cs hb hc

theorem Cl.setM {n b:Nat}{es es':List (AV×AV)}(h:Cl n H)(hb:H[b]?=some (.map es)):Cl n (H.set b (.map es')):=fun b' cs hlt hc=>by
 by_cases e:b'=b
 ·subst e
  rw[List.getElem?_set_self (List.getElem?_eq_some_iff.1 hb).1]at hc
  cases hc
 ·rw[List.getElem?_set_ne (fun h=>e h.symm)]at hc
  exact h b' cs hlt hc

structure Fr (lk lim:Nat)(H H':Heap):Prop where
 len:H.length≤H'.length
 lock:lk≤H.length→∀b,b<lk→H'[b]?=H[b]?
 cl:∀m,m≤lim→m≤H.length→Cl m H→Cl m H'

theorem Fr.refl (lk lim:Nat)(H:Heap):Fr lk lim H H:=⟨Nat.le_refl _,fun _ _ _=>rfl,fun _ _ _ h=>h⟩
theorem Fr.trans {H1 H2 H3:Heap}(h:Fr lk lim H1 H2)(k:Fr lk lim H2 H3):Fr lk lim H1 H3:=
 ⟨Nat.le_trans h.len k.len,fun hl b hb=>by rw[k.lock (Nat.le_trans hl h.len) b hb,h.lock hl b hb],fun m h1 h2 hc=>k.cl m h1 (Nat.le_trans h2 h.len) (h.cl m h1 h2 hc)⟩

theorem exE_fr {dst:Option Nat}{op:AOp}{e:Ed}{H':Heap}(h:exE lk lim cb dst op env H=some (e,H')):Fr lk lim H H':=by
 rcases exE_heap h with rfl | ⟨x,rfl⟩ | ⟨b,cs,cs0,new,hs,hb,hrow⟩ | ⟨b,es,es',hlk,hb,rfl⟩
 ·exact Fr.refl _ _ _
 ·exact⟨by simp,fun hl b hb=>List.getElem?_append_left (by omega),fun m _ h2 hc=>hc.append h2⟩
 ·refine⟨by rw[setH_len hs];exact Nat.le_refl _,fun _ b' hb'=>?_,fun m h1 _ hc=>setH_cl hc hs hb hrow (.inr h1)⟩
  unfold setH at hs
  split at hs
  case isFalse=>simp at hs
  rename_i hcc
  simp only[Option.some.injEq]at hs;subst hs
  rw[List.getElem?_set_ne (by omega)]
 ·exact⟨by simp,fun _ b' hb'=>by rw[List.getElem?_set_ne (by omega)],fun m _ _ hc=>hc.setM hb⟩
theorem exE_clb {dst:Option Nat}{op:AOp}{e:Ed}{H':Heap}(h:exE lk lim base dst op env H=some (e,H'))(hb:base≤H.length)(hc:Cl base H):Cl base H':=by
 rcases exE_heap h with rfl | ⟨x,rfl⟩ | ⟨b,cs,cs0,new,hs,hbb,hrow⟩ | ⟨b,es,es',hlk,hbb,rfl⟩
 ·exact hc
 ·exact hc.append hb
 ·exact setH_cl hc hs hbb hrow (.inl rfl)
 ·exact hc.setM hbb

theorem cls_ne_callF {op:AOp}(h:cls op= .callF):False:=by
 cases op<;>simp only[cls]at h<;>try (cases h;done)
 case st l n a x=>cases l<;>cases h
 case ld1 l a=>cases l<;>cases h
 case ldA l n a=>cases l<;>cases h

theorem steps_clb {i:AI}{env':Env}{H':Heap}(hnf:isFree i=false)(h:Steps1 C lk lim ws base base i env H env' H')(hb:base≤H.length)(hc:Cl base H):Cl base H':=by
 obtain⟨e,d,h1,_,h3⟩:=h
 have hto:∀H2,d= .to H2→Cl base H2:=fun H2 hd=>by
  subst hd
  unfold eff at h1
  split at h1
  ·split at h1
   case isFalse=>simp at h1
   rw[if_neg (by rw[hnf];simp)]at h1
   unfold effA at h1
   split at h1
   ·split at h1<;>simp at h1
   ·split at h1
    case h_2=>simp at h1
    rename_i hx
    simp only[Option.some.injEq,Prod.mk.injEq,Hd.to.injEq]at h1
    rw[←h1.2];exact exE_clb hx hb hc
   ·split at h1<;>simp at h1
   ·split at h1
    case h_2=>simp at h1
    split at h1
    case isFalse=>simp at h1
    split at h1
    case h_2=>simp at h1
    split at h1
    case isFalse=>simp at h1
    simp only[Option.some.injEq,Prod.mk.injEq]at h1
    split at h1<;>simp at h1
   ·split at h1
    case h_2=>simp at h1
    split at h1<;>simp at h1
  ·simp at h1
  ·simp at h1
 cases d with
 | same=>simp[Hd.run]at h3;rw[←h3];exact hc
 | to H2=>simp[Hd.run]at h3;rw[←h3];exact hto H2 rfl
 | app X=>
  simp only[Hd.run]at h3
  split at h3
  ·simp only[Option.some.injEq]at h3;rw[←h3];exact hc.append hb
  ·simp at h3
 | fill k cs=>
  rcases eff_heap h1 with h | ⟨_,_,h⟩ | ⟨_,_,_,h⟩ | h | h
  ·cases h
  ·cases h
   simp only[Hd.run]at h3
   split at h3
   ·simp only[Option.some.injEq]at h3;rw[←h3];exact hc.set (by omega)
   ·simp at h3
  ·cases h
  case inr.inr.inr.inr=>
   exfalso
   exact cls_ne_callF (cls2_inv (by rw[hnf];simp) h (fun e=>by cases e))
  ·exfalso
   have h:=cls2_inv (by rw[hnf];simp) h (fun e=>by cases e)
   unfold eff effA at h1
   rw[h]at h1
   split at h1
   ·split at h1
    case isFalse=>simp at h1
    rw[if_neg (by rw[hnf];simp)]at h1
    dsimp only at h1
    split at h1<;>simp at h1
   ·simp at h1
   ·simp at h1
end
end Go.Hm

namespace Go.Hm
open Go Go.RowKit

section
variable {P:Program}{φ0:Phi}{F0:Nat→Nat→Prop}{H0:Heap}{w0:World}{T:TT}{C:Orc}{lk lim base:Nat}{ws:WS}{pm:Pm}{ops:Array Oper}{Q:Exit→Act→World→Prop}

def OkRow (ops:List Oper)(j:Nat)(row:List Nat):Prop:=
 ∀S:Nat→Prop,(∀i o,ops[i]?=some o→S i→∀e∈directs o,S e)→(∀o,ops[j]?=some o→∀e∈directs o,S e)→∀x∈row,S x

theorem befs_spec {ops:List Oper}:∀(l done:List Oper) (acc:List (List Nat)),done++l=ops→acc.length=done.length→(∀(j:Nat) row,acc[j]?=some row→OkRow ops j row)→∀(j:Nat) row,(befs l acc)[j]?=some row→OkRow ops j row
 | [],done,acc,_,_,h,j,row,hj=>h j row hj
 | o::r,done,acc,hd,hl,h,j,row,hj=>by
  refine befs_spec r (done++[o]) _ (by rw[List.append_assoc];exact hd) (by simp[hl]) (fun k rw' hk=>?_) j row hj
  rw[List.getElem?_append]at hk
  split at hk
  ·exact h k rw' hk
  ·have hk0:k-acc.length=0:=by
    have:=(List.getElem?_eq_some_iff.1 hk).1
    simp at this
    omega
   rw[hk0]at hk
   simp only[List.getElem?_cons_zero,Option.some.injEq]at hk
   subst hk
   have hke:k=done.length:=by omega
   have hok:ops[k]?=some o:=by rw[←hd,hke];simp
   intro S hS hdir x hx
   rw[List.mem_eraseDups,List.mem_append,List.mem_flatMap]at hx
   rcases hx with hx | ⟨e,he,hx⟩
   ·exact hdir o hok x hx
   ·have hSe:=hdir o hok e he
    rw[List.getD_eq_getElem?_getD]at hx
    cases hr:acc[e]? with
    | none=>rw[hr]at hx;simp at hx
    | some row'=>
     rw[hr]at hx
     exact h e row' hr S hS (fun o' ho' e' he'=>hS e o' ho' hSe e' he') x (by simpa using hx)

structure DrawOk (ops:Array Oper)(l:List AI):Prop where
 nocf:∀i j,isCall (l.getD i default)=true→isFree (l.getD j default)=true→∀S:Nat→Prop,(∀i o,ops[i]?=some o→S i→∀e∈directs o,S e)→(∀o,ops[j]?=some o→∀e∈directs o,S e)→S i
 lt:∀j o,ops[j]?=some o→∀e∈directs o,e<j
 ind:∀i j,i<j→j<ops.size→Indep (l.getD i default) (l.getD j default)∨∀S:Nat→Prop,(∀i o,ops[i]?=some o→S i→∀e∈directs o,S e)→(∀o,ops[j]?=some o→∀e∈directs o,S e)→S i

theorem DrawOk.of {l:List AI}(h:drawOk ops l=true):DrawOk ops l:=by
 unfold drawOk at h
 simp only[Bool.and_eq_true,List.all_eq_true,List.mem_range,Bool.or_eq_true,decide_eq_true_eq]at h
 obtain⟨⟨_,hcf⟩,h⟩:=h
 have ordd:∀(i j:Nat),((befs ops.toList []).getD j []).contains i=true→∀S:Nat→Prop,(∀i o,ops[i]?=some o→S i→∀e∈directs o,S e)→(∀o,ops[j]?=some o→∀e∈directs o,S e)→S i:=fun i j hc S hS hd=>by
  rw[List.getD_eq_getElem?_getD]at hc
  cases hr:(befs ops.toList [])[j]? with
  | none=>rw[hr]at hc;simp at hc
  | some row=>
   rw[hr]at hc
   exact befs_spec (ops:=ops.toList) ops.toList [] [] rfl rfl (fun k row hk=>by simp at hk) j row hr S (fun i o ho=>hS i o (by simpa using ho)) (fun o ho=>hd o (by simpa using ho)) i (by simpa using hc)
 have lt_of:∀(q:AI→Bool),q default=false→∀j,q (l.getD j default)=true→j<l.length:=fun q hq j hj=>by
  rcases Nat.lt_or_ge j l.length with h | h
  ·exact h
  ·rw[List.getD_eq_getElem?_getD,List.getElem?_eq_none h]at hj
   rw[show (none:Option AI).getD default=default from rfl,hq]at hj
   cases hj
 refine⟨fun i j h1 h2=>?_,fun j o ho e he=>?_,fun i j hij hj=>?_⟩
 ·have k1:=hcf j (lt_of isFree rfl j h2)
  rcases k1 with k1 | k1
  ·rw[h2]at k1;simp at k1
  ·rcases k1 i (lt_of isCall rfl i h1) with k2 | k2
   ·rw[h1]at k2;simp at k2
   ·exact ordd i j k2.2
 ·have hlt:j<ops.size:=(Array.getElem?_eq_some_iff.1 ho).1
  have hoo:ops.getD j default=o:=by simp[Array.getD_eq_getD_getElem?,ho]
  exact(h j hlt).1 e (by rw[hoo];exact he)
 ·rcases (h j hj).2 i hij with hc | hc
  ·exact .inr (ordd i j hc)
  ·exact .inl (Indep.of hc)

theorem ready_iff {listed:Array Bool}{i:Nat}:i∈Region.ready .any ops listed↔∃o,ops[i]?=some o∧listed.getD i true=false∧∀e∈directs o,listed.getD e false=true:=by
 unfold Region.ready directs
 simp only[List.mem_filter,List.mem_range,Bool.and_eq_true,Bool.not_eq_true']
 constructor
 ·rintro⟨hlt,h1,h2⟩
  have ho:ops[i]?=some ops[i]:=by simp[hlt]
  rw[ho]at h2
  simp only[Option.map_some,Option.getD_some,Array.all_eq_true_iff_forall_mem,Bool.or_eq_true,Bool.not_eq_true']at h2
  refine⟨_,ho,h1,fun e he=>?_⟩
  simp only[List.mem_map,List.mem_filter,Array.mem_toList_iff]at he
  obtain⟨x,⟨hx,hb⟩,rfl⟩:=he
  rcases h2 x hx with h | h
  ·rw[hb]at h;cases h
  ·exact h
 ·rintro⟨o,ho,h1,h2⟩
  have hlt:i<ops.size:=(Array.getElem?_eq_some_iff.1 ho).1
  refine⟨hlt,h1,?_⟩
  rw[ho]
  simp only[Option.map_some,Option.getD_some,Array.all_eq_true_iff_forall_mem,Bool.or_eq_true,Bool.not_eq_true']
  intro x hx
  cases hb:Region.binds .any x with
  | false=>exact .inl rfl
  | true=>exact .inr (h2 x.on (by simp only[List.mem_map,List.mem_filter,Array.mem_toList_iff];exact⟨x,⟨hx,hb⟩,rfl⟩))

def rest (n:Nat)(listed:Array Bool):List Nat:=(List.range n).filter fun i=>!listed.getD i true

theorem rest_set {n i:Nat}{listed:Array Bool}(hs:listed.size=n){pre post:List Nat}(h:rest n listed=pre++i::post):rest n (listed.setIfInBounds i true)=pre++post:=by
 have hi:i∈rest n listed:=by rw[h];simp
 unfold rest at hi
 simp only[List.mem_filter,List.mem_range]at hi
 have hnd:(rest n listed).Nodup:=List.Pairwise.filter _ List.nodup_range
 have e:rest n (listed.setIfInBounds i true)=(rest n listed).filter fun k=>k != i:=by
  unfold rest
  rw[List.filter_filter]
  apply List.filter_congr
  intro k hk
  simp only[List.mem_range]at hk
  simp only[Array.getD_eq_getD_getElem?,Array.getElem?_setIfInBounds]
  by_cases hki:i=k
  ·subst hki;simp[hs,hk]
  ·rw[if_neg hki]
   have:(k != i)=true:=by simpa using fun h=>hki h.symm
   rw[this,Bool.true_and]
 rw[e,h]
 rw[h]at hnd
 rw[List.filter_append,List.filter_cons]
 simp only[bne_self_eq_false,Bool.false_eq_true,if_false]
 have hp:∀k∈pre,(k != i)=true:=fun k hk=>by
  rw[bne_iff_ne]
  intro e
  subst e
  exact(List.nodup_append.1 hnd).2.2 k hk k (by simp) rfl
 have hq:∀k∈post,(k != i)=true:=fun k hk=>by
  rw[bne_iff_ne]
  intro e
  subst e
  exact(List.nodup_cons.1 (List.nodup_append.1 hnd).2.1).1 hk
 rw[List.filter_eq_self.2 hp,List.filter_eq_self.2 hq]

theorem any_sound (hC:OrcOk P C)(hF:OrcFr C)(hT:pm.T=T){l:List AI}(hD:DrawOk ops l)(hl:∀j o,ops[j]?=some o→SameBut (l.getD j default) (compI P pm ops o)){envf:Env}{Hf:Heap}(hQ:∀act' w',Post φ0 F0 H0 w0 Hf envf T act' w'→Q .normal act' w'):
  ∀(fuel:Nat) (listed:Array Bool) {φ:Phi} {F:Nat→Nat→Prop} {H:Heap} {w:World} {β:Nat→Nat} {env:Env} {act:Act} {env2:Env},listed.size=ops.size→(rest ops.size listed).length=fuel→
  (∀i o,ops[i]?=some o→listed.getD i true=true→∀e∈directs o,listed.getD e false=true)→Full φ0 F0 H0 w0 φ F H w β env act T→(((rest ops.size listed).map (l.getD · default)).any isCall=true→Cl base H)→
  Big base ((rest ops.size listed).map (l.getD · default)) H→runD C lk lim ws base ((rest ops.size listed).map (l.getD · default)) env H=some (env2,Hf)→EqE envf env2→wpAny P .any ops Q fuel listed act w
 | 0,listed,φ,F,H,w,β,env,act,env2,hs,hfu,hcl,f,hca,hbig,hrun,heq=>by
  have hnil:rest ops.size listed=[]:=List.eq_nil_of_length_eq_zero hfu
  refine⟨?_,?_⟩
  ·rw[List.eq_nil_iff_forall_not_mem]
   intro i hi
   obtain⟨o,ho,h1,_⟩:=ready_iff.1 hi
   have:i∈rest ops.size listed:=by
    unfold rest
    simp only[List.mem_filter,List.mem_range,h1]
    exact⟨(Array.getElem?_eq_some_iff.1 ho).1,rfl⟩
   rw[hnil]at this
   simp at this
  ·rw[hnil]at hrun
   simp only[List.map_nil,runD,Option.some.injEq,Prod.mk.injEq]at hrun
   obtain⟨rfl,rfl⟩:=hrun
   exact hQ _ _ ⟨φ,F,β,f.sub fun t=>.inl (heq.1 t)⟩
 | fuel+1,listed,φ,F,H,w,β,env,act,env2,hs,hfu,hcl,f,hca,hbig,hrun,heq=>by
  refine⟨fun hr=>?_,fun i hi=>?_⟩
  ·exfalso
   cases hR:rest ops.size listed with
   | nil=>rw[hR]at hfu;simp at hfu
   | cons j0 R=>
    have hj0:j0∈rest ops.size listed:=by rw[hR];simp
    have hsorted:(rest ops.size listed).Pairwise (· < ·):=List.Pairwise.filter _ List.pairwise_lt_range
    unfold rest at hj0
    simp only[List.mem_filter,List.mem_range,Bool.not_eq_true']at hj0
    have ho:ops[j0]?=some ops[j0]:=by simp[hj0.1]
    have:j0∈Region.ready .any ops listed:=ready_iff.2 ⟨_,ho,hj0.2,fun e he=>by
     have hlt:=hD.lt j0 _ ho e he
     have hn:e∉rest ops.size listed:=by
      intro hm
      rw[hR]at hm hsorted
      rcases List.mem_cons.1 hm with h | h
      ·omega
      ·have:=(List.pairwise_cons.1 hsorted).1 e h;omega
     unfold rest at hn
     simp only[List.mem_filter,List.mem_range,Bool.not_eq_true']at hn
     have hes:e<listed.size:=by omega
     have:listed.getD e true=true:=by
      cases hx:listed.getD e true with
      | true=>rfl
      | false=>exact absurd ⟨by omega,hx⟩ hn
     simpa[Array.getD_eq_getD_getElem?,hes] using this⟩
    rw[hr]at this
    simp at this
  ·obtain⟨o,ho,h1,h2⟩:=ready_iff.1 hi
   have hin:i<ops.size:=(Array.getElem?_eq_some_iff.1 ho).1
   have hmem:i∈rest ops.size listed:=by
    unfold rest
    simp only[List.mem_filter,List.mem_range,h1]
    exact⟨hin,rfl⟩
   obtain⟨pre,post,hR⟩:=List.append_of_mem hmem
   have hsorted:(rest ops.size listed).Pairwise (· < ·):=List.Pairwise.filter _ List.pairwise_lt_range
   have hind:∀p∈pre.map (l.getD · default),Indep p (l.getD i default):=by
    intro p hp
    obtain⟨k,hk,rfl⟩:=List.mem_map.1 hp
    have hki:k<i:=by
     rw[hR]at hsorted
     exact(List.pairwise_append.1 hsorted).2.2 k hk i (by simp)
    rcases hD.ind k i hki hin with h | h
    ·exact h
    ·exfalso
     have hSk:=h (fun x=>listed.getD x true=true) (fun x ox hox hx e he=>by
       have:=hcl x ox hox hx e he
       have hlt:=hD.lt x ox hox e he
       have hxs:=(Array.getElem?_eq_some_iff.1 hox).1
       have hes:e<listed.size:=by omega
       simpa[Array.getD_eq_getD_getElem?,hes] using this) (fun ox hox e he=>by
       rw[ho]at hox;cases hox
       have:=h2 e he
       have hlt:=hD.lt i o ho e he
       have hes:e<listed.size:=by omega
       simpa[Array.getD_eq_getD_getElem?,hes] using this)
     have hkm:k∈rest ops.size listed:=by rw[hR];simp[hk]
     unfold rest at hkm
     simp only[List.mem_filter,Bool.not_eq_true']at hkm
     rw[hkm.2]at hSk
     cases hSk
   rw[hR]at hrun hca hbig
   simp only[List.map_append,List.map_cons]at hrun hca hbig
   obtain⟨env2',hrun',heq2⟩:=runD_front hF.len hind hbig hrun
   obtain⟨env1,H1,hst,hrun'⟩:=runD_cons.1 hrun'
   have hrest:=rest_set hs hR
   refine stepD_sound hC hF f ho (hl i o ho) hT hbig.1 (fun hc=>hca ?_) (stepD_iff.2 hst) (fun act' w' ⟨φ',F',β',f'⟩=>?_)
   ·simp only[List.any_append,List.any_cons,hc];simp
   ·refine any_sound hC hF hT hD hl hQ fuel (listed.setIfInBounds i true) (by simpa using hs) ?_ (fun x ox hox hx e he=>?_) f' (fun hc=>?_) ?_ (by rw[hrest,List.map_append];exact hrun') (heq.trans heq2)
    ·rw[hrest]
     rw[hR]at hfu
     simp only[List.length_append,List.length_cons]at hfu ⊢
     omega
    ·have hes:e<listed.size:=by
      have:=hD.lt x ox hox e he
      have:=(Array.getElem?_eq_some_iff.1 hox).1
      omega
     have hold:listed.getD e false=true:=by
      by_cases hxi:x=i
      ·subst hxi;rw[ho]at hox;cases hox;exact h2 e he
      ·refine hcl x ox hox ?_ e he
       simp only[Array.getD_eq_getD_getElem?,Array.getElem?_setIfInBounds]at hx ⊢
       rw[if_neg (fun e=>hxi e.symm)]at hx
       exact hx
     simp only[Array.getD_eq_getD_getElem?,Array.getElem?_setIfInBounds]at hold ⊢
     by_cases hie:i=e
     ·rw[if_pos hie,if_pos (by omega)];rfl
     ·rw[if_neg hie];exact hold
    ·rw[hrest,List.map_append]at hc
     have hcb:cbOf base (pre.map (l.getD · default)++post.map (l.getD · default))=base:=by
      unfold cbOf
      rw[if_pos hc]
     rw[hcb]at hst
     have hnf:isFree (l.getD i default)=false:=by
      cases hfi:isFree (l.getD i default) with
      | false=>rfl
      | true=>
       exfalso
       rw[List.any_append,Bool.or_eq_true,List.any_eq_true,List.any_eq_true]at hc
       have hk:∃k,k∈pre++post∧isCall (l.getD k default)=true:=by
        rcases hc with⟨x,hx,hx2⟩ | ⟨x,hx,hx2⟩
        all_goals
         obtain⟨k,hk,rfl⟩:=List.mem_map.1 hx
         exact⟨k,by simp[hk],hx2⟩
       obtain⟨k,hk,hk2⟩:=hk
       have hSk:=hD.nocf k i hk2 hfi (fun x=>listed.getD x true=true) (fun x ox hox hx e he=>by
        have:=hcl x ox hox hx e he
        have hlt:=hD.lt x ox hox e he
        have hxs:=(Array.getElem?_eq_some_iff.1 hox).1
        have hes:e<listed.size:=by omega
        simpa[Array.getD_eq_getD_getElem?,hes] using this) (fun ox hox e he=>by
        rw[ho]at hox;cases hox
        have:=h2 e he
        have hlt:=hD.lt i o ho e he
        have hes:e<listed.size:=by omega
        simpa[Array.getD_eq_getD_getElem?,hes] using this)
       have hkm:k∈rest ops.size listed:=by
        rw[hR]
        simp only[List.mem_append,List.mem_cons]at hk ⊢
        rcases hk with h | h
        ·exact .inl h
        ·exact .inr (.inr h)
       unfold rest at hkm
       simp only[List.mem_filter,Bool.not_eq_true']at hkm
       rw[hkm.2]at hSk
       cases hSk
     exact steps_clb hnf hst hbig.1 (hca (by
      rw[List.any_append,Bool.or_eq_true]at hc
      simp only[List.any_append,List.any_cons,Bool.or_eq_true]
      rcases hc with h | h
      ·exact .inl h
      ·exact .inr (.inr h)))
    ·rw[hrest,List.map_append]
     exact hbig.mono (fun q hq=>by simp only[List.mem_append,List.mem_cons]at hq ⊢;rcases hq with h | h;exact .inl h;exact .inr (.inr h)) (steps_len hF.len hst)
end
end Go.Hm

namespace Go.Hm
open Go Go.RowKit

def FR (ro:Option Nat):Fence:={ Fence.wide with round:=ro }

section
variable {P:Program}{ro:Option Nat}{n:Nat}{Q:Exit→Act→World→Prop}

theorem operIn_of {o:Oper}{a:Act}{w:World}{K K':Act→World→Prop}(hnd:isDefer o.op=false)(hK:∀a w,K a w→K' a w)(hQ:¬LetsOut Q)
  (h:o.wp P a w K Q∨(o.asks P a w∧LetsOut Q)):o.wpIn (FR ro) n P a w K' Q:=by
 have h:o.wp P a w K' Q:=Oper.wp_mono hK (h.resolve_right fun h=>hQ h.2)
 refine⟨fun _ _=>trivial,?_⟩
 unfold Oper.wp at h
 rw[show (FR ro).round=ro from rfl,Oper.semAt_eq ro a.eval o (fun c e=>by rw[e]at hnd;cases hnd)]
 generalize (execOp a.eval o).run P w=r at *
 cases r with
 | ok x w'=>
  cases x<;>simp only[Oper.upon,Oper.uponIn]at h ⊢<;>
   first
    | exact h
    | exact⟨fun e=>(by cases e),callsIn_wide.2 h⟩
    | exact⟨fun e=>(by cases e),fun c cs _=>by
      obtain⟨v,w'',hr,hs⟩:=h c cs
      exact⟨v,w'',hr,stepsIn_wide.2 hs⟩⟩
 | halt x w'=>cases x<;>simp only[Oper.upon,Oper.uponIn]at h ⊢<;>exact h

theorem opsIn_of {ops:Array Oper}(hnd:ops.toList.any (fun o=>isDefer o.op)=false)(hQ:¬LetsOut Q):∀(l:List Nat) (a:Act) (w:World),wpOps P ops Q l a w→wpOpsIn (FR ro) n P ops Q l a w
 | [],a,w,h=>h
 | i::l,a,w,h=>by
  simp only[wpOps]at h
  simp only[wpOpsIn]
  cases ho:ops[i]? with
  | none=>simp only[ho]at h;exact opsIn_of hnd hQ l a w h
  | some o=>
   simp only[ho]at h
   have hn:isDefer o.op=false:=by
    have hm:o∈ops.toList:=by
     have:=Array.mem_of_getElem? ho
     exact Array.mem_toList_iff.2 this
    cases hd:isDefer o.op with
    | false=>rfl
    | true=>
     have:ops.toList.any (fun o=>isDefer o.op)=true:=List.any_eq_true.2 ⟨o,hm,hd⟩
     rw[hnd]at this;cases this
   dsimp only
   split at h
   ·rename_i hw
    rw[if_pos hw]
    exact operIn_of hn (fun a w=>opsIn_of hnd hQ l a w) hQ h
   ·rename_i hw
    rw[if_neg hw]
    exact⟨fun _ _=>trivial,opsIn_of hnd hQ l _ _ h⟩

def ItOk (P:Program)(Bg:World→(Nat→Prop)→Prop)(gf:FuncId)(lb:Array Value)(vals:List (Array Value))(W0:World):Prop:=
 ∀(l:Nat) (J:Nat→World→(Nat→Prop)→Prop) (Jx:World→(Nat→Prop)→Prop),
  (∀i A B Z,J i A Z→Below A.heap.size A B→J i B (fun k=>Z k∨(A.heap.size≤k∧k<B.heap.size)))→
  (∀A B Z,Jx A Z→Below A.heap.size A B→Jx B (fun k=>Z k∨(A.heap.size≤k∧k<B.heap.size)))→
  (∀i v A Z,vals[i]?=some v→J i A Z→YieldAt Fence.wide 0 P l v A fun e B=>
   (e= .returned (.bool true)∧J (i+1) B Z∧A.heap.size≤B.heap.size∧∀k,Z k→B.heap[k]?=A.heap[k]?)∨(e= .returned (.bool false)∧Jx B Z))→
  (∀B Z,Bg B Z→J 0 B Z)→
  CallsIn Fence.wide 0 P gf (#[.func (.yield l) #[] #[]]++lb) W0 fun e B=>(∃v,e= .returned v)∧((∃Z,J vals.length B Z)∨∃Z,Jx B Z)

def Grows {α:Type}(J:α→World→(Nat→Prop)→Prop):Prop:=∀i A B Z,J i A Z→Below A.heap.size A B→J i B (fun k=>Z k∨(A.heap.size≤k∧k<B.heap.size))
def Turns {α:Type}(n:Nat)(J:α→World→(Nat→Prop)→Prop):Prop:=∀i A Z l r r',J i A Z→n≤l→A.heap[l]?=some (.loop r)→J i (A.putObj l (.loop r')) Z

theorem wpIn_rangeZ {g:Operand}{ps:Array Tmp}{assign body:Code}{a:Act}{w:World}{gf:Nat}{lb:Array Value}{vals:List (Array Value)}
  (hg:a.eval g= .func (.func gf) #[] lb) (eg:∀args w,(callFunc gf args).run P w= .ok (.enter gf args) w)
  (hps:∀v∈vals,v.size=ps.size)
  (J:Nat→World→(Nat→Prop)→Prop) (Jm:Nat×Act→World→(Nat→Prop)→Prop) (Jx:Code→World→(Nat→Prop)→Prop)
  (gJ:Grows J) (gJx:Grows Jx) (tJ:Turns w.heap.size J) (tJm:Turns w.heap.size Jm) (tJx:Turns w.heap.size Jx)
  (hit:∀W1 d r,Below w.heap.size w W1→W1.heap.size=w.heap.size+2→W1.heap[w.heap.size]?=some (.deferred d)→W1.heap[w.heap.size+1]?=some (.loop r)→∃Bg,ItOk P Bg gf lb vals W1∧∀B Z,Bg B Z→J 0 B (fun k=>Z k∨k=w.heap.size∨k=w.heap.size+1)∧
   B.heap[w.heap.size]?=W1.heap[w.heap.size]?∧B.heap[w.heap.size+1]?=W1.heap[w.heap.size+1]?∧∀k,Z k→k≠w.heap.size+1)
  (hassign:∀l i v A Z,vals[i]?=some v→J i A Z→assign.wpIn (FR (some l)) 0 P (Exit.then (fun a1 B=>A.heap.size≤B.heap.size∧(∀k,Z k→B.heap[k]?=A.heap[k]?)∧Jm (i,a1) B Z) (fun _ _ _=>False)) { tmps:=(ps.zip v).foldl (fun t (p,v)=>t.setIfInBounds p v) a.tmps,defers:=[] } A)
  (hbody:∀l i v a1 A Z,vals[i]?=some v→Jm (i,a1) A Z→body.wpIn (FR (some l)) 0 P (fun e _ B=>(A.heap.size≤B.heap.size∧∀k,Z k→B.heap[k]?=A.heap[k]?)∧match e with
   | .normal=>J (i+1) B Z
   | .ret=>Jx .ret B Z
   | .exit id=>Jx (.exit id) B Z
   | _=>False) a1 A)
  (hdone:∀D B Z,J vals.length B Z→Z D→w.heap.size≤D→B.heap[D]?=some (.deferred (some []))→Q .normal { a with defers:={ target:=.collected D,args:=#[] }::a.defers } B)
  (hstop:∀D c B Z,Jx c B Z→Z D→w.heap.size≤D→B.heap[D]?=some (.deferred (some []))→c.wpIn Fence.wide 0 P Q { a with defers:={ target:=.collected D,args:=#[] }::a.defers } B):
  (Code.rangeFunc g ps assign body).wpIn Fence.wide 0 P Q a w:=by
 refine wpIn_rangeFunc ?_
 intro fn hfn
 obtain⟨rec,hrec⟩:∃rec:LoopState→Option Code→Loop,rec=fun st pe=>{ state:=st,pending:=pe,fn,tmps:=a.tmps,params:=ps,assign,body,defers:=w.heap.size }:=⟨_,rfl⟩
 obtain⟨W1,hW1⟩:∃W1,(w.alloc (.deferred (some []))).alloc (.loop (rec .ready none))=W1:=⟨_,rfl⟩
 have hL1:W1.heap[w.heap.size+1]?=some (.loop (rec .ready none)):=by
  rw[←hW1];have:=World.alloc_heap_new (w.alloc (.deferred (some []))) (.loop (rec .ready none));rwa [World.size_alloc]at this
 have hK1:W1.heap[w.heap.size]?=some (.deferred (some [])):=by
  rw[←hW1];exact(Below.heap_alloc _ _ _ (by simp)).trans (World.alloc_heap_new w _)
 have hB1:Below w.heap.size w W1:=by
  rw[←hW1];exact((Below.refl _ w).alloc (Nat.le_refl _) _).alloc (by simp) _
 have hs1:W1.heap.size=w.heap.size+2:=by rw[←hW1];simp
 refine⟨w.heap.size+1,[{ target:=.collected w.heap.size,args:=#[] }],W1,{ target:=.fn (.func gf) lb,args:=#[.func (.yield (w.heap.size+1)) #[] #[]] },W1,gf,
  #[.func (.yield (w.heap.size+1)) #[] #[]]++lb,W1,?_,?_,fun _ _=>trivial,?_,fun e=>(by cases e),?_⟩
 ·rw[←hW1,hrec];exact run_enterLoop_outer _ _ _ _ _
 ·simp only[resolve,hg]
  simp[go_sem]
 ·simp[invoke,go_sem,eg]
 ·-- the iterator,at the caller's invariant with the two blocks beside it
  let own:(Nat→Prop)→Nat→Prop:=fun Z k=>Z k∨k=w.heap.size∨k=w.heap.size+1
  have ownG:∀(Z:Nat→Prop) (A B:World),(fun k=>own Z k∨(A.heap.size≤k∧k<B.heap.size))=own (fun k=>Z k∨(A.heap.size≤k∧k<B.heap.size)):=fun Z A B=>by
   funext k
   simp only[own,eq_iff_iff]
   constructor
   ·rintro ((h | h) | h)
    ·exact .inl (.inl h)
    ·exact .inr h
    ·exact .inl (.inr h)
   ·rintro ((h | h) | h)
    ·exact .inl (.inl h)
    ·exact .inr h
    ·exact .inl (.inr h)
  have book:∀{A B:World} {st:LoopState} {pe:Option Code},Below A.heap.size A B→A.heap[w.heap.size+1]?=some (.loop (rec st pe))→A.heap[w.heap.size]?=some (.deferred (some []))→
    B.heap[w.heap.size+1]?=some (.loop (rec st pe))∧B.heap[w.heap.size]?=some (.deferred (some [])):=fun hb h1 h2=>
   ⟨(hb.block _ (Array.getElem?_eq_some_iff.1 h1).1).trans h1,(hb.block _ (Array.getElem?_eq_some_iff.1 h2).1).trans h2⟩
  obtain⟨Bg,hit,hbg⟩:=hit W1 _ _ hB1 hs1 hK1 hL1
  refine(hit (w.heap.size+1)
   (fun i A Z=>J i A (own Z)∧A.heap[w.heap.size+1]?=some (.loop (rec .ready none))∧A.heap[w.heap.size]?=some (.deferred (some []))∧∀k,Z k→k≠w.heap.size+1)
   (fun A Z=>∃c,Jx c A (own Z)∧A.heap[w.heap.size+1]?=some (.loop (rec .done (some c)))∧A.heap[w.heap.size]?=some (.deferred (some [])))
   (fun i A B Z h hb=>?_) (fun A B Z h hb=>?_) ?_ (fun B Z hb=>?_)).mono ?_
  ·obtain⟨h1,h2,h3,h4⟩:=h
   have hsz:=(Array.getElem?_eq_some_iff.1 h2).1
   refine⟨ownG Z A B▸gJ i A B _ h1 hb,(book hb h2 h3).1,(book hb h2 h3).2,fun k hk=>?_⟩
   rcases hk with hk | ⟨hk,_⟩
   ·exact h4 k hk
   ·omega
  ·obtain⟨c,h1,h2,h3⟩:=h
   exact⟨c,ownG Z A B▸gJx c A B _ h1 hb,(book hb h2 h3).1,(book hb h2 h3).2⟩
  ·-- one round
   rintro i v A Z hv ⟨hi,hl,hk,hz⟩
   have hlt:w.heap.size+1<A.heap.size:=(Array.getElem?_eq_some_iff.1 hl).1
   have hy:=run_yield (P:=P) (args:=v) hl (by rw[hrec];exact hps v (List.mem_of_getElem? hv))
   rw[hrec]at hy
   refine⟨fn,_,assign,body,hy,roundIn_of_wpIn hfn (wpIn_mono (hassign _ i v A _ hv hi) ?_)⟩
   clear hy
   intro e a1 W ha
   cases e with
   | normal=>
    obtain⟨ha0,ha1,ha2⟩:=ha
    have hl':=(ha1 (w.heap.size+1) (.inr (.inr rfl))).trans hl
    have hk':=(ha1 w.heap.size (.inr (.inl rfl))).trans hk
    have hlt':w.heap.size+1<W.heap.size:=(Array.getElem?_eq_some_iff.1 hl').1
    refine⟨_,run_beginRound hl' (by rw[hrec]),?_⟩
    have hl2:(W.putObj (w.heap.size+1) (.loop { rec .ready none with state:=.busy })).heap[w.heap.size+1]?=some (.loop { rec .ready none with state:=.busy }):=World.putObj_heap_same hlt'
    have hk2:(W.putObj (w.heap.size+1) (.loop { rec .ready none with state:=.busy })).heap[w.heap.size]?=some (.deferred (some [])):=(World.putObj_heap_other (by omega)).trans hk'
    refine wpIn_mono (hbody _ i v a1 _ _ hv (tJm _ _ _ _ _ _ ha2 (Nat.le_succ _) hl')) ?_
    have fin:∀(jump:Option Code) (W3:World),(∀k,own Z k→W3.heap[k]?=(W.putObj (w.heap.size+1) (.loop { rec .ready none with state:=.busy })).heap[k]?)→
      (Instr.endRound (w.heap.size+1) jump).run P W3= .ok (.bool jump.isNone) (W3.putObj (w.heap.size+1) (.loop (rec (if jump.isNone then .ready else .done) jump)))∧
      W3.heap[w.heap.size+1]?=some (.loop { rec .ready none with state:=.busy })∧
      (W3.putObj (w.heap.size+1) (.loop (rec (if jump.isNone then .ready else .done) jump))).heap[w.heap.size+1]?=some (.loop (rec (if jump.isNone then .ready else .done) jump))∧
      (W3.putObj (w.heap.size+1) (.loop (rec (if jump.isNone then .ready else .done) jump))).heap[w.heap.size]?=some (.deferred (some [])):=fun jump W3 hk3=>by
     have hl3:=(hk3 (w.heap.size+1) (.inr (.inr rfl))).trans hl2
     have hd3:=(hk3 w.heap.size (.inr (.inl rfl))).trans hk2
     have:=run_endRound (P:=P) jump hl3
     rw[hrec]at this ⊢
     exact⟨this,by rw[hrec]at hl3;exact hl3,World.putObj_heap_same (Array.getElem?_eq_some_iff.1 hl3).1,(World.putObj_heap_other (by omega)).trans hd3⟩
    have others:∀(W3:World) (o:Obj),(∀k,own Z k→W3.heap[k]?=(W.putObj (w.heap.size+1) (.loop { rec .ready none with state:=.busy })).heap[k]?)→∀k,Z k→(W3.putObj (w.heap.size+1) o).heap[k]?=A.heap[k]?:=fun W3 o h k hk=>by
     have:=hz k hk
     rw[World.putObj_heap_other this,h k (.inl hk),World.putObj_heap_other this,ha1 k (.inl hk)]
    have sz:∀(x:World) (k:Nat) (o:Obj),(x.putObj k o).heap.size=x.heap.size:=fun x k o=>by simp
    rintro e a3 W3 ⟨⟨hs3,hk3⟩,hp⟩
    rw[sz]at hs3
    cases e with
    | normal=>
     obtain⟨hr,hl3,hl4,hk4⟩:=fin none W3 hk3
     exact⟨_,_,hr,.inl ⟨rfl,⟨tJ _ _ _ _ _ _ hp (Nat.le_succ _) hl3,hl4,hk4,hz⟩,by rw[sz];omega,others W3 _ hk3⟩⟩
    | ret=>
     obtain⟨hr,hl3,hl4,hk4⟩:=fin (some .ret) W3 hk3
     exact⟨_,_,hr,.inr ⟨rfl,.ret,tJx _ _ _ _ _ _ hp (Nat.le_succ _) hl3,hl4,hk4⟩⟩
    | exit id=>
     obtain⟨hr,hl3,hl4,hk4⟩:=fin (some (.exit id)) W3 hk3
     exact⟨_,_,hr,.inr ⟨rfl,.exit id,tJx _ _ _ _ _ _ hp (Nat.le_succ _) hl3,hl4,hk4⟩⟩
    | goto t=>exact hp.elim
    | panic ch=>exact hp.elim
    | outgrown=>exact hp.elim
   | ret=>exact ha.elim
   | exit id=>exact ha.elim
   | goto t=>exact ha.elim
   | panic ch=>exact ha.elim
   | outgrown=>exact ha.elim
  ·obtain⟨h1,h2,h3,h4⟩:=hbg B Z hb
   exact⟨h1,h3.trans hL1,h2.trans hK1,h4⟩
  ·-- behind the iterator
   rintro e W2 ⟨⟨v,rfl⟩,(⟨Z,hi,hl,hk,hz⟩ | ⟨Z,c,hi,hl,hk⟩)⟩
   ·exact⟨none,_,by have:=run_endLoop (P:=P) hl (by rw[hrec];simp);rw[hrec]at this;exact this,hdone _ _ _ (tJ _ _ _ _ _ _ hi (Nat.le_succ _) hl) (.inr (.inl rfl)) (Nat.le_refl _) ((World.putObj_heap_other (by omega)).trans hk)⟩
   ·exact⟨some c,_,by have:=run_endLoop (P:=P) hl (by rw[hrec];simp);rw[hrec]at this;exact this,hstop _ c _ _ (tJx _ _ _ _ _ _ hi (Nat.le_succ _) hl) (.inr (.inl rfl)) (Nat.le_refl _) ((World.putObj_heap_other (by omega)).trans hk)⟩
end
end Go.Hm

namespace Go.Hm
open Go Go.RowKit

section
variable {φ:Phi}{F:Nat→Nat→Prop}{H:Heap}{w:World}{β:Nat→Nat}{env:Env}{act:Act}{T:Nat}{l:Nat}{x':Obj}

def oth:Obj→Bool
 | .cells .. =>false
 | .map .. =>false
 | _=>true
structure Oth (w:World)(l:Nat)(x':Obj):Prop where
 old:∃x,w.heap[l]?=some x∧oth x=true
 new:oth x'=true
theorem Oth.loop {r:Loop}(h:w.heap[l]?=some (.loop r))(r':Loop):Oth w l (.loop r'):=⟨⟨_,h,rfl⟩,rfl⟩

theorem heap_turn {k:Nat}(hk:k≠l):(w.putObj l x').heap[k]?=w.heap[k]?:=World.putObj_heap_other hk
theorem cell_turn (hl:Oth w l x')(a:Addr):(w.putObj l x').cell? a=w.cell? a:=by
 obtain⟨⟨x,h1,h2⟩,h3⟩:=hl
 by_cases h:a.block=l
 ·unfold World.cell?
  rw[h,h1,World.putObj_heap_same (Array.getElem?_eq_some_iff.1 h1).1]
  cases x<;>cases x'<;>first | rfl | (simp[oth]at h2;done) | (simp[oth]at h3;done)
 ·unfold World.cell?
  rw[heap_turn h]
theorem cells_turn (hl:Oth w l x'){k:Nat}{o:Obj}(h:w.heap[k]?=some o)(ho:oth o=false):(w.putObj l x').heap[k]?=some o:=by
 obtain⟨⟨x,h1,h2⟩,h3⟩:=hl
 rw[heap_turn (fun e=>by subst e;rw[h1]at h;cases h;rw[ho]at h2;cases h2)];exact h

theorem CRel.turn (hl:Oth w l x'){a:AV}{v:Value}(h:CRel φ F H w a v):CRel φ F H (w.putObj l x') a v:=by
 induction h with
 | val v h=>exact .val v h
 | e0 x=>exact .e0 x
 | sl b o n cap cells vs hn hvl hF hc _ ih=>exact .sl b o n cap cells vs hn hvl hF (fun i v hv=>by rw[cell_turn hl];exact hc i v hv) ih
 | slnil x=>exact .slnil x
 | rop b o off cells vs hvl hF hc _ ih=>exact .rop b o off cells vs hvl hF (fun i v hv=>by rw[cell_turn hl];exact hc i v hv) ih
 | hp b g off cs a hb hg h=>exact .hp b g off cs a hb hg h
 | hs b g off n es cs x cap hb hg hn hx h=>
  refine .hs b g off n es cs x cap hb hg hn hx fun e=>?_
  rcases h e with⟨h1,hd,h2,hgc,arr,ty,h3,h4⟩ | h
  ·exact .inl ⟨h1,hd,h2,hgc,arr,ty,cells_turn hl h3 rfl,h4⟩
  ·exact .inr h
 | mp b es hb=>exact .mp b es hb
 | fn f caps vs hvl _ ih=>exact .fn f caps vs hvl ih
theorem VRel.turn (hl:Oth w l x'){a:AV}{v:Value}(h:VRel φ F H w a v):VRel φ F H (w.putObj l x') a v:=by
 induction h with
 | one h=>exact .one (h.turn hl)
 | agg cs vs h=>exact .agg cs vs ⟨h.1,fun i a v ha hv=>(h.2 i a v ha hv).turn hl⟩
 | tup as vs hvl _ ih=>exact .tup as vs hvl ih
theorem Blk.turn (hl:Oth w l x'){k:Nat×Nat}{cs:List AV}(h:Blk φ F H w k cs):Blk φ F H (w.putObj l x') k cs:=by
 obtain⟨arr,ty,h1,h2⟩:=h
 exact⟨arr,ty,cells_turn hl h1 rfl,fun i a hi=>by
  obtain⟨v,hv,hr⟩:=h2 i a hi
  exact⟨v,hv,hr.turn hl⟩⟩
theorem SR.turn (hl:Oth w l x')(s:SR φ F H w):SR φ F H (w.putObj l x'):=
 ⟨fun b cs h hne=>(s.blk b cs h hne).turn hl,fun b es h=>by
  obtain⟨ces,clk,h1,es0,hep,h2,h3,h4⟩:=s.mblk b es h
  exact⟨ces,clk,cells_turn hl h1 rfl,es0,hep,h2,fun i k v hi=>by
   obtain⟨a1,a2,e,a3,a4,a5⟩:=h3 i k v hi
   exact⟨a1,a2,e,a3,a4.turn hl,a5.turn hl⟩,h4⟩,s.inj,s.phiF,fun k o h=>by
  have:=s.fsz k o h
  simpa using this⟩
theorem St.turn (hl:Oth w l x')(s:St φ F H w β env act T):St φ F H (w.putObj l x') β env act T:=by
 refine⟨s.sr.turn hl,s.size,fun t=>?_,s.bphi,s.binj,s.bF⟩
 have h:=s.slot t
 generalize find env t=a at h
 cases a
 case box cs=>exact⟨h.1,h.2.turn hl⟩
 case rp=>exact h
 case und=>exact h
 case dead=>trivial
 all_goals exact VRel.turn hl h
theorem Wm.turn (hl:Oth w l x'):Wm w (w.putObj l x'):=
 ⟨by simp,fun k arr ty fr h=>⟨arr,cells_turn hl h rfl,rfl⟩,fun k ces clk h=>⟨ces,clk,cells_turn hl h rfl,Grow.refl _ _⟩⟩

theorem noBx_find:∀{env:Env},noBx env=true→∀t,(∀cs,find env t≠.box cs)∧∀d o,find env t≠.rp d o
 | [],_,t=>⟨fun _ h=>(by cases h),fun _ _ h=>(by cases h)⟩
 | (t',v)::r,h,t=>by
  have hv:(∀cs,v≠.box cs)∧(∀d o,v≠.rp d o)∧noBx r=true:=by
   cases v<;>first | exact⟨fun _ e=>(by cases e),fun _ _ e=>(by cases e),h⟩ | (simp[noBx]at h;done)
  simp only[find]
  split
  ·exact⟨hv.1,hv.2.1⟩
  ·exact noBx_find hv.2.2 t
theorem noBx_noRp:∀{env:Env},noBx env=true→∀d,noRp d env=true
 | [],_,_=>rfl
 | (t',v)::r,h,d=>by
  have hv:noBx r=true:=by cases v<;>first | exact h | (simp[noBx]at h;done)
  have:=noBx_noRp hv d
  cases v<;>first | exact this | (simp[noBx]at h;done)

theorem st_putP:∀{ps:List Nat} {x:List Value} {env e:Env} {act:Act},noBx env=true→St φ F H w β env act T→(∀p∈ps,p<T)→(∀v∈x,scal v=true)→putP ps x env=some e→
  noBx e=true∧St φ F H w β e { act with tmps:=(ps.zip x).foldl (fun t (p,v)=>t.setIfInBounds p v) act.tmps } T
 | [],[],env,e,act,hb,s,_,_,h=>by
  simp only[putP,Option.some.injEq]at h
  subst h
  exact⟨hb,s⟩
 | p::ps,v::vs,env,e,act,hb,s,hp,hv,h=>by
  simp only[putP]at h
  have hs:St φ F H w β ((p,.val v)::env) (act.put (some p) v) T:=s.put1 (fun d hd=>by cases hd;exact hp p (List.mem_cons_self ..)) (v:=.val v) (by simp only[put,noBx_noRp hb p,if_true]) (show VRel φ F H w (.val v) v from .one (.val v (hv v (List.mem_cons_self ..))))
  exact st_putP (act:=act.put (some p) v) (by simpa[noBx] using hb) hs (fun q hq=>hp q (List.mem_cons_of_mem _ hq)) (fun q hq=>hv q (List.mem_cons_of_mem _ hq)) h
 | [],_::_,_,_,_,_,_,_,_,h=>by simp[putP]at h
 | _::_,[],_,_,_,_,_,_,_,h=>by simp[putP]at h
theorem St.defers (s:St φ F H w β env act T)(ds:List Deferred):St φ F H w β env { act with defers:=ds } T:=⟨s.sr,s.size,s.slot,s.bphi,s.binj,s.bF⟩
theorem St.over {φ':Phi}{F':Nat→Nat→Prop}{H':Heap}{w':World}(hb:noBx env=true)(s:St φ F H w β env act T)(e:Ext φ F H w φ' F' H' w')(sr:SR φ' F' H' w'):St φ' F' H' w' β env act T:=
 s.mono e sr (fun t cs ht=>absurd ht ((noBx_find hb t).1 cs))
end

section
variable {φ0:Phi}{F0:Nat→Nat→Prop}{H0:Heap}{w0:World}{φ:Phi}{F:Nat→Nat→Prop}{H:Heap}{w:World}{β:Nat→Nat}{env:Env}{act:Act}{T:TT}

theorem Full.turn0 {l:Nat}{x':Obj}{act':Act}(hF0:∀k o,F0 k o→k<w0.heap.size)(f:Full φ0 F0 H0 w0 φ F H w β env act T)(hl:Oth w l x')(h0:w0.heap.size≤l)(ht:act'.tmps=act.tmps)(hd:Dfr T w0 (w.putObj l x') F act'.defers):
  Full φ0 F0 H0 w0 φ F H (w.putObj l x') β env act' T:=by
 have st:=f.st.turn hl
 refine⟨⟨st.sr,ht▸st.size,ht▸st.slot,st.bphi,st.binj,st.bF⟩,⟨f.ext.len,f.ext.map,fun k o h=>⟨(f.ext.frz k o h).1,?_⟩,f.ext.wm.trans (Wm.turn hl)⟩,⟨f.chg.os,f.chg.tape,f.chg.output,by simpa using f.chg.size,fun k hk hn=>?_⟩,f.phi,f.beta,hd,f.frn⟩
 ·have:=hF0 k o h
  rw[heap_turn (by omega)];exact(f.ext.frz k o h).2
 ·rw[heap_turn (by omega)];exact f.chg.block k hk hn
theorem Full.turn {l:Nat}{r r':Loop}(hF0:∀k o,F0 k o→k<w0.heap.size)(f:Full φ0 F0 H0 w0 φ F H w β env act T)(hl:w.heap[l]?=some (.loop r))(h0:w0.heap.size≤l):Full φ0 F0 H0 w0 φ F H (w.putObj l (.loop r')) β env act T:=by
 refine f.turn0 hF0 (.loop hl r') h0 rfl ?_
 have h:=f.dfr
 unfold Dfr at *
 split
 ·rename_i hr
  rw[hr]at h
  refine⟨h.1,fun d hd=>?_⟩
  obtain⟨q,h1,h2,h3,h4⟩:=h.2 d hd
  refine⟨q,h1,h2,h3,?_⟩
  rw[heap_turn (fun e=>by subst e;rw[hl]at h4;cases h4)];exact h4
 ·rename_i l hr
  rw[hr]at h
  exact h
theorem Full.close {d:Deferred}{ds:List Deferred}{tmps:Array Value}(hF0:∀k o,F0 k o→k<w0.heap.size)(hrd:T.rd=none)(f:Full φ0 F0 H0 w0 φ F H w β env { tmps:=tmps,defers:=d::ds } T):
  ∃r,d={ target:=.collected r,args:=#[] }∧w.heap[r]?=some (.deferred (some []))∧Full φ0 F0 H0 w0 φ F H (w.putObj r (.deferred none)) β env { tmps:=tmps,defers:=ds } T:=by
 have h:=f.dfr
 unfold Dfr at h
 rw[hrd]at h
 obtain⟨hn,hm⟩:=h
 obtain⟨r,h1,h2,h3,h4⟩:=hm d (List.mem_cons_self ..)
 refine⟨r,h1,h4,f.turn0 hF0 ⟨⟨_,h4,rfl⟩,rfl⟩ h3 rfl ?_⟩
 unfold Dfr
 rw[hrd]
 have hn':=List.nodup_cons.1 hn
 refine⟨hn'.2,fun e he=>?_⟩
 obtain⟨q,g1,g2,g3,g4⟩:=hm e (List.mem_cons_of_mem _ he)
 refine⟨q,g1,g2,g3,?_⟩
 rw[heap_turn (fun e'=>hn'.1 (by rw[h1,←e',←g1];exact he))];exact g4
theorem Full.grown {w':World}(f:Full φ0 F0 H0 w0 φ F H w β env act T)(hb:noBx env=true)(h:Below w.heap.size w w'):Full φ0 F0 H0 w0 φ (fun k o=>F k o∨(w.heap.size≤k∧k<w'.heap.size)) H w' β env act T:=by
 obtain⟨e,sr⟩:=grow f.st.sr (F':=fun k o=>F k o∨(w.heap.size≤k∧k<w'.heap.size)) h (fun _ _ h=>.inl h) (fun _ _ h=>h)
 exact f.next (Chg.of_below h fun _=>False) (fun _ h=>h.elim) (f.st.over hb e sr) e (fun b hl=>.inl ⟨hl,rfl⟩) (fun t cs ht=>absurd ht ((noBx_find hb t).1 cs)) rfl (fun k o h=>h.imp id And.left)
theorem Full.round {ps:Array Tmp}{x:List Value}{e:Env}{n:Nat}(f:Full φ0 F0 H0 w0 φ F H w β env act T)(hb:noBx env=true)(hps:ps.toList.all (fun p=>decide (p<n))=true)(hT:n=T)(hx:∀v∈x,scal v=true)(hp:putP ps.toList x env=some e):
  Full φ F H w φ F H w β e { tmps:=(ps.zip x.toArray).foldl (fun t (p,v)=>t.setIfInBounds p v) act.tmps,defers:=[] } ⟨T.n,some []⟩:=by
 obtain⟨h1,h2⟩:=st_putP hb f.st (fun p hp=>by have:=List.all_eq_true.1 hps p hp;rw[←hT];simpa using this) hx hp
 have he:(ps.zip x.toArray).foldl (fun t (p,v)=>t.setIfInBounds p v) act.tmps=(ps.toList.zip x).foldl (fun t (p,v)=>t.setIfInBounds p v) act.tmps:=by
  rw[←Array.foldl_toList,Array.toList_zip]
 rw[he]
 exact⟨h2.defers [],Ext.refl _ _ _ _,Chg.refl _ _,fun b hl=>.inl ⟨hl,rfl⟩,fun t cs ht=>absurd ht ((noBx_find h1 t).1 cs),rfl,fun _ _ h=>.inl h⟩
theorem Full.over {φ':Phi}{F':Nat→Nat→Prop}{H':Heap}{w':World}{β':Nat→Nat}{env':Env}{act':Act}{T':TT}(f:Full φ0 F0 H0 w0 φ F H w β env act T)(hb:noBx env=true)(g:Full φ F H w φ' F' H' w' β' env' act' T'):Full φ0 F0 H0 w0 φ' F' H' w' β env act T:=
 f.next g.chg (fun k h=>.inl h) (f.st.over hb g.ext g.st.sr) g.ext g.phi (fun t cs ht=>absurd ht ((noBx_find hb t).1 cs)) rfl g.frn
theorem Full.base {env':Env}{act':Act}{β':Nat→Nat}{n:Nat}(s:St φ F H w β' env' act' n)(hb:noBx env'=true)(hd:act'.defers=[]):Full φ F H w φ F H w β' env' act' ⟨n,some []⟩:=
 ⟨s,Ext.refl _ _ _ _,Chg.refl _ _,fun b hl=>.inl ⟨hl,rfl⟩,fun t cs ht=>absurd ht ((noBx_find hb t).1 cs),hd,fun _ _ h=>.inl h⟩
theorem Full.mark {D:Nat}(hrd:T.rd=none)(f:Full φ0 F0 H0 w0 φ F H w β env act T)(h1:∃o,F D o)(h2:w0.heap.size≤D)(h3:w.heap[D]?=some (.deferred (some [])))(h4:({ target:=.collected D,args:=#[] }:Deferred)∉act.defers):
  Full φ0 F0 H0 w0 φ F H w β env { act with defers:={ target:=.collected D,args:=#[] }::act.defers } T:=
 ⟨f.st.defers _,f.ext,f.chg,f.phi,f.beta,by
  have hd:=f.dfr
  unfold Dfr at *
  rw[hrd]at hd ⊢
  exact⟨List.nodup_cons.2 ⟨h4,hd.1⟩,fun d hm=>by
   rcases List.mem_cons.1 hm with rfl | hm
   ·exact⟨D,rfl,h1,h2,h3⟩
   ·exact hd.2 d hm⟩,f.frn⟩
end
end Go.Hm

namespace Go.Hm
open Go Go.RowKit

def exOf:Ex→Exit
 | .nrm=>.normal
 | .exit id=>.exit id
 | .ret=>.ret

theorem sameE_iff {a b:Env}:sameE a b=true↔a=b:=by
 unfold sameE
 exact @decide_eq_true_iff (a=b) (Classical.propDecidable _)
@[simp] theorem sameE_self (a:Env):sameE a a=true:=sameE_iff.2 rfl

theorem roundsM_append {f:Env→Heap→Out}{keep:List Nat}{tE:Nat}{env:Env}{b n L:Nat}:∀{l m:List (AV×AV)} {H H':Heap},roundsM f keep tE env b n L (l++m) H=some H'↔∃H1,roundsM f keep tE env b n L l H=some H1∧roundsM f keep tE env b n L m H1=some H'
 | [],m,H,H'=>by simp[roundsM]
 | (k,v)::l,m,H,H'=>by
  simp only[List.cons_append,roundsM]
  cases f ((tE,.tup [k,v])::env) H with
  | none=>simp
  | some p=>
   obtain⟨x,e,H1⟩:=p
   cases x with
   | exit id=>simp
   | ret=>simp
   | nrm=>
    dsimp only
    split
    ·exact roundsM_append
    ·simp
theorem roundsM_one {f:Env→Heap→Out}{keep:List Nat}{tE:Nat}{env:Env}{b n L:Nat}{k v:AV}{H H':Heap}(h:roundsM f keep tE env b n L [(k,v)] H=some H'):∃e,f ((tE,.tup [k,v])::env) H=some (.nrm,e,H')∧restrict keep e=env∧okM H' b n L=true:=by
 simp only[roundsM]at h
 split at h
 ·rename_i e H1 hf
  split at h
  ·rename_i hc
   simp only[Option.some.injEq]at h
   subst h
   exact⟨e,hf,sameE_iff.1 hc.1,hc.2⟩
  ·cases h
 ·cases h
theorem okM_get {H:Heap}{b n L:Nat}(h:okM H b n L=true):(∃es,H[b]?=some (.map es)∧es.length=n∧unitVs es=true)∧H[L]?=some (.cells []):=by
 unfold okM at h
 rw[Bool.and_eq_true]at h
 obtain⟨h1,h2⟩:=h
 constructor
 ·split at h1
  ·rename_i es hb
   rw[Bool.and_eq_true]at h1
   exact⟨es,hb,by simpa using h1.1,h1.2⟩
  ·cases h1
 ·split at h2
  ·assumption
  ·cases h2
theorem unitVs_get {es:List (AV×AV)}(h:unitVs es=true){p:AV×AV}(hp:p∈es):p.2= .agg []:=by
 have:=List.all_eq_true.1 h p hp
 split at this
 ·assumption
 ·cases this
theorem ikOk_get:∀{es:List (AV×AV)},ikOk es=true→IK es
 | [],_=>⟨fun p h=>(by cases h),by simp⟩
 | (k,v)::r,h=>by
  simp only[ikOk,Bool.and_eq_true]at h
  obtain⟨h1,h2⟩:=h
  obtain⟨i1,i2⟩:=ikOk_get h2
  split at h1
  ·rename_i n
   refine⟨fun p hp=>?_,?_⟩
   ·rcases List.mem_cons.1 hp with rfl | hp
    ·exact⟨n,rfl⟩
    ·exact i1 p hp
   ·simp only[List.map_cons,List.nodup_cons]
    refine⟨fun hm=>?_,i2⟩
    obtain⟨p,hp,he⟩:=List.mem_map.1 hm
    have:=List.all_eq_true.1 h1 p hp
    rw[he]at this
    simp at this
  ·cases h1

def RmIso (f:Env→Heap→Out)(keep:List Nat)(pre:Nat→List (AV×AV)→Env→Heap→Bool)(tI tE:Nat):Prop:=
 ∀(env:Env) (H Hp:Heap) (b:Nat) (es:List (AV×AV)),Cl H.length H→rangeOf pre (.mp b) (restrict keep env) H=some (b,es)→
  roundsM f (tI::keep) tE ((tI,.hp H.length 0 0)::restrict keep env) b es.length H.length es (H++[.cells []])=some Hp→
  ∀es1:List (AV×AV),es1.Perm es→∃Hq s t,roundsM f (tI::keep) tE ((tI,.hp H.length 0 0)::restrict keep env) b es.length H.length es1 (H++[.cells []])=some Hq∧Iso (H.length+1) s t Hq Hp
def RmOks (C:Orc)(n lk lim:Nat):AC→Prop
 | .seq a b=>RmOks C n lk lim a∧RmOks C n lk lim b
 | .cond _ a b=>RmOks C n lk lim a∧RmOks C n lk lim b
 | .block _ b=>RmOks C n lk lim b
 | .loop _ b=>RmOks C n lk lim b
 | .rangeF _ _ _ _ a b=>RmOks C n lk lim a∧RmOks C n lk lim b
 | .rangeM keep pre _ tI tE body=>RmIso (fun e H=>exec C n lk lim body e H) keep (pre lk lim) tI tE∧RmOks C n lk lim body
 | _=>True
def noRm:AC→Bool
 | .seq a b=>noRm a&&noRm b
 | .cond _ a b=>noRm a&&noRm b
 | .block _ b=>noRm b
 | .loop _ b=>noRm b
 | .rangeF _ _ _ _ a b=>noRm a&&noRm b
 | .rangeM .. =>false
 | _=>true
theorem RmOks.of {C:Orc}{n lk lim:Nat}:∀{c:AC},noRm c=true→RmOks C n lk lim c
 | .skip,_=>trivial
 | .regN ..,_=>trivial
 | .regD ..,_=>trivial
 | .seq a b,h=>by
  simp only[noRm,Bool.and_eq_true]at h
  exact⟨RmOks.of h.1,RmOks.of h.2⟩
 | .cond c a b,h=>by
  simp only[noRm,Bool.and_eq_true]at h
  exact⟨RmOks.of h.1,RmOks.of h.2⟩
 | .block id b,h=>RmOks.of (c:=b) h
 | .loop keep b,h=>RmOks.of (c:=b) h
 | .rangeM ..,h=>by cases h
 | .rangeF _ _ _ _ a b,h=>by
  simp only[noRm,Bool.and_eq_true]at h
  exact⟨RmOks.of h.1,RmOks.of h.2⟩
 | .exit _,_=>trivial
 | .ret,_=>trivial
 | .bad,_=>trivial
 | .frz,_=>trivial

section
variable {P:Program}{φ0:Phi}{F0:Nat→Nat→Prop}{H0:Heap}{w0:World}{φ:Phi}{F:Nat→Nat→Prop}{H:Heap}{w:World}{β:Nat→Nat}{env:Env}{act:Act}{T:TT}{C:Orc}{lk lim:Nat}{pm:Pm}{ops:Array Oper}{Q:Exit→Act→World→Prop}

theorem runOps_sound2 (hC:OrcOk P C)(hT:pm.T=T):∀(l:List Oper) (m:List Oper) (k:Nat),ops.toList.drop k=l++m→∀{φ:Phi} {F:Nat→Nat→Prop} {H:Heap} {w:World} {β:Nat→Nat} {env:Env} {act:Act} {env':Env} {H':Heap},
  Full φ0 F0 H0 w0 φ F H w β env act T→runOps C lk lim (l.map (compI P pm ops)) env H=some (env',H')→
  (∀act' w',Post φ0 F0 H0 w0 H' env' T act' w'→wpOps P ops Q (List.range' (k+l.length) (ops.size-(k+l.length))) act' w')→wpOps P ops Q (List.range' k (ops.size-k)) act w
 | [],m,k,hk,φ,F,H,w,β,env,act,env',H',f,h,hQ=>by
  simp only[List.map_nil,runOps,Option.some.injEq,Prod.mk.injEq]at h
  obtain⟨rfl,rfl⟩:=h
  exact hQ _ _ ⟨_,_,_,f⟩
 | o::r,m,k,hk,φ,F,H,w,β,env,act,env',H',f,h,hQ=>by
  have hlt:k<ops.size:=by
   have:=congrArg List.length hk
   simp at this
   omega
  have ho:ops[k]?=some o:=by
   have:=congrArg (·[0]?) hk
   simpa[List.getElem?_drop] using this
  have hr:ops.toList.drop (k+1)=r++m:=by
   rw[←List.drop_drop,hk];rfl
  rw[show ops.size-k=(ops.size-(k+1))+1 from by omega,List.range'_succ,wpOps_cons]
  simp only[List.map_cons,runOps]at h
  split at h
  case h_2=>simp at h
  rename_i env1 H1 hs
  refine stepI_sound hC f ho hT hs (fun act' w' ⟨φ1,F1,β1,f1⟩=>runOps_sound2 hC hT r m (k+1) hr f1 h (fun act' w' hp=>?_))
  have:=hQ act' w' hp
  rwa [show k+(o::r).length=k+1+r.length from by simp;omega]at this

theorem wpOp_run {o:Oper}{i:Nat}{K:Act→World→Prop}{v:Value}{w':World}(ho:ops[i]?=some o)(hg:o.guard=none)(hrun:(execOp act.eval o).run P w= .ok (.value v) w')(hK:K (act.put o.dst v) w'):wpOp P ops Q i K act w:=by
 unfold wpOp
 rw[ho]
 dsimp only
 rw[if_pos (by simp[Region.wanted,hg])]
 exact .inl (by unfold Oper.wp;rw[hrun];exact hK)

theorem put_getD {d:Nat}{v:Value}(t:Nat)(hd:d<act.tmps.size):(act.put (some d) v).tmps.getD t undef=if t=d then v else act.tmps.getD t undef:=by
 simp only[Act.put,Array.getD_eq_getD_getElem?,Array.getElem?_setIfInBounds]
 by_cases h:t=d
 ·subst h
  simp[hd]
 ·rw[if_neg h,if_neg (Ne.symm h)]

theorem Full.deadT {d:Nat}{v:Value}(f:Full φ0 F0 H0 w0 φ F H w β env act T)(h:find env d= .dead):Full φ0 F0 H0 w0 φ F H w β env (act.put (some d) v) T:=by
 refine⟨⟨f.st.sr,by simp only[Act.put,Array.size_setIfInBounds];exact f.st.size,fun t=>?_,f.st.bphi,f.st.binj,f.st.bF⟩,f.ext,f.chg,f.phi,f.beta,f.dfr,f.frn⟩
 by_cases ht:t=d
 ·subst ht;rw[h];trivial
 ·have:=f.st.slot t
  have e:(act.put (some d) v).tmps.getD t undef=act.tmps.getD t undef:=by
   simp only[Act.put,Array.getD_eq_getD_getElem?,Array.getElem?_setIfInBounds,if_neg (Ne.symm ht)]
  rw[e];exact this
theorem Full.putT {d:Nat}{a:AV}{v:Value}(f:Full φ0 F0 H0 w0 φ F H w β env act T)(hb:noBx env=true)(ha:noBx [(d,a)]=true)(hd:d<T.n)(hr:ORel φ F H w β a v):Full φ0 F0 H0 w0 φ F H w β ((d,a)::env) (act.put (some d) v) T:=by
 have st:=f.st.put1 (dst:=some d) (env':=(d,a)::env) (fun d' h=>by cases h;exact hd) (by simp only[put,noBx_noRp hb d,if_true]) hr
 have nb:noBx ((d,a)::env)=true:=by
  cases a<;>simp only[noBx]at ha ⊢<;>first | exact hb | cases ha
 exact⟨st,f.ext,f.chg,f.phi,fun t cs ht=>absurd ht ((noBx_find nb t).1 cs),f.dfr,f.frn⟩

theorem Full.mark0 {k:Nat}(hb:noBx env=true)(f:Full φ0 F0 H0 w0 φ F H w β env act T):∃φ1:Phi,(∀b,b<H.length→φ1 b=φ b)∧φ1 H.length=(k,0)∧Full φ0 F0 H0 w0 φ1 F (H++[.cells []]) w β env act T:=by
 obtain⟨φ1,hφ⟩:∃φ1:Phi,φ1=fun b=>if b<H.length then φ b else (k,0):=⟨_,rfl⟩
 have h1:∀b,b<H.length→φ1 b=φ b:=fun b hb=>by rw[hφ];exact if_pos hb
 have get:∀{b:Nat} {x:HB},(H++[.cells []])[b]?=some x→(b<H.length∧H[b]?=some x)∨(b=H.length∧x= .cells []):=fun {b x} hx=>by
  by_cases hlt:b<H.length
  ·exact .inl ⟨hlt,by rwa [List.getElem?_append_left hlt]at hx⟩
  ·rw[List.getElem?_append_right (by omega)]at hx
   have:b-H.length=0:=by
    rcases Nat.eq_zero_or_pos (b-H.length) with h | h
    ·exact h
    ·rw[List.getElem?_eq_none (by simp;omega)]at hx;cases hx
   rw[this]at hx
   simp only[List.getElem?_cons_zero,Option.some.injEq]at hx
   exact .inr ⟨by omega,hx.symm⟩
 have lt:∀{b:Nat} {x:HB},H[b]?=some x→b<H.length:=fun h=>(List.getElem?_eq_some_iff.1 h).1
 have lv:∀b,live (H++[.cells []]) b→live H b∧b<H.length:=fun b ⟨x,hx,hl⟩=>by
  rcases get hx with⟨hlt,h⟩ | ⟨_,rfl⟩
  ·exact⟨⟨x,h,hl⟩,hlt⟩
  ·exact absurd rfl hl
 have e:Ext φ F H w φ1 F (H++[.cells []]) w:=⟨fun b cs hb=>⟨cs,by rw[List.getElem?_append_left (lt hb)];exact hb,Nat.le_refl _,fun _=>h1 b (lt hb)⟩,fun b es hb=>⟨⟨es,by rw[List.getElem?_append_left (lt hb)];exact hb⟩,h1 b (lt hb)⟩,fun k o hk=>⟨hk,rfl⟩,Wm.refl w⟩
 have sr:SR φ1 F (H++[.cells []]) w:=by
  refine⟨fun b cs hb hne=>?_,fun b es hb=>?_,fun b b' h2 h3 he=>?_,fun b o hl=>?_,f.st.sr.fsz⟩
  ·rcases get hb with⟨hlt,h⟩ | ⟨_,h⟩
   ·obtain⟨arr,ty,ha,hc⟩:=f.st.sr.blk b cs h hne
    rw[h1 b hlt]
    exact⟨arr,ty,ha,fun i a hi=>by
     obtain⟨v,hv,hr⟩:=hc i a hi
     exact⟨v,hv,hr.mono e⟩⟩
   ·injection h with h;exact absurd h hne
  ·rcases get hb with⟨hlt,h⟩ | ⟨_,h⟩
   ·obtain⟨ces,clk,ha,hr⟩:=f.st.sr.mblk b es h
    rw[h1 b hlt]
    exact⟨ces,clk,ha,hr.mono e⟩
   ·cases h
  ·obtain⟨g2,l2⟩:=lv b h2
   obtain⟨g3,l3⟩:=lv b' h3
   rw[h1 b l2,h1 b' l3]at he
   exact f.st.sr.inj b b' g2 g3 he
  ·obtain⟨g2,l2⟩:=lv b hl
   rw[h1 b l2];exact f.st.sr.phiF b o g2
 refine⟨φ1,h1,by rw[hφ];exact if_neg (Nat.lt_irrefl _),?_⟩
 exact f.next (Chg.refl w fun _=>False) (fun _ h=>h.elim) (f.st.over hb e sr) e (fun b hl=>.inl ⟨(lv b hl).1,(h1 b (lv b hl).2).symm⟩) (fun t cs ht=>absurd ht ((noBx_find hb t).1 cs)) rfl (fun _ _ h=>.inl h)

theorem VRel.refs {a:AV}{v:Value}(h:VRel φ F H w a v):Hm.below H.length a=true:=by
 induction h with
 | one h=>exact h.refs
 | agg cs vs h=>
  simp only[Hm.below]
  exact belowL_of_get fun i a ha=>by
   have hi:i<vs.length:=by rw[h.1];exact(List.getElem?_eq_some_iff.1 ha).1
   exact(h.2 i a vs[i] ha (by simp[hi])).refs
 | tup as vs hl _ ih=>
  simp only[Hm.below]
  exact belowL_of_get fun i a ha=>by
   have hi:i<vs.length:=by rw[hl];exact(List.getElem?_eq_some_iff.1 ha).1
   exact ih i a vs[i] ha (by simp[hi])
end
end Go.Hm

namespace Go.Hm
open Go Go.RowKit

def kb (ces:Array MapEntry):List (Value×Nat):=ces.toList.map fun e=>(e.key,e.born)
theorem kb_get {a b:Array MapEntry}(h:kb a=kb b){i:Nat}{e:MapEntry}(he:a[i]?=some e):∃e',b[i]?=some e'∧e'.key=e.key∧e'.born=e.born:=by
 have:=congrArg (·[i]?) h
 simp only[kb,List.getElem?_map,Array.getElem?_toList,he,Option.map_some]at this
 cases hb:b[i]? with
 | none=>rw[hb]at this;cases this
 | some e'=>
  rw[hb]at this
  simp only[Option.map_some,Option.some.injEq,Prod.mk.injEq]at this
  exact⟨e',rfl,this.1.symm,this.2.symm⟩
theorem kb_born {a b:Array MapEntry}(h:kb a=kb b):a.toList.map (·.born)=b.toList.map (·.born):=by
 have:=congrArg (·.map (·.2)) h
 simpa[kb,Function.comp_def] using this
theorem kb_size {a b:Array MapEntry}(h:kb a=kb b):a.size=b.size:=by
 have:=congrArg List.length h
 simpa[kb] using this

theorem left_kb {a b:Array MapEntry}(h:kb a=kb b)(s:Array Nat):(leftOf a s).size=(leftOf b s).size:=by
 have e:∀x:Array MapEntry,(leftOf x s).size=((kb x).filter fun p=>!s.contains p.2).length:=fun x=>by
  unfold leftOf kb
  rw[←Array.length_toList,Array.toList_filter,List.filter_map,List.length_map]
  rfl
 rw[e,e,h]
theorem nodup_perm {N:Nat}{vs:List Nat}(h1:vs.Nodup)(h2:∀v∈vs,v<N)(h3:∀v,v<N→v∈vs):vs.Perm (List.range N):=
 (List.perm_ext_iff_of_nodup h1 List.nodup_range).2 fun v=>⟨fun h=>List.mem_range.2 (h2 v h),fun h=>h3 v (List.mem_range.1 h)⟩

section
variable {P:Program}{C:Orc}{n lk lim:Nat}{pm:Pm}{T:TT}{ro:Option Nat}

def seenV (ces:Array MapEntry)(vs:List Nat):Array Nat:=(vs.map fun v=>((ces[v]?).map (·.born)).getD 0).toArray
structure LpI (φ0:Phi)(F0:Nat→Nat→Prop)(H0:Heap)(w0:World)(T:TT)(env1:Env)(L r b bm clk N:Nat)(ces:Array MapEntry)(go:List (AV×AV)→Heap→Prop)(g:Nat→AV×AV)(vs:List Nat)
  (φ:Phi) (F:Nat→Nat→Prop) (H:Heap) (w:World) (β:Nat→Nat) (act:Act):Prop where
 full:Full φ0 F0 H0 w0 φ F H w β env1 act T
 pL:φ L=(r,0)
 pb:(φ b).1=bm
 fr:F r 0
 ok:okM H b N L=true
 run:go (vs.map g) H
 nd:vs.Nodup
 lt:∀v∈vs,v<N
 map:∃ces',w.heap[bm]?=some (.map ces' clk)∧kb ces'=kb ces
 itr:∃c,clk≤c∧w.heap[r]?=some (.mapIter (some bm) clk (seenV ces vs) c)

theorem rm_rounds (hC:OrcOk P C)(hT:pm.T=T){l:List Deferred}(hl:T.rd=some l){tI tN tM tE kd id j k:Nat}{n2 eops:Array Oper}{rest:Code}{restC:AC}{keep k3:List Nat}{L r b bm clk N:Nat}{ces:Array MapEntry}{es0:List (AV×AV)}{env0:Env}{H1:Heap}
  {φ0:Phi} {F0:Nat→Nat→Prop} {H0:Heap} {w0:World} (hF0:∀k o,F0 k o→k<w0.heap.size) (hr0:w0.heap.size≤r)
  (hst:isStep tI n2=some (tN,tM)) (hen:isEnt tI eops=some tE) (hlt:tI<T.n∧tN<T.n∧tM<T.n∧tE<T.n) (hd2:noDefer n2=true) (hde:noDefer eops=true)
  (hkI:tI∉keep) (hkN:tN∉keep) (hkM:tM∉keep) (hnb:noBx (restrict keep env0)=true)
  (hst1:MapKept.Stamped ces clk) (hN:ces.size=N) (hN0:es0.length=N)
  (hent:∀(i:Nat) (e:MapEntry),ces[i]?=some e→∃x,es0[i]?=some (.val x,.agg [])∧scal x=true∧e.key=x)
  {f:Env→Heap→Out} (hf:f=fun e H=>exec C n lk lim (.block kd (.seq (.regN (tE::k3) (eops.toList.tail.map (compI P pm eops))) restC)) e H)
  (hrest:∀{φ:Phi} {F:Nat→Nat→Prop} {H:Heap} {w:World} {φ':Phi} {F':Nat→Nat→Prop} {H2:Heap} {w2:World} {β:Nat→Nat} {env:Env} {act:Act} {ex:Ex} {env':Env} {H':Heap} {Q:Exit→Act→World→Prop},(∀k o,F k o→k<w.heap.size)→Full φ F H w φ' F' H2 w2 β env act T→exec C n lk lim restC env H2=some (ex,env',H')→(∀act' w',Post φ F H w H' env' T act' w'→Q (exOf ex) act' w')→rest.wpIn (FR ro) 0 P Q act w2)
  (hall:∀es1:List (AV×AV),es1.Perm es0→∃Hq,roundsM f (tI::keep) tE ((tI,.hp L 0 0)::restrict keep env0) b N L es1 H1=some Hq)
  {Q:Exit→Act→World→Prop}
  (hdone:∀vs φ F H w β act,LpI φ0 F0 H0 w0 T ((tI,.hp L 0 0)::restrict keep env0) L r b bm clk N ces (fun l H=>roundsM f (tI::keep) tE ((tI,.hp L 0 0)::restrict keep env0) b N L l H1=some H) (fun i=>(es0[i]?).getD (.dead,.dead)) vs φ F H w β act→vs.Perm (List.range N)→Q (.exit id) act w):
  ∀(m:Nat) (vs:List Nat),(leftOf ces (seenV ces vs)).size≤m→∀φ F H w β act,LpI φ0 F0 H0 w0 T ((tI,.hp L 0 0)::restrict keep env0) L r b bm clk N ces (fun l H=>roundsM f (tI::keep) tE ((tI,.hp L 0 0)::restrict keep env0) b N L l H1=some H) (fun i=>(es0[i]?).getD (.dead,.dead)) vs φ F H w β act→
   Code.roundsIn (FR ro) 0 P (.seq (.region j n2 false) (.seq (.cond (.tmp tM) .skip (.exit id)) (.block kd (.seq (.region k eops false) rest)))) Q (m+1) act w:=by
 -- the step's instructions
 obtain⟨o1,o2,hn2,ho1,ho2⟩:∃o1 o2,n2.toList=[o1,o2]∧(o1.dst=some tN∧o1.op= .next (.tmp tI) false∧o1.guard=none)∧(o2.dst=some tM∧o2.op= .extract (.tmp tN) 0∧o2.guard=none)∧tN≠tI∧tM≠tI:=by
  unfold isStep at hst
  split at hst
  ·rename_i i nn y1 y2 y3 jj mm z1 z2 z3 he
   split at hst
   ·rename_i hc
    simp only[Option.some.injEq,Prod.mk.injEq]at hst
    obtain⟨rfl,rfl⟩:=hst
    obtain⟨rfl,rfl,h3,h4⟩:=hc
    exact⟨_,_,he,⟨rfl,rfl,rfl⟩,⟨rfl,rfl,rfl⟩,h3,h4⟩
   ·cases hst
  ·cases hst
 obtain⟨ho2,hNI,hMI⟩:=ho2
 obtain⟨oe,er,hee,hoe⟩:∃oe er,eops.toList=oe::er∧oe.dst=some tE∧oe.op= .entry (.tmp tI)∧oe.guard=none:=by
  unfold isEnt at hen
  split at hen
  ·rename_i i nn y1 y2 y3 rr he
   split at hen
   ·rename_i hc
    simp only[Option.some.injEq]at hen
    subst hen;subst hc
    exact⟨_,_,he,rfl,rfl,rfl⟩
   ·cases hen
  ·cases hen
 have g0:n2[0]?=some o1:=by rw[←Array.getElem?_toList,hn2];rfl
 have g1:n2[1]?=some o2:=by rw[←Array.getElem?_toList,hn2];rfl
 have ge:eops[0]?=some oe:=by rw[←Array.getElem?_toList,hee];rfl
 have sz2:n2.size=2:=by rw[←Array.length_toList,hn2];rfl
 have nd2:n2.toList.any (fun o=>isDefer o.op)=false:=by
  cases h:n2.toList.any (fun o=>isDefer o.op) with
  | false=>rfl
  | true=>
   obtain⟨o,ho,hd⟩:=List.any_eq_true.1 h
   have:=List.all_eq_true.1 hd2 o ho
   rw[hd]at this;cases this
 have nde:eops.toList.any (fun o=>isDefer o.op)=false:=by
  cases h:eops.toList.any (fun o=>isDefer o.op) with
  | false=>rfl
  | true=>
   obtain⟨o,ho,hd⟩:=List.any_eq_true.1 h
   have:=List.all_eq_true.1 hde o ho
   rw[hd]at this;cases this
 generalize hE1:(tI,AV.hp L 0 0)::restrict keep env0=env1 at hdone hall ⊢
 have fI:find env1 tI= .hp L 0 0:=by rw[←hE1];simp[find]
 have fO:∀t,t∉keep→t≠tI→find env1 t= .dead:=fun t h1 h2=>by
  rw[←hE1]
  simp only[find,if_neg (Ne.symm h2)]
  unfold restrict
  clear hkI hkN hkM hnb hdone hall hE1
  induction keep with
  | nil=>rfl
  | cons a r ih=>
   simp only[List.map_cons,find]
   rw[if_neg (fun e=>h1 (by subst e;simp))]
   exact ih (fun hm=>h1 (List.mem_cons_of_mem _ hm))
 have nb1:noBx env1=true:=by rw[←hE1];exact hnb
 have unit:∀{φ:Phi} {F:Nat→Nat→Prop} {H:Heap} {w:World} {v:Value},VRel φ F H w (.agg []) v→v= .agg #[]:=fun h=>by
  cases h with
  | one h=>cases h
  | agg cs vs h=>
   have:vs=[]:=List.eq_nil_of_length_eq_zero h.1
   subst this;rfl
 have step:∀(K:Act→World→Prop) (vs:List Nat) φ F H w β act,LpI φ0 F0 H0 w0 T env1 L r b bm clk N ces (fun l H=>roundsM f (tI::keep) tE env1 b N L l H1=some H) (fun i=>(es0[i]?).getD (.dead,.dead)) vs φ F H w β act→
   (∀vs' φ' F' H' w' β' act',(leftOf ces (seenV ces vs')).size<(leftOf ces (seenV ces vs)).size→LpI φ0 F0 H0 w0 T env1 L r b bm clk N ces (fun l H=>roundsM f (tI::keep) tE env1 b N L l H1=some H) (fun i=>(es0[i]?).getD (.dead,.dead)) vs' φ' F' H' w' β' act'→K act' w')→
   (Code.seq (.region j n2 false) (.seq (.cond (.tmp tM) .skip (.exit id)) (.block kd (.seq (.region k eops false) rest)))).wpIn (FR ro) 0 P (Exit.then K Q) act w:=by
  intro K vs φ F H w β act I hK
  obtain⟨full,pL,pb,fr,ok,run,nd,lt,⟨ces',hm,hkb⟩,c,hc,hi⟩:=I
  obtain⟨⟨esH,hbH,hlH,huH⟩,hLH⟩:=okM_get ok
  have tsz:act.tmps.size=T.n:=full.st.size
  have hptr:act.tmps.getD tI undef= .pointer (some ⟨r,0,none⟩):=by
   have h:=full.st.slot tI
   rw[fI]at h
   have h:VRel φ F H w (.hp L 0 0) (act.tmps.getD tI undef):=h
   generalize act.tmps.getD tI undef=v at h
   cases h with
   | one h=>
    cases h with
    | hp _ _ _ cs a hb hg h=>
     rw[hLH]at hb
     cases hb
     obtain⟨_,rfl⟩:=h rfl
     simp[pL]
  have hborn:ces'.toList.map (·.born)=ces.toList.map (·.born):=kb_born hkb
  have hold:∀x∈ces'.toList,x.born<clk:=fun x hx=>by
   have:x.born∈ces.toList.map (·.born):=hborn▸List.mem_map.2 ⟨x,hx,rfl⟩
   obtain⟨y,hy,e⟩:=List.mem_map.1 this
   rw[←e];exact hst1.1 y hy
  have lets:∀{X:Act→World→Prop},¬LetsOut (fun e a w=>e=Exit.normal∧X a w):=fun⟨a,w,h,_⟩=>by cases h
  refine wpIn_seq (wpIn_mono (Q:=fun e a w=>e=Exit.normal∧(Code.seq (.cond (.tmp tM) .skip (.exit id)) (.block kd (.seq (.region k eops false) rest))).wpIn (FR ro) 0 P (Exit.then K Q) a w) (wpIn_region (opsIn_of nd2 lets _ _ _ ?_)) ?_)
  case refine_2=>rintro e a w ⟨rfl,h⟩;exact h
  rw[sz2,show List.range 2=[0,1] from rfl,wpOps_cons]
  have seen_mem:∀(i:Nat) (e:MapEntry),ces'[i]?=some e→((seenV ces vs).contains e.born=true↔i∈vs):=fun i e he=>by
   obtain⟨e0,he0,_,hb0⟩:=kb_get hkb he
   unfold seenV
   rw[List.contains_toArray,List.contains_iff_mem,List.mem_map]
   constructor
   ·rintro⟨v,hv,hve⟩
    have hvN:=lt v hv
    have hvl:v<ces.size:=by omega
    rw[Array.getElem?_eq_getElem hvl]at hve
    simp only[Option.map_some,Option.getD_some]at hve
    have hil:i<ces.size:=(Array.getElem?_eq_some_iff.1 he0).1
    have hnd:=hst1.2.1
    have e1:(ces.toList.map (·.born))[v]?=some e.born:=by
     rw[List.getElem?_map,Array.getElem?_toList,Array.getElem?_eq_getElem hvl];simp[hve]
    have e2:(ces.toList.map (·.born))[i]?=some e.born:=by
     rw[List.getElem?_map,Array.getElem?_toList,he0];simp[hb0]
    have:=(List.getElem?_inj (by simpa using hvl) hnd).1 (e1.trans e2.symm)
    subst this;exact hv
   ·intro hv
    exact⟨i,hv,by rw[he0];simp[hb0]⟩
  have n1:act.defers=l:=by
   have:=full.dfr
   unfold Dfr at this
   rw[hl]at this;exact this
  rcases run_next_at (P:=P) w o1.type r bm clk c (seenV ces vs) ces' clk hi hm hold hc with⟨h0,hrun⟩ | ⟨e,he,w1,hw1,hrun⟩
  ·-- nothing is left
   refine wpOp_run g0 ho1.2.2 (v:=.tuple #[.bool false]) (w':=w) (by
    simp only[execOp,ho1.2.1,Act.eval,hptr,Sem.run_bind,hrun];rfl) ?_
   rw[ho1.1,wpOps_cons]
   refine wpOp_run g1 ho2.2.2 (v:=.bool false) (w':=w) (by
    simp only[execOp,ho2.2.1,Act.eval,put_getD tN (show tN<act.tmps.size by omega),if_true,Sem.run_bind];rfl) ?_
   rw[ho2.1]
   have hsz2:(act.put (some tN) (.tuple #[.bool false])).tmps.size=T.n:=by simp only[Act.put,Array.size_setIfInBounds];exact tsz
   refine⟨rfl,wpIn_seq (wpIn_cond (t:=false) ?_ (wpIn_exit ?_))⟩
   ·simp only[Act.eval]
    rw[put_getD tM (by omega),if_pos rfl]
   ·refine hdone vs φ F H w β _ ⟨(full.deadT (fO tN hkN hNI)).deadT (fO tM hkM hMI),pL,pb,fr,ok,run,nd,lt,⟨ces',hm,hkb⟩,c,hc,hi⟩ (nodup_perm nd lt fun v hv=>?_)
    have hvl:v<ces'.size:=by rw[kb_size hkb];omega
    exact(seen_mem v _ (Array.getElem?_eq_getElem hvl)).1 (all_seen ces' _ h0 _ (by simp))
  ·-- an entry has come
   have hmem:=mem_left he
   obtain⟨i,hi1⟩:=List.getElem?_of_mem hmem.1
   rw[Array.getElem?_toList]at hi1
   obtain⟨e0,he0,hk0,hb0⟩:=kb_get hkb hi1
   obtain⟨x,hx,hxs,hxk⟩:=hent i e0 he0
   have hiN:i<N:=by rw[←hN];exact(Array.getElem?_eq_some_iff.1 he0).1
   have hiv:i∉vs:=fun h=>by
    have:=(seen_mem i e hi1).2 h
    rw[hmem.2]at this;cases this
   have hval:e.val= .agg #[]:=by
    obtain⟨ces4,clk4,h4,es4,hep,hm4⟩:=full.st.sr.mblk b esH hbH
    rw[pb,hm]at h4
    cases h4
    have hl4:i<es4.length:=by rw[←hm4.size,kb_size hkb];omega
    obtain⟨_,_,e5,h5,_,h6⟩:=hm4.ent i es4[i].1 es4[i].2 (by rw[List.getElem?_eq_getElem hl4])
    rw[hi1]at h5
    cases h5
    have hin:es4[i]∈esH:=by
     rcases hep with rfl | ⟨hp,_⟩
     ·exact List.getElem_mem hl4
     ·exact hp.mem_iff.1 (List.getElem_mem hl4)
    rw[unitVs_get huH hin]at h6
    exact unit h6
   have hkey:e.key=x:=by rw[←hk0,hxk]
   -- the world behind the step
   obtain⟨FA,fA,hFA,hw1h⟩:∃FA,Full φ0 F0 H0 w0 φ FA H w1 β env1 act T∧(∀k o,F k o→FA k o)∧w1.heap=w.heap:=by
    rcases hw1 with rfl | rfl
    ·exact⟨F,full,fun _ _ h=>h,rfl⟩
    ·exact⟨_,full.grown nb1 (Below.refl w.heap.size w).drew,fun _ _ h=>.inl h,rfl⟩
   have hi':w1.heap[r]?=some (.mapIter (some bm) clk (seenV ces vs) c):=by rw[hw1h];exact hi
   have hrl:r<w1.heap.size:=(Array.getElem?_eq_some_iff.1 hi').1
   generalize hob:Obj.mapIter (some bm) clk ((seenV ces vs).push e.born) clk=ob at hrun
   have hobo:oth ob=true:=by rw[←hob];rfl
   have hrun:(Instr.next (.pointer (some ⟨r,0,none⟩)) false o1.type).run P w= .ok (.tuple #[.bool true,e.key,e.val]) (w1.putObj r ob):=hrun
   have fB:Full φ0 F0 H0 w0 φ FA H (w1.putObj r ob) β env1 act T:=fA.turn0 hF0 ⟨⟨_,hi',rfl⟩,hobo⟩ hr0 rfl (by unfold Dfr;rw[hl];exact n1)
   have hrb:r≠bm:=fun h=>by subst h;rw[hi]at hm;cases hm
   have hm2:(w1.putObj r ob).heap[bm]?=some (.map ces' clk):=by rw[heap_turn (Ne.symm hrb),hw1h];exact hm
   have hi2:(w1.putObj r ob).heap[r]?=some ob:=World.putObj_heap_same hrl
   generalize w1.putObj r ob=w2 at hrun fB hm2 hi2
   refine wpOp_run g0 ho1.2.2 (v:=.tuple #[.bool true,e.key,e.val]) (w':=w2) (by
    simp only[execOp,ho1.2.1,Act.eval,hptr,Sem.run_bind,hrun];rfl) ?_
   rw[ho1.1,wpOps_cons]
   refine wpOp_run g1 ho2.2.2 (v:=.bool true) (w':=w2) (by
    simp only[execOp,ho2.2.1,Act.eval,put_getD tN (show tN<act.tmps.size by omega),if_true,Sem.run_bind];rfl) ?_
   rw[ho2.1]
   have hsz2:(act.put (some tN) (.tuple #[.bool true,e.key,e.val])).tmps.size=T.n:=by simp only[Act.put,Array.size_setIfInBounds];exact tsz
   have hptr2:((act.put (some tN) (.tuple #[.bool true,e.key,e.val])).put (some tM) (.bool true)).tmps.getD tI undef= .pointer (some ⟨r,0,none⟩):=by
    rw[put_getD tI (by omega),if_neg (Ne.symm hMI),put_getD tI (by omega),if_neg (Ne.symm hNI),hptr]
   have hcnd:((act.put (some tN) (.tuple #[.bool true,e.key,e.val])).put (some tM) (.bool true)).eval (.tmp tM)= .bool true:=by
    simp only[Act.eval]
    rw[put_getD tM (by omega),if_pos rfl]
   have hdf2:((act.put (some tN) (.tuple #[.bool true,e.key,e.val])).put (some tM) (.bool true)).defers=l:=n1
   have hsz3:((act.put (some tN) (.tuple #[.bool true,e.key,e.val])).put (some tM) (.bool true)).tmps.size=T.n:=by simp only[Act.put,Array.size_setIfInBounds];exact tsz
   have fC:=(fB.deadT (v:=.tuple #[.bool true,e.key,e.val]) (fO tN hkN hNI)).deadT (v:=.bool true) (fO tM hkM hMI)
   generalize (act.put (some tN) (.tuple #[.bool true,e.key,e.val])).put (some tM) (.bool true)=act2 at fC hptr2 hcnd hdf2 hsz3 ⊢
   refine⟨rfl,wpIn_seq (wpIn_cond (t:=true) hcnd (wpIn_skip (wpIn_block (wpIn_seq ?_))))⟩
   refine wpIn_mono (Q:=fun e a w=>e=Exit.normal∧rest.wpIn (FR ro) 0 P (Exit.inBlock kd (Exit.then K Q)) a w) (wpIn_region (opsIn_of nde lets _ _ _ ?_)) ?_
   case refine_2=>rintro e a w ⟨rfl,h⟩;exact h
   have hse:eops.size=er.length+1:=by rw[←Array.length_toList,hee];rfl
   rw[hse,show List.range (er.length+1)=0::List.range' 1 er.length from by rw[List.range_eq_range',List.range'_succ],wpOps_cons]
   refine wpOp_run ge hoe.2.2 (v:=.tuple #[e.key,e.val]) (w':=w2) (by
    simp only[execOp,hoe.2.1,Act.eval,hptr2,Sem.run_bind]
    rw[run_entry_at w2 r bm clk (seenV ces vs) ces' clk e (hob▸hi2) hm2 hmem.1 (hborn▸hst1.2.1)];rfl) ?_
   rw[hoe.1]
   -- the machine's round
   have hsplit:∃rst:List Nat,(vs++i::rst).Perm (List.range N):=by
    have h1:((vs++[i])++(List.range N).filter (fun v=>!(vs++[i]).contains v)).Perm (List.range N):=by
     refine(List.perm_ext_iff_of_nodup ?_ List.nodup_range).2 fun v=>?_
     ·refine List.nodup_append.2 ⟨List.nodup_append.2 ⟨nd,by simp,fun a ha b hb=>by simp at hb;subst hb;exact fun e=>hiv (e▸ha)⟩,List.nodup_range.filter _,fun a ha b hb=>?_⟩
      intro e;subst e
      have:=(List.mem_filter.1 hb).2
      simp at this
      simp at ha
      rcases ha with ha | ha
      ·exact this.1 ha
      ·exact this.2 ha
     ·rw[List.mem_append,List.mem_filter,List.mem_range]
      constructor
      ·rintro (h | h)
       ·rcases List.mem_append.1 h with h | h
        ·exact lt v h
        ·simp at h;omega
       ·exact h.1
      ·intro hv
       by_cases hc:v∈vs++[i]
       ·exact .inl hc
       ·exact .inr ⟨hv,by simpa using hc⟩
    exact⟨_,by simpa using h1⟩
   obtain⟨rst,hperm⟩:=hsplit
   have hperm2:((vs++i::rst).map fun i=>(es0[i]?).getD (.dead,.dead)).Perm es0:=by
    have h1:=hperm.map fun i=>(es0[i]?).getD ((.dead,.dead):AV×AV)
    have h2:(List.range N).map (fun i=>(es0[i]?).getD ((.dead,.dead):AV×AV))=es0:=by
     apply List.ext_getElem?
     intro q
     rw[List.getElem?_map]
     by_cases hq:q<N
     ·rw[List.getElem?_range hq]
      simp[List.getElem?_eq_getElem (show q<es0.length by omega)]
     ·rw[List.getElem?_eq_none (by simp;omega),List.getElem?_eq_none (by omega)];rfl
    rwa [h2]at h1
   obtain⟨Hq,hq⟩:=hall _ hperm2
   rw[List.map_append,List.map_cons]at hq
   obtain⟨Hz,hz1,hz2⟩:=roundsM_append.1 hq
   rw[run]at hz1
   cases hz1
   rw[show (es0[i]?).getD ((.dead,.dead):AV×AV)=(.val x,.agg []) from by rw[hx];rfl]at hz2
   obtain⟨H',hz3,_⟩:=(roundsM_append (l:=[(AV.val x,AV.agg [])])).1 hz2
   obtain⟨e',hfx,hse',hokH'⟩:=roundsM_one hz3
   rw[hf]at hfx
   simp only[exec]at hfx
   obtain⟨e1,h1,ex1,hops,hrx,hex1⟩:∃e1 h1 ex1,runOps C lk lim (eops.toList.tail.map (compI P pm eops)) (restrict (tE::k3) ((tE,.tup [.val x,.agg []])::env1)) H=some (e1,h1)∧exec C n lk lim restC e1 h1=some (ex1,e',H')∧(ex1= .nrm∨ex1= .exit kd):=by
    cases hro:runOps C lk lim (eops.toList.tail.map (compI P pm eops)) (restrict (tE::k3) ((tE,.tup [.val x,.agg []])::env1)) H with
    | none=>rw[hro]at hfx;cases hfx
    | some p=>
     obtain⟨e1,h1⟩:=p
     rw[hro]at hfx
     dsimp only at hfx
     refine⟨e1,h1,?_⟩
     cases hrx:exec C n lk lim restC e1 h1 with
     | none=>rw[hrx]at hfx;cases hfx
     | some p=>
      obtain⟨x1,e2,h2⟩:=p
      rw[hrx]at hfx
      cases x1 with
      | nrm=>
       simp only[Option.some.injEq,Prod.mk.injEq,true_and]at hfx
       obtain⟨rfl,rfl⟩:=hfx
       exact⟨.nrm,rfl,rfl,.inl rfl⟩
      | ret=>simp at hfx
      | exit id'=>
       dsimp only at hfx
       split at hfx
       ·rename_i hid
        simp only[Option.some.injEq,Prod.mk.injEq,true_and]at hfx
        obtain⟨rfl,rfl⟩:=hfx
        exact⟨.exit id',rfl,rfl,.inr (by rw[hid])⟩
       ·simp at hfx
   have fD:Full φ FA H w2 φ FA H w2 β env1 act2 T:=⟨fC.st,Ext.refl _ _ _ _,Chg.refl _ _,fun b hl=>.inl ⟨hl,rfl⟩,fun t cs ht=>absurd ht ((noBx_find nb1 t).1 cs),by unfold Dfr;rw[hl];exact hdf2,fun _ _ h=>.inl h⟩
   have fE:Full φ FA H w2 φ FA H w2 β ((tE,.tup [.val x,.agg []])::env1) (act2.put (some tE) (.tuple #[e.key,e.val])) T:=by
    refine fD.putT nb1 rfl hlt.2.2.2 ?_
    rw[hkey,hval]
    refine VRel.tup [.val x,.agg []] [x,.agg #[]] rfl fun q a v ha hv=>?_
    match q with
    | 0=>simp at ha hv;subst ha;subst hv;exact .one (.val x hxs)
    | 1=>simp at ha hv;subst ha;subst hv;exact .agg [] [] ⟨rfl,fun i a v ha=>by simp at ha⟩
    | q+2=>simp at ha
   have fG:=fE.sub (find_restrict (tE::k3) ((tE,.tup [.val x,.agg []])::env1))
   have hFA2:=fC.st.sr.fsz
   rw[hee,List.tail_cons]at hops
   have key:=runOps_sound (P:=P) (ops:=eops) (Q:=fun e a w=>e=Exit.normal∧rest.wpIn (FR ro) 0 P (Exit.inBlock kd (Exit.then K Q)) a w) hC hT er 1 (by rw[hee];rfl) fG hops (fun act' w' ⟨φ1,F1,β1,f1⟩=>⟨rfl,hrest hFA2 f1 hrx (fun act'' w'' ⟨φ2,F2,β2,f2⟩=>?_)⟩)
   ·rw[hse]at key
    exact key
   suffices hKK:K act'' w'' by
    rcases hex1 with rfl | rfl
    ·exact hKK
    ·show (if kd=kd then _ else _)
     rw[if_pos rfl];exact hKK
   have hborn2:seenV ces (vs++[i])=(seenV ces vs).push e.born:=by
    unfold seenV
    rw[List.map_append,List.push_toArray]
    simp[he0,hb0]
   obtain⟨⟨esH',hbH',hlH',huH'⟩,hLH'⟩:=okM_get hokH'
   have hFr:FA r 0:=hFA r 0 fr
   have hpb2:φ2 b=φ b:=(f2.ext.map b esH hbH).2
   refine hK (vs++[i]) φ2 F2 H' w'' β2 act'' ?_ ⟨?_,?_,by rw[hpb2,pb],(f2.ext.frz r 0 hFr).1,hokH',?_,?_,?_,?_,?_⟩
   ·rw[hborn2,←left_kb hkb,←left_kb hkb]
    exact left_shrinks ces' _ e he
   ·have f3:=f2.sub (find_restrict (tI::keep) e')
    rw[hse']at f3
    refine fC.next f3.chg (fun k h=>.inl h) f3.st f3.ext f3.phi (fun t cs ht=>absurd ht ((noBx_find nb1 t).1 cs)) ?_ f3.frn
    have:=f3.dfr
    unfold Dfr at this
    rw[hl]at this
    rw[hdf2];exact this
   ·obtain⟨cs',h3,h4,h5⟩:=f2.ext.len L [] hLH
    rw[hLH']at h3
    cases h3
    rw[h5 rfl,pL]
   ·rw[List.map_append]
    exact roundsM_append.2 ⟨H,run,by
     rw[List.map_cons,List.map_nil,show (es0[i]?).getD ((.dead,.dead):AV×AV)=(.val x,.agg []) from by rw[hx];rfl]
     exact hz3⟩
   ·exact List.nodup_append.2 ⟨nd,by simp,fun a ha b hb=>by simp at hb;subst hb;exact fun e=>hiv (e▸ha)⟩
   ·intro v hv
    rcases List.mem_append.1 hv with h | h
    ·exact lt v h
    ·simp at h;omega
   ·obtain⟨ces5,clk5,h5,hg5⟩:=f2.ext.wm.map bm ces' clk hm2
    obtain⟨ces6,clk6,h6,hm6⟩:=f2.st.sr.mblk b esH' hbH'
    rw[hpb2,pb,h5]at h6
    cases h6
    have hs6:=hm6.size
    obtain⟨rfl,hg6⟩:=hg5.2 (by rw[hs6,hlH',←hN,kb_size hkb])
    exact⟨ces5,h5,hg6.trans hkb⟩
   ·refine⟨clk,Nat.le_refl _,?_⟩
    rw[(f2.ext.frz r 0 hFr).2,hi2,hborn2,hob]
 intro m
 induction m with
 | zero=>
  intro vs hm φ F H w β act I
  rw[roundsIn_succ]
  exact step _ vs φ F H w β act I fun vs' φ' F' H' w' β' act' hlt _=>by omega
 | succ m ih=>
  intro vs hm φ F H w β act I
  rw[roundsIn_succ]
  exact step _ vs φ F H w β act I fun vs' φ' F' H' w' β' act' hlt I'=>ih vs' (by omega) φ' F' H' w' β' act' I'
end
end Go.Hm

namespace Go.Hm
open Go Go.RowKit

section
variable {P:Program}{φ0:Phi}{F0:Nat→Nat→Prop}{H0:Heap}{w0:World}{φ:Phi}{F:Nat→Nat→Prop}{H Hp:Heap}{w:World}{β:Nat→Nat}{env:Env}{act:Act}{T:TT}{n:Nat}{s t:Nat→Nat}

theorem Full.iso (h:Iso n s t H Hp)(hb:noBx env=true)(f:Full φ0 F0 H0 w0 φ F H w β env act T)(h0:∀b x,H0[b]?=some x→x≠.hole→b<n)(hv:∀q,ren s (find env q)=find env q):
  Full φ0 F0 H0 w0 (fun b=>φ (t b)) F Hp w β env act T:=by
 have lt:∀{b:Nat} {x:HB},H[b]?=some x→b<H.length:=fun h=>(List.getElem?_eq_some_iff.1 h).1
 have tn:∀{b:Nat},b<n→b<H.length→t b=b:=fun {b} h1 h2=>by
  have:=(h.ts b h2).2
  rwa [h.low b h1]at this
 refine⟨⟨f.st.sr.iso h,f.st.size,fun q=>?_,fun q cs b hq=>absurd hq ((noBx_find hb q).1 cs),fun q q' cs cs' hq=>absurd hq ((noBx_find hb q).1 cs),fun q cs o hq=>absurd hq ((noBx_find hb q).1 cs)⟩,⟨fun b cs hb'=>?_,fun b es hb'=>?_,f.ext.frz,f.ext.wm⟩,f.chg,fun b hl=>?_,fun q cs hq=>absurd hq ((noBx_find hb q).1 cs),f.dfr,f.frn⟩
 ·have hs:=f.st.slot q
  have h1:=hv q
  have h2:=noBx_find hb q
  generalize find env q=a at hs h1 h2 ⊢
  have main:∀{a:AV},ren s a=a→VRel φ F H w a (act.tmps.getD q undef)→VRel (fun b=>φ (t b)) F Hp w a (act.tmps.getD q undef):=fun e hr=>e▸hr.iso h
  cases a
  case box cs=>exact absurd rfl (h2.1 cs)
  case rp d o=>exact absurd rfl (h2.2 d o)
  case und=>exact hs
  case dead=>trivial
  all_goals exact main h1 hs
 ·obtain⟨cs',h1,h2,h3⟩:=f.ext.len b cs hb'
  have hbn:=h0 b _ hb' (by simp)
  have h4:=h.cells h1
  rw[h.low b hbn]at h4
  refine⟨_,h4,by simpa using h2,fun e=>?_⟩
  simp only[List.length_map]at e
  show φ (t b)=φ0 b
  rw[tn hbn (lt h1)];exact h3 e
 ·obtain⟨⟨es',h1⟩,h2⟩:=f.ext.map b es hb'
  have hbn:=h0 b _ hb' (by simp)
  obtain⟨y,h3,es2,h4,_⟩:=h.blk b _ h1
  rw[h.low b hbn]at h3
  exact⟨⟨es2,by rw[h3,h4]⟩,by show φ (t b)=φ0 b;rw[tn hbn (lt h1)];exact h2⟩
 ·obtain⟨y,hy,hly⟩:=hl
  obtain⟨x,h3,h4⟩:=h.back hy
  have hlx:live H (t b):=by
   refine⟨x,h3,?_⟩
   cases x with
   | hole=>rw[show y= .hole from h4]at hly;exact hly
   | cells cs=>
    rw[show y=_ from h4]at hly
    intro e;subst e;exact hly rfl
   | map es=>trivial
  rcases f.phi (t b) hlx with⟨h5,h6⟩ | h5
  ·obtain⟨z,hz,hlz⟩:=h5
   have hbn:=h0 (t b) z hz (fun e=>by subst e;exact hlz)
   have hbl:b<H.length:=by rw[←h.len];exact(List.getElem?_eq_some_iff.1 hy).1
   have e1:=(h.st b hbl).2
   rw[h.low _ hbn]at e1
   refine .inl ⟨?_,?_⟩
   ·rw[←e1];exact⟨z,hz,hlz⟩
   ·show φ0 b=φ (t b)
    rw[←h6,e1]
  ·exact .inr h5

variable {C:Orc}{k lk lim:Nat}{pm:Pm}{ro:Option Nat}

theorem rm_sound (hC:OrcOk P C)(hT:pm.T=T){l:List Deferred}(hl:T.rd=some l)(hF0:∀k o,F0 k o→k<w0.heap.size){i j kk id kd tI tN tM tE:Nat}{x:Operand}{ops n2 eops:Array Oper}{rest:Code}{restC:AC}{keepA keep k3:List Nat}{pre:Nat→Nat→Nat→List (AV×AV)→Env→Heap→Bool}
  (hrg:isRng P ops=some (x,tI)) (hst:isStep tI n2=some (tN,tM)) (hen:isEnt tI eops=some tE) (hlt:tI<T.n∧tN<T.n∧tM<T.n∧tE<T.n) (hda:noDefer ops=true) (hd2:noDefer n2=true) (hde:noDefer eops=true)
  (hkI:tI∉keep) (hkN:tN∉keep) (hkM:tM∉keep)
  (hiso:RmIso (fun e H=>exec C k lk lim (.block kd (.seq (.regN (tE::k3) (eops.toList.tail.map (compI P pm eops))) restC)) e H) keep (pre lk lim) tI tE)
  (hrest:∀{φ:Phi} {F:Nat→Nat→Prop} {H:Heap} {w:World} {φ':Phi} {F':Nat→Nat→Prop} {H2:Heap} {w2:World} {β:Nat→Nat} {env:Env} {act:Act} {ex:Ex} {env':Env} {H':Heap} {Q:Exit→Act→World→Prop},(∀k o,F k o→k<w.heap.size)→Full φ F H w φ' F' H2 w2 β env act T→exec C k lk lim restC env H2=some (ex,env',H')→(∀act' w',Post φ F H w H' env' T act' w'→Q (exOf ex) act' w')→rest.wpIn (FR ro) 0 P Q act w2)
  (f:Full φ0 F0 H0 w0 φ F H w β env act T) {ex:Ex} {env':Env} {H':Heap}
  (h:exec C k lk lim (.seq (.regN keepA (ops.toList.dropLast.map (compI P pm ops))) (.rangeM keep pre (cO x) tI tE (.block kd (.seq (.regN (tE::k3) (eops.toList.tail.map (compI P pm eops))) restC)))) env H=some (ex,env',H'))
  {Q:Exit→Act→World→Prop} (hQ:∀act' w',Post φ0 F0 H0 w0 H' env' T act' w'→Q (exOf ex) act' w'):
  (Code.region i ops false).wpIn (FR ro) 0 P (Exit.then ((Code.block id (.loop (.seq (.region j n2 false) (.seq (.cond (.tmp tM) .skip (.exit id)) (.block kd (.seq (.region kk eops false) rest)))))).wpIn (FR ro) 0 P Q) Q) act w:=by
 -- the region ahead
 obtain⟨ini,oR,Tm,kT,eT,hops,hoR,hTm⟩:∃ini oR Tm kT eT,ops.toList=ini++[oR]∧(oR.dst=some tI∧oR.op= .range Tm x∧oR.guard=none)∧P.underlying Tm=some (.map kT eT):=by
  unfold isRng at hrg
  split at hrg
  ·rename_i t y1 x' y2 y3 y4 he
   split at hrg
   ·rename_i kT eT hu
    simp only[Option.some.injEq,Prod.mk.injEq]at hrg
    obtain⟨rfl,rfl⟩:=hrg
    obtain⟨ini,hi⟩:=List.getLast?_eq_some_iff.1 he
    exact⟨ini,_,_,kT,eT,hi,⟨rfl,rfl,rfl⟩,hu⟩
   ·cases hrg
  ·cases hrg
 have nda:ops.toList.any (fun o=>isDefer o.op)=false:=by
  cases h:ops.toList.any (fun o=>isDefer o.op) with
  | false=>rfl
  | true=>
   obtain⟨o,ho,hd⟩:=List.any_eq_true.1 h
   have:=List.all_eq_true.1 hda o ho
   rw[hd]at this;cases this
 have lets:∀{X:Act→World→Prop},¬LetsOut (fun e a w=>e=Exit.normal∧X a w):=fun⟨a,w,h,_⟩=>by cases h
 simp only[exec]at h
 rw[show ops.toList.dropLast=ini from by rw[hops];simp]at h
 cases hro:runOps C lk lim (ini.map (compI P pm ops)) (restrict keepA env) H with
 | none=>rw[hro]at h;cases h
 | some p=>
 obtain⟨e1,H1⟩:=p
 rw[hro]at h
 dsimp only at h
 cases hrgo:rangeOf (pre lk lim) (ev e1 (cO x)) (restrict keep e1) H1 with
 | none=>rw[hrgo]at h;cases h
 | some p=>
 obtain⟨b,es⟩:=p
 rw[hrgo]at h
 dsimp only at h
 split at h
 case h_2=>cases h
 rename_i Hp hrounds
 simp only[Option.some.injEq,Prod.mk.injEq]at h
 obtain⟨rfl,rfl,rfl⟩:=h
 have hrgo':=hrgo
 obtain⟨hx,hb,hnb,hik,hun⟩:ev e1 (cO x)= .mp b∧H1[b]?=some (.map es)∧noBx (restrict keep e1)=true∧ikOk es=true∧unitVs es=true:=by
  unfold rangeOf at hrgo
  split at hrgo
  case h_2=>cases hrgo
  rename_i b' hx
  split at hrgo
  case h_2=>cases hrgo
  rename_i es' hb
  split at hrgo
  case isFalse=>cases hrgo
  rename_i hc
  simp only[Option.some.injEq,Prod.mk.injEq]at hrgo
  obtain⟨rfl,rfl⟩:=hrgo
  exact⟨hx,hb,hc.1,hc.2.1,hc.2.2.1⟩
 rw[hx]at hrgo'
 refine wpIn_mono (Q:=fun e a w=>e=Exit.normal∧(Code.block id (.loop (.seq (.region j n2 false) (.seq (.cond (.tmp tM) .skip (.exit id)) (.block kd (.seq (.region kk eops false) rest)))))).wpIn (FR ro) 0 P Q a w) (wpIn_region (opsIn_of nda lets _ _ _ ?_)) ?_
 case refine_2=>rintro e a w ⟨rfl,h⟩;exact h
 have key:=runOps_sound2 (P:=P) (ops:=ops) (Q:=fun e a w=>e=Exit.normal∧(Code.block id (.loop (.seq (.region j n2 false) (.seq (.cond (.tmp tM) .skip (.exit id)) (.block kd (.seq (.region kk eops false) rest)))))).wpIn (FR ro) 0 P Q a w) hC hT ini [oR] 0 (by rw[hops];rfl) (f.sub (find_restrict keepA env)) hro (fun act1 w1 ⟨φ1,F1,β1,f1⟩=>?_)
 ·simpa[List.range_eq_range'] using key
 have hsz:ops.size=ini.length+1:=by rw[←Array.length_toList,hops];simp
 rw[hsz,show ini.length+1-(0+ini.length)=1 from by omega,Nat.zero_add,show List.range' ini.length 1=[ini.length] from rfl,wpOps_cons]
 have gR:ops[ini.length]?=some oR:=by rw[←Array.getElem?_toList,hops];simp
 have hxv:act1.eval x= .map (some (φ1 b).1):=by
  have h:=ev_of f1.st hx
  generalize act1.eval x=v at h
  cases (show VRel φ1 F1 H1 w1 (.mp b) v from h) with
  | one h=>cases h;rfl
 obtain⟨ces,clk,hces,es0,hep,hm0⟩:=f1.st.sr.mblk b es hb
 obtain⟨bm,hbm⟩:∃bm,bm=(φ1 b).1:=⟨_,rfl⟩
 rw[←hbm]at hxv hces
 refine wpOp_run gR hoR.2.2 (v:=.pointer (some ⟨w1.heap.size,0,none⟩)) (w':=w1.alloc (.mapIter (some bm) clk #[] clk)) (by
  simp only[execOp,hoR.2.1,hxv,Sem.run_bind]
  rw[run_range_map w1 Tm kT eT bm ces clk hTm hces];rfl) ?_
 rw[hoR.1]
 refine⟨rfl,wpIn_block (wpIn_loop_rounds ((leftOf ces (seenV ces [])).size+1) ?_)⟩
 -- the state
 have f2:=f1.sub (find_restrict keep e1)
 have hbw:Below w1.heap.size w1 (w1.alloc (.mapIter (some bm) clk #[] clk)):=(Below.refl _ _).alloc (Nat.le_refl _) _
 have f3:=f2.grown hnb hbw
 obtain⟨φ4,p4,q4,f4⟩:=f3.mark0 (k:=w1.heap.size) hnb
 have hbl:b<H1.length:=(List.getElem?_eq_some_iff.1 hb).1
 have hgL:(H1++[HB.cells []])[H1.length]?=some (.cells []):=by rw[List.getElem?_append_right (Nat.le_refl _)];simp
 have f5:=f4.putT (d:=tI) (a:=.hp H1.length 0 0) (v:=.pointer (some ⟨w1.heap.size,0,none⟩)) hnb rfl hlt.1 (VRel.one (.hp _ _ _ [] _ hgL (Nat.le_refl _) fun _=>by rw[q4];exact⟨Nat.le_refl _,rfl⟩))
 have hsa:w1.heap.size<(w1.alloc (.mapIter (some bm) clk #[] clk)).heap.size:=by simp
 have hlen:es0.length=ces.size:=hm0.size.symm
 have hN:ces.size=es.length:=hm0.size.trans hep.len
 have hmem:∀p,p∈es0→p∈es:=fun p hp=>by
  rcases hep with rfl | ⟨h,_⟩
  ·exact hp
  ·exact h.mem_iff.1 hp
 have hperm:es0.Perm es:=by
  rcases hep with rfl | ⟨h,_⟩
  ·exact List.Perm.refl _
  ·exact h
 have hIK:=ikOk_get hik
 have hent:∀(i:Nat) (e:MapEntry),ces[i]?=some e→∃x,es0[i]?=some (.val x,.agg [])∧scal x=true∧e.key=x:=fun i e he=>by
  have hil:i<es0.length:=by rw[hlen];exact(Array.getElem?_eq_some_iff.1 he).1
  obtain⟨_,_,e2,h2,h3,_⟩:=hm0.ent i es0[i].1 es0[i].2 (by rw[List.getElem?_eq_getElem hil])
  rw[he]at h2
  cases h2
  have hin:=hmem _ (List.getElem_mem hil)
  obtain⟨m,hk⟩:=hIK.1 _ hin
  have hu:=unitVs_get hun hin
  rw[hk]at h3
  obtain⟨h4,h5⟩:=h3.inv_val
  refine⟨.int .i64 m,?_,rfl,h4⟩
  rw[List.getElem?_eq_getElem hil]
  congr 1
  exact Prod.ext hk hu
 have hok:okM (H1++[HB.cells []]) b es.length H1.length=true:=by
  unfold okM
  rw[hgL,List.getElem?_append_left hbl,hb]
  simp[hun]
 refine rm_rounds hC hT hl (tE:=tE) (bm:=bm) (f:=fun e H=>exec C k lk lim (.block kd (.seq (.regN (tE::k3) (eops.toList.tail.map (compI P pm eops))) restC)) e H) hF0 f1.chg.size hst hen hlt hd2 hde hkI hkN hkM hnb hm0.st hN (hlen.trans hN) hent rfl hrest (fun es1 hp=>?_) ?_ _ [] (Nat.le_refl _) φ4 _ _ _ _ _ ⟨f5,q4,by rw[p4 b hbl];exact hbm.symm,.inr ⟨Nat.le_refl _,hsa⟩,hok,rfl,List.nodup_nil,fun v hv=>(by cases hv),⟨ces,?_,rfl⟩,clk,Nat.le_refl _,?_⟩
 ·obtain⟨Hq,s,t,h1,_⟩:=hiso e1 H1 Hp b es f1.st.sr.cl hrgo' hrounds es1 (hp.trans hperm)
  exact⟨Hq,h1⟩
 ·intro vs φ' F' H' w' β' act' I hvp
  have hpm:(vs.map fun i=>(es0[i]?).getD ((.dead,.dead):AV×AV)).Perm es:=by
   have h1:=hvp.map fun i=>(es0[i]?).getD ((.dead,.dead):AV×AV)
   have h2:(List.range es.length).map (fun i=>(es0[i]?).getD ((.dead,.dead):AV×AV))=es0:=by
    apply List.ext_getElem?
    intro q
    rw[List.getElem?_map]
    by_cases hq:q<es.length
    ·rw[List.getElem?_range hq]
     simp[List.getElem?_eq_getElem (show q<es0.length by omega)]
    ·rw[List.getElem?_eq_none (by simp;omega),List.getElem?_eq_none (by omega)];rfl
   rw[h2]at h1
   exact h1.trans hperm
  obtain⟨Hq,s,t,h1,h2⟩:=hiso e1 H1 Hp b es f1.st.sr.cl hrgo' hrounds _ hpm
  have hrun:roundsM _ (tI::keep) tE _ b es.length H1.length (vs.map fun i=>(es0[i]?).getD ((.dead,.dead):AV×AV)) (H1++[HB.cells []])=some H':=I.run
  rw[hrun]at h1
  cases h1
  have f6:=I.full.sub (env':=restrict keep e1) (fun q=>by
   simp only[find]
   split
   ·rename_i hq
    subst hq
    refine .inr ?_
    unfold restrict
    clear hiso hrgo hrgo' hrounds hnb f2 f3 f4 f5 I hrun hkN hkM hQ
    induction keep with
    | nil=>rfl
    | cons a r ih=>
     simp only[List.map_cons,find]
     rw[if_neg (fun e=>hkI (by subst e;simp))]
     exact ih (fun hm=>hkI (List.mem_cons_of_mem _ hm))
   ·exact .inl rfl)
  show (if id=id then Q .normal act' w' else Q (.exit id) act' w')
  rw[if_pos rfl]
  refine hQ act' w' ⟨_,_,_,f6.iso h2 hnb (fun b0 x0 hb0 hne=>?_) fun q=>?_⟩
  ·cases x0 with
   | hole=>exact absurd rfl hne
   | cells cs=>
    obtain⟨cs',h3,_⟩:=f1.ext.len b0 cs hb0
    have:=(List.getElem?_eq_some_iff.1 h3).1
    omega
   | map es=>
    obtain⟨⟨es',h3⟩,_⟩:=f1.ext.map b0 es hb0
    have:=(List.getElem?_eq_some_iff.1 h3).1
    omega
  ·have hs:=f2.st.slot q
   have h2':=noBx_find hnb q
   generalize find (restrict keep e1) q=a at hs h2' ⊢
   have main:∀{a:AV},VRel φ1 F1 H1 w1 a (act1.tmps.getD q undef)→ren s a=a:=fun hr=>ren_id (n:=H1.length) (fun b hb=>h2.low b (by omega)) _ hr.refs
   cases a
   case box cs=>exact absurd rfl (h2'.1 cs)
   case rp d o=>exact absurd rfl (h2'.2 d o)
   case und=>rfl
   case dead=>rfl
   all_goals exact main hs
 ·rw[heap_alloc_old _ _ (Array.getElem?_eq_some_iff.1 hces).1];exact hces
 ·exact heap_alloc_new _ _
end
end Go.Hm

