/- The machine HM, part 5. -/
import Derived.Test.YtkllbcjanneppaaGreatHmG4
import Derived.Scope
import Derived.RangeFuncNested
import Derived.RangeFuncLeaves
set_option linter.all false
namespace Go.Hm
open Go

theorem jS {i:AI}(h:isFree i=true):cls2 i= .callF:=if_pos h
theorem pT {i:AI}(h:¬isFree i=true):cls2 i=cls i.op\/(cls2 i= .env/\cls i.op= .memH/\isRow i=true):=by
 unfold cls2;rw[if_neg h];split
 ·rename_i hr;refine .inr ⟨rfl,?_,hr⟩;unfold isRow at hr;simp only[Bool.and_eq_true,beq_iff_eq]at hr;exact hr.2
 ·exact .inl rfl
theorem rR (i:AI):isCall i=(cls i.op==.call&&!i.fl):=by
 unfold isCall cls2 isFree isRow;cases i.fl<;>cases cls i.op<;>rfl
theorem ff {i:AI}{c:Cls}(h:¬isFree i=true)(hc:cls i.op=c)(hn:c≠.memH):cls2 i=c:=by
 rcases pT h with h1 | ⟨_,h2,_⟩
 ·rw[h1,hc]
 ·exact absurd (hc.symm.trans h2) hn
theorem jl {i:AI}{c:Cls}(h:¬isFree i=true)(hc:cls2 i=c)(hn:c≠.env):cls i.op=c:=by
 rcases pT h with h1 | ⟨h1,_,_⟩
 ·rw[<-h1,hc]
 ·exact absurd (hc.symm.trans h1) hn

inductive Ed where
 | put (dst:Option Nat) (v:AV)
 | box (t:Nat) (cs:List AV)
inductive Hd where
 | same
 | fill (k:Nat) (x:HB)
 | app (X:Heap)
 | to (H:Heap)

def Ed.run:Ed->Env->Option Env
 | .put dst v,env=>Hm.put dst v env
 | .box t cs,env=>some (ea env t (.box cs))
def Hd.run (base:Nat):Hd->Heap->Option Heap
 | .same,H=>some H
 | .fill k x,H=>match H[k]? with
  | some .hole=>some (H.set k x)
  | _=>none
 | .app X,H=>if H.length=base then some (H++X) else none
 | .to H',_=>some H'

def exE (lk lim base:Nat)(dst:Option Nat)(op:AOp)(env:Env)(H:Heap):Option (Ed×Heap):=
 match op with
 | .st l n a x=>
  match cW (ev env x) with
  | some new=>if new.length=n then
    match l,ev env a with
    | some t,.rp t' off=>if t'=t then match find env t with
      | .box cs=>if off+n<=cs.length/\dst=none then some (.box t (an cs off new),H) else none
      | _=>none
     else none
    | none,.hp b g off=>match H[b]? with
     | some (.cells cs)=>if cs.length=g/\off+n<=g/\0<n/\dst=none then
       match aR lk lim base H b (an cs off new) new with
       | some H'=>some (.put dst .und,H')
       | none=>none
      else none
     | _=>none
    | _,_=>none
   else none
  | none=>none
 | .app es bytes x y=>match aN H (ev env y) with
  | some (m,new)=>if new.length=m*es then
    match ev env x with
    | .e0=>
     if m=0 then some (.put dst .e0,H)
     else if m*bytes<=aM then some (.put dst (.hs H.length (m*es) 0 m es),H++[.cells new])
     else none
    | .hs b g off n es'=>match H[b]? with
     | some (.cells cs)=>
      if cs.length=g/\es'=es/\(off+n*es=g\/off+n*es+m*es<=g)/\(n+m)*bytes<=aM then
       match aR lk lim base H b (cS (off+n*es) g cs new) new with
       | some H'=>some (.put dst (.hs b (eh (off+n*es) g (m*es)) off (n+m) es),H')
       | none=>none
      else none
     | _=>none
    | _=>none
   else none
  | none=>none
 | .mup ag ks m k v=>match ev env m with
  | .mp b=>match H[b]? with
   | some (.map es)=>
    if lk<=b/\dst=none/\dN ag ks (ev env k)=true/\a7 (ev env v)=true/\Hm.below 0 (ev env v)=true then
     match fc ag ks (ev env k) (ev env v) es with
     | some es'=>some (.put dst .und,H.set b (.map es'))
     | none=>none
    else none
   | _=>none
  | _=>none
 | _=>none

def ld (C:Orc)(lk lim base cb:Nat)(dst:Option Nat)(op:AOp)(k:Nat)(env:Env)(H:Heap):Option (Ed×Hd):=
 match cls op with
 | .actL _=>match exE lk lim cb dst op env H with
  | some (e,_)=>some (e,.same)
  | none=>none
 | .actH=>match exE lk lim cb dst op env H with
  | some (e,H')=>some (e,.to H')
  | none=>none
 | .make=>match cA op env (base+k) with
  | some (v,x)=>some (.put dst v,.fill (base+k) x)
  | none=>none
 | .call=>match bj op env with
  | some (g,as)=>if as.all a7=true/\belowL base as=true then
    match C base lim g as (H.take base) with
    | some (v,H')=>if eo v=false then some (.put dst v,if H'.length<=base then .same else .app (H'.drop base)) else none
    | none=>none
   else none
  | none=>none
 | _=>match aw op env (H.take base) with
  | some v=>if eo v=false\/k5 op=true then some (.put dst v,.same) else none
  | none=>none

def xN (C:Orc)(lk lim:Nat)(dst:Option Nat)(op:AOp)(env:Env)(H:Heap):Option (Ed×Hd):=
 match bj op env with
 | some (g,as)=>if as.all a7=true then
   match C lk lim g as H with
   | some (v,H')=>if eo v=false then some (.put dst v,.to H') else none
   | none=>none
  else none
 | none=>none

def eff (C:Orc)(lk lim:Nat)(ws:WS)(base cb:Nat)(i:AI)(env:Env)(H:Heap):Option (Ed×Hd):=
 match guardI i env with
 | some true=>if okT ws i env=true then (if isFree i=true then xN C lk lim i.dst i.op env H else ld C lk lim base cb i.dst i.op i.at_ env H) else none
 | some false=>some (.put i.dst .und,.same)
 | none=>none

def jm (C:Orc)(lk lim:Nat)(ws:WS)(base cb:Nat)(i:AI)(env:Env)(H:Heap)(env':Env)(H':Heap):Prop:=
 ∃e d,eff C lk lim ws base cb i env H=some (e,d)/\e.run env=some env'/\d.run base H=some H'

def kW (env:Env):Option (Ed×Heap)->Option (Env×Heap)
 | some (e,H')=>match e.run env with
  | some env'=>some (env',H')
  | none=>none
 | none=>none

theorem G6 {lk lim cb:Nat}{dst:Option Nat}{l:Option Nat}{n:Nat}{a x:AO}{env:Env}{H:Heap}:cr lk lim cb dst (.st l n a x) env H=kW env (exE lk lim cb dst (.st l n a x) env H):=by
 simp only[cr,exE];generalize cW (ev env x)=c;cases c with
 | none=>rfl
 | some new=>
  dsimp only;by_cases hn:new.length=n
  ·rw[if_pos hn,if_pos hn];generalize ev env a=va;cases l with
   | some t=>
    cases va<;>try rfl
    rename_i t' off;dsimp only;by_cases ht:t'=t
    ·rw[if_pos ht,if_pos ht];generalize find env t=fv;cases fv<;>try rfl
     rename_i cs;dsimp only;by_cases hc:off+n<=cs.length/\dst=none
     ·rw[if_pos hc,if_pos hc];rfl
     ·rw[if_neg hc,if_neg hc];rfl
    ·rw[if_neg ht,if_neg ht];rfl
   | none=>
    cases va<;>try rfl
    rename_i b g off;dsimp only;generalize H[b]?=hb;cases hb with
    | none=>rfl
    | some hb=>
     cases hb<;>try rfl
     rename_i cs;dsimp only;by_cases hc:cs.length=g/\off+n<=g/\0<n/\dst=none
     ·rw[if_pos hc,if_pos hc];obtain⟨_,_,_,hd⟩:=hc;subst hd;generalize aR lk lim cb H b (an cs off new) new=s;cases s<;>rfl
     ·rw[if_neg hc,if_neg hc];rfl
  ·rw[if_neg hn,if_neg hn];rfl

theorem CY {lk lim cb:Nat}{dst:Option Nat}{es bytes:Nat}{x y:AO}{env:Env}{H:Heap}:cr lk lim cb dst (.app es bytes x y) env H=kW env (exE lk lim cb dst (.app es bytes x y) env H):=by
 simp only[cr,exE];generalize aN H (ev env y)=c;cases c with
 | none=>rfl
 | some mn=>
  obtain⟨m,new⟩:=mn;dsimp only;by_cases hn:new.length=m*es
  ·rw[if_pos hn,if_pos hn];generalize ev env x=va;cases va<;>try rfl
   ·dsimp only;by_cases hm:m=0
    ·rw[if_pos hm,if_pos hm];rfl
    ·rw[if_neg hm,if_neg hm];by_cases hr:m*bytes<=aM
     ·rw[if_pos hr,if_pos hr];rfl
     ·rw[if_neg hr,if_neg hr];rfl
   ·rename_i b g off n es';dsimp only;generalize H[b]?=hb;cases hb with
    | none=>rfl
    | some hb=>
     cases hb<;>try rfl
     rename_i cs;dsimp only;by_cases hc:cs.length=g/\es'=es/\(off+n*es=g\/off+n*es+m*es<=g)/\(n+m)*bytes<=aM
     ·rw[if_pos hc,if_pos hc];generalize aR lk lim cb H b (cS (off+n*es) g cs new) new=s;cases s<;>rfl
     ·rw[if_neg hc,if_neg hc];rfl
  ·rw[if_neg hn,if_neg hn];rfl

theorem CZ {lk lim cb:Nat}{dst:Option Nat}{ag:Bool}{ks:List Nat}{m k v:AO}{env:Env}{H:Heap}:cr lk lim cb dst (.mup ag ks m k v) env H=kW env (exE lk lim cb dst (.mup ag ks m k v) env H):=by
 simp only[cr,exE];generalize ev env m=va;cases va<;>try rfl
 rename_i b;dsimp only;generalize H[b]?=hb;cases hb with
 | none=>rfl
 | some hb=>
  cases hb<;>try rfl
  rename_i es;dsimp only;by_cases hc:lk<=b/\dst=none/\dN ag ks (ev env k)=true/\a7 (ev env v)=true/\Hm.below 0 (ev env v)=true
  ·rw[if_pos hc,if_pos hc];obtain⟨_,hd,_⟩:=hc;subst hd;generalize fc ag ks (ev env k) (ev env v) es=s;cases s<;>rfl
  ·rw[if_neg hc,if_neg hc];rfl

theorem oY {lk lim cb:Nat}{dst:Option Nat}{op:AOp}{env:Env}{H:Heap}:cr lk lim cb dst op env H=kW env (exE lk lim cb dst op env H):=by
 cases op;case st=>exact G6
 case app=>exact CY
 case mup=>exact CZ
 all_goals rfl

theorem vp {lk lim cb:Nat}{dst:Option Nat}{op:AOp}{env:Env}{H:Heap}{t:Nat}{e:Ed}{H':Heap}(hc:cls op= .actL t)(h:exE lk lim cb dst op env H=some (e,H')):
  H'=H/\∃cs cs0,e= .box t cs/\find env t= .box cs0/\dst=none:=by
 cases op;case st l n a x=>
  cases l with
  | none=>simp[cls]at hc
  | some t'=>
   simp only[cls,Cls.actL.injEq]at hc;subst hc;simp only[exE]at h;split at h;case h_2=>simp at h
   split at h;case isFalse=>simp at h
   generalize ev env a=va at h;cases va<;>dsimp only at h<;>first | (simp at h;done) | skip
   split at h;case isFalse=>simp at h
   split at h;case h_2=>simp at h
   rename_i cs hf;split at h;case isFalse=>simp at h
   rename_i hcc;simp only[RZ,R0]at h;obtain⟨rfl,rfl⟩:=h;exact⟨rfl,_,_,rfl,hf,hcc.2⟩
 case app=>simp[cls]at hc
 case mup=>simp[cls]at hc
 all_goals simp[exE]at h

section
variable {C:Orc}{lk lim base cb:Nat}{ws:WS}{env env':Env}{H H':Heap}

def fin (base:Nat)(env:Env)(H:Heap):Option (Ed×Hd)->Option (Env×Heap)
 | some (e,d)=>match e.run env with
  | some env'=>match d.run base H with
   | some H'=>some (env',H')
   | none=>none
  | none=>none
 | none=>none

theorem C1 {i:AI}:dq C lk lim ws base cb i env H=fin base env H (eff C lk lim ws base cb i env H):=by
 unfold dq eff;cases hg:guardI i env with
 | none=>simp[fin]
 | some b=>
  cases b with
  | false=>
   dsimp only;cases hp:put i.dst .und env<;>simp[fin,Ed.run,Hd.run,hp]
  | true=>
   dsimp only;by_cases hok:okT ws i env=true;case neg=>rw[if_neg hok,if_neg hok];rfl
   rw[if_pos hok,if_pos hok];by_cases hfr:isFree i=true;case pos=>
    rw[if_pos hfr,if_pos hfr];unfold lL xN;cases ha:bj i.op env with
    | none=>simp[fin]
    | some p=>
     obtain⟨g,as⟩:=p;dsimp only;by_cases hall:as.all a7=true
     ·rw[if_pos hall,if_pos hall];cases hcc:C lk lim g as H with
      | none=>simp[fin]
      | some q=>
       obtain⟨v,H2⟩:=q;dsimp only;by_cases hr:eo v=false
       ·rw[if_pos hr,if_pos hr];cases hp:put i.dst v env<;>simp[fin,Ed.run,Hd.run,hp]
       ·rw[if_neg hr,if_neg hr];rfl
     ·rw[if_neg hall,if_neg hall];rfl
   rw[if_neg hfr,if_neg hfr];unfold fG ld;cases hc:cls i.op with
   | actL t=>
    dsimp only;rw[oY];cases hx:exE lk lim cb i.dst i.op env H with
    | none=>simp[kW,fin]
    | some p=>
     obtain⟨e,H2⟩:=p;obtain⟨rfl,_⟩:=vp hc hx;cases he:e.run env<;>simp[kW,fin,Hd.run,he]
   | actH=>
    dsimp only;rw[oY];cases hx:exE lk lim cb i.dst i.op env H with
    | none=>simp[kW,fin]
    | some p=>
     obtain⟨e,H2⟩:=p;cases he:e.run env<;>simp[kW,fin,Hd.run,he]
   | make=>
    dsimp only;cases hm:cA i.op env (base+i.at_) with
    | none=>simp[fin]
    | some p=>
     obtain⟨v,cs⟩:=p;dsimp only;cases hk:H[base+i.at_]? with
     | none=>cases hp:put i.dst v env<;>simp[fin,Ed.run,Hd.run,hk,hp]
     | some x=>
      cases x with
      | hole=>cases hp:put i.dst v env<;>simp[fin,Ed.run,Hd.run,hk,hp]
      | cells c=>cases hp:put i.dst v env<;>simp[fin,Ed.run,Hd.run,hk,hp]
      | map m=>cases hp:put i.dst v env<;>simp[fin,Ed.run,Hd.run,hk,hp]
   | call=>
    dsimp only;cases ha:bj i.op env with
    | none=>simp[fin]
    | some p=>
     obtain⟨g,as⟩:=p;dsimp only;by_cases hok:as.all a7=true/\belowL base as=true
     ·rw[if_pos hok,if_pos hok];cases hcc:C base lim g as (H.take base) with
      | none=>simp[fin]
      | some q=>
       obtain⟨v,H2⟩:=q;dsimp only;by_cases hr:eo v=false
       ·by_cases hl:H2.length<=base
        ·have:H2.drop base=[]:=List.drop_eq_nil_of_le hl;cases hp:put i.dst v env<;>simp[fin,Ed.run,Hd.run,hl,hr,hp,this]
        ·by_cases hl2:H.length=base
         ·cases hp:put i.dst v env<;>simp[fin,Ed.run,Hd.run,hl,hl2,hr,hp]
         ·cases hp:put i.dst v env<;>simp[fin,Ed.run,Hd.run,hl,hl2,hr,hp]
       ·simp[fin,hr]
     ·rw[if_neg hok,if_neg hok];rfl
   | env=>
    dsimp only;cases hr:aw i.op env (H.take base) with
    | none=>simp[fin]
    | some v=>
     dsimp only;by_cases hk:eo v=false\/k5 i.op=true
     ·rw[if_pos hk,if_pos hk];cases hp:put i.dst v env<;>simp[fin,Ed.run,Hd.run,hp]
     ·simp[fin,hk]
   | memL t=>
    dsimp only;cases hr:aw i.op env (H.take base) with
    | none=>simp[fin]
    | some v=>
     dsimp only;by_cases hk:eo v=false\/k5 i.op=true
     ·rw[if_pos hk,if_pos hk];cases hp:put i.dst v env<;>simp[fin,Ed.run,Hd.run,hp]
     ·simp[fin,hk]
   | callF=>
    dsimp only;cases hr:aw i.op env (H.take base) with
    | none=>simp[fin]
    | some v=>
     dsimp only;by_cases hk:eo v=false\/k5 i.op=true
     ·rw[if_pos hk,if_pos hk];cases hp:put i.dst v env<;>simp[fin,Ed.run,Hd.run,hp]
     ·simp[fin,hk]
   | memH=>
    dsimp only;cases hr:aw i.op env (H.take base) with
    | none=>simp[fin]
    | some v=>
     dsimp only;by_cases hk:eo v=false\/k5 i.op=true
     ·rw[if_pos hk,if_pos hk];cases hp:put i.dst v env<;>simp[fin,Ed.run,Hd.run,hp]
     ·simp[fin,hk]

theorem nh {i:AI}:dq C lk lim ws base cb i env H=some (env',H')↔jm C lk lim ws base cb i env H env' H':=by
 rw[C1];unfold jm;cases eff C lk lim ws base cb i env H with
 | none=>simp[fin]
 | some p=>
  obtain⟨e,d⟩:=p;simp only[fin];constructor
  ·intro h;refine⟨e,d,rfl,?_⟩;split at h;case h_2=>simp at h
   rename_i e1 he;split at h;case h_2=>simp at h
   rename_i h1 hd;simp only[RZ,R0]at h;obtain⟨rfl,rfl⟩:=h;exact⟨he,hd⟩
  ·rintro⟨e',d',h,h1,h2⟩;simp only[RZ,R0]at h;obtain⟨rfl,rfl⟩:=h;rw[h1,h2]

structure Agree (i:AI)(env env':Env):Prop where
 ev:∀x∈opnds i.op,Hm.ev env x=Hm.ev env' x
 loc:∀t,locOf i.op=some t->find env t=find env' t
 grd:guardI i env=guardI i env'

theorem gx:∀{l:List (Nat×Nat×AO)} {z:List AV},(∀p∈l,ev env p.2.2=ev env' p.2.2)->gU env l z=gU env' l z
 | [],z,_=>rfl
 | (off,n,x)::r,z,h=>by
  have h1:=h (off,n,x) (by simp)
  dsimp only at h1;simp only[gU,h1];split
  ·split
   ·exact gx (fun p hp=>h p (List.mem_cons_of_mem _ hp))
   ·rfl
  ·rfl
theorem jT {x:Option AO}{d y:Nat}(h:∀a∈x.toList,ev env a=ev env' a):bnd env x d y=bnd env' x d y:=by
 cases x with
 | none=>rfl
 | some a=>simp only[bnd,h a (by simp)]
theorem fg {l:List AO}(h:∀x∈l,ev env x=ev env' x):l.map (ev env)=l.map (ev env'):=List.map_congr_left h
theorem rT {l:Option Nat}{a:AV}(h:∀t,l=some t->find env t=find env' t):bB l env H a=bB l env' H a:=by
 cases l with
 | none=>rfl
 | some t=>
  have:=h t rfl;simp only[bB,this]

theorem xO {op:AOp}(h:∀x∈opnds op,ev env x=ev env' x)(hl:∀t,locOf op=some t->find env t=find env' t):aw op env H=aw op env' H:=by
 cases op;case build z l=>simp only[aw,gx (fun p hp=>h p.2.2 (List.mem_map.2 ⟨p,hp,rfl⟩))]
 case buildS n z l=>simp only[aw,gx (fun p hp=>h p.2.2 (List.mem_map.2 ⟨p,hp,rfl⟩))]
 case ld1 l a=>simp only[aw,h a (by simp[opnds]),rT (l:=l) (fun t ht=>hl t (by simpa[locOf] using ht))]
 case ldA l n a=>simp only[aw,h a (by simp[opnds]),rT (l:=l) (fun t ht=>hl t (by simpa[locOf] using ht))]
 case mkf f l=>simp only[aw,fg (l:=l) h]
 case slS x lo hi=>
  have hx:=h x (by simp[opnds])
  have h1:∀d y,bnd env lo d y=bnd env' lo d y:=fun d y=>jT (fun a ha=>h a (by simp[opnds];exact .inr (.inl (by simpa using ha))))
  have h2:∀d y,bnd env hi d y=bnd env' hi d y:=fun d y=>jT (fun a ha=>h a (by simp[opnds];exact .inr (.inr (by simpa using ha))))
  simp only[aw,hx,h1,h2]
 case slC es x lo hi=>
  have hx:=h x (by simp[opnds])
  have h1:∀d y,bnd env lo d y=bnd env' lo d y:=fun d y=>jT (fun a ha=>h a (by simp[opnds];exact .inr (.inl (by simpa using ha))))
  have h2:∀d y,bnd env hi d y=bnd env' hi d y:=fun d y=>jT (fun a ha=>h a (by simp[opnds];exact .inr (.inr (by simpa using ha))))
  simp only[aw,hx,h1,h2]
 case mm mx l=>
  cases l with
  | nil=>rfl
  | cons x r=>
   have h1:=h x (by simp[opnds])
   have h2:r.map (ev env)=r.map (ev env'):=fg (fun y hy=>h y (by simp[opnds,hy]))
   simp only[aw,h1,h2]
 case pick c a b=>simp only[aw,h c (by simp[opnds]),h a (by simp[opnds]),h b (by simp[opnds])]
 case len b x=>cases b<;>simp only[aw,h x (by simp[opnds])]
 case bini op x y=>simp only[aw,h x (by simp[opnds]),h y (by simp[opnds])]
 case bins op x y=>simp only[aw,h x (by simp[opnds]),h y (by simp[opnds])]
 case eqb op x y=>simp only[aw,h x (by simp[opnds]),h y (by simp[opnds])]
 case eqp op x y=>simp only[aw,h x (by simp[opnds]),h y (by simp[opnds])]
 case eqf op x y=>simp only[aw,h x (by simp[opnds]),h y (by simp[opnds])]
 case eqa op ks x y=>simp only[aw,h x (by simp[opnds]),h y (by simp[opnds])]
 case ixA k x y=>simp only[aw,h x (by simp[opnds]),h y (by simp[opnds])]
 case ixR k n x y=>simp only[aw,h x (by simp[opnds]),h y (by simp[opnds])]
 case ixS x y=>simp only[aw,h x (by simp[opnds]),h y (by simp[opnds])]
 case ixG k n b x y=>simp only[aw,h x (by simp[opnds]),h y (by simp[opnds])]
 case mv x=>simp only[aw,h x (by simp[opnds])]
 case boxR n x=>simp only[aw,h x (by simp[opnds])]
 case nilc x=>simp only[aw,h x (by simp[opnds])]
 case not x=>simp only[aw,h x (by simp[opnds])]
 case negi x=>simp only[aw,h x (by simp[opnds])]
 case xori x=>simp only[aw,h x (by simp[opnds])]
 case cvi k x=>simp only[aw,h x (by simp[opnds])]
 case b2s x=>simp only[aw,h x (by simp[opnds])]
 case s2b x=>simp only[aw,h x (by simp[opnds])]
 case sl00 x=>simp only[aw,h x (by simp[opnds])]
 case fldA o x=>simp only[aw,h x (by simp[opnds])]
 case fld o n b x=>simp only[aw,h x (by simp[opnds])]
 case ext x n=>simp only[aw,h x (by simp[opnds])]
 case mlk ag ks z ok x y=>simp only[aw,h x (by simp[opnds]),h y (by simp[opnds])]
 case mlen x=>simp only[aw,h x (by simp[opnds])]
 all_goals rfl

theorem xP {op:AOp}{b:Nat}(h:∀x∈opnds op,ev env x=ev env' x):cA op env b=cA op env' b:=by
 cases op;case buildH n es z l=>simp only[cA,gx (fun p hp=>h p.2.2 (List.mem_map.2 ⟨p,hp,rfl⟩))]
 case boxH n x=>simp only[cA,h x (by simp[opnds])]
 case mks es bytes z x=>simp only[cA,h x (by simp[opnds])]
 all_goals rfl
theorem tF {op:AOp}(h:∀x∈opnds op,ev env x=ev env' x):bj op env=bj op env':=by
 cases op;case call f l=>simp only[bj,fg (l:=l) h]
 case callv x l=>
  have h1:=h x (by simp[opnds])
  have h2:l.map (ev env)=l.map (ev env'):=fg (fun y hy=>h y (by simp[opnds,hy]))
  simp only[bj,h1,h2]
 all_goals rfl
theorem Ba {dst:Option Nat}{op:AOp}(h:∀x∈opnds op,ev env x=ev env' x)(hl:∀t,locOf op=some t->find env t=find env' t):exE lk lim cb dst op env H=exE lk lim cb dst op env' H:=by
 cases op;case st l n a x=>
  cases l with
  | none=>
   simp only[exE,h x (by simp[opnds]),h a (by simp[opnds])]
   generalize cW (ev env' x)=c;cases c with
   | none=>rfl
   | some new=>
    dsimp only;split
    ·generalize ev env' a=va;cases va<;>rfl
    ·rfl
  | some t=>
   have:=hl t rfl;simp only[exE,h x (by simp[opnds]),h a (by simp[opnds])]
   split
   ·split
    ·split
     ·rename_i heq _;cases heq;rw[this]
     ·rfl
     ·rfl
    ·rfl
   ·rfl
 case app es bytes x y=>simp only[exE,h x (by simp[opnds]),h y (by simp[opnds])]
 case mup ag ks x y z=>simp only[exE,h x (by simp[opnds]),h y (by simp[opnds]),h z (by simp[opnds])]
 all_goals rfl

theorem vq {op:AOp}(h:∀x∈opnds op,ev env x=ev env' x):b9 op env=b9 op env':=by
 cases op;case ld1 l a=>cases l<;>simp only[b9,h a (by simp[opnds])]
 case ldA l n a=>cases l<;>simp only[b9,h a (by simp[opnds])]
 case b2s x=>simp only[b9,h x (by simp[opnds])]
 case mlk ag ks z ok x y=>simp only[b9,h x (by simp[opnds])]
 case mlen x=>simp only[b9,h x (by simp[opnds])]
 all_goals rfl
theorem vr {op:AOp}(h:∀x∈opnds op,ev env x=ev env' x):eJ op env=eJ op env':=by
 cases op;case st l n a x=>cases l<;>simp only[eJ,h a (by simp[opnds])]
 case app es bytes x y=>simp only[eJ,h x (by simp[opnds])]
 case mup ag ks x y z=>simp only[eJ,h x (by simp[opnds])]
 all_goals rfl
theorem Bb {i:AI}(h:∀x∈opnds i.op,ev env x=ev env' x):okT ws i env=okT ws i env':=by
 unfold okT;rw[vq h,vr h]

theorem fm {i:AI}(h:Agree i env env'):eff C lk lim ws base cb i env H=eff C lk lim ws base cb i env' H:=by
 unfold eff ld xN;rw[h.grd,Bb h.ev,xO h.ev h.loc,xP h.ev,tF h.ev,Ba h.ev h.loc]
end

def EqE (e e':Env):Prop:=(∀t,find e t=find e' t)/\∀d,fb d e=fb d e'
theorem EqE.refl (e:Env):EqE e e:=⟨fun _=>rfl,fun _=>rfl⟩
theorem EqE.symm {e e':Env}(h:EqE e e'):EqE e' e:=⟨fun t=>(h.1 t).symm,fun d=>(h.2 d).symm⟩
theorem EqE.trans {e e' e'':Env}(h:EqE e e')(k:EqE e' e''):EqE e e'':=⟨fun t=>(h.1 t).trans (k.1 t),fun d=>(h.2 d).trans (k.2 d)⟩

def xQ (d:Nat):AV->Bool
 | .rp t _=>decide (t=d)
 | _=>false
theorem dj (d t:Nat)(v:AV)(env:Env):fb d ((t,v)::env)=(!xQ d v&&fb d env):=by
 cases v<;>simp[fb,xQ]
theorem cD {d t:Nat}{cs:List AV}:∀{env:Env} {cs0:List AV},find env t= .box cs0->fb d (ea env t (.box cs))=fb d env
 | [],cs0,h=>by simp[find]at h
 | (t',v')::r,cs0,h=>by
  simp only[find]at h;simp only[ea];by_cases e:t'=t
  ·rw[if_pos e]at h |-;subst h;rw[dj,dj];rfl
  ·rw[if_neg e]at h |-;rw[dj,dj,cD h]

theorem G7 {env env':Env}{x:AO}(h:∀t∈oT x,find env t=find env' t):ev env x=ev env' x:=by
 cases x with
 | con v=>rfl
 | tmp t=>simp only[ev,h t (by simp[oT])]
theorem xR {env env':Env}{i:AI}(h:∀t∈(i.grd.map (·.1)).toList,find env t=find env' t):guardI i env=guardI i env':=by
 unfold guardI;cases hg:i.grd with
 | none=>rfl
 | some p=>
  obtain⟨t,want⟩:=p;have:=h t (by rw[hg];simp)
  dsimp only;rw[this]

theorem Agree.of_find {env env':Env}{i:AI}(h:∀t∈rds i,find env t=find env' t):Agree i env env':=
 ⟨fun x hx=>G7 fun t ht=>h t (by unfold rds;simp only[List.mem_append,List.mem_flatMap];exact .inl (.inl ⟨x,hx,ht⟩)),
  fun t ht=>h t (by unfold rds;simp only[List.mem_append];exact .inl (.inr (by simpa using ht))),
  xR fun t ht=>h t (by unfold rds;simp only[List.mem_append];exact .inr ht)⟩

theorem Bc {env env1:Env}{j:AI}{dst:Option Nat}{v:AV}(hp:put dst v env=some env1)(hn:∀d,dst=some d->d∉rds j):Agree j env env1:=
 Agree.of_find fun t ht=>by
  cases dst with
  | none=>simp[put]at hp;subst hp;rfl
  | some d=>
   simp only[put]at hp;split at hp
   ·simp only[RZ]at hp;subst hp;simp only[find];rw[if_neg (fun e=>hn d rfl (by subst e;exact ht))]
   ·simp at hp

theorem Be {env:Env}{j:AI}{t:Nat}{cs cs0:List AV}(hb:find env t= .box cs0)(hl:locOf j.op≠some t):Agree j env (ea env t (.box cs)):=by
 have nd:find env t≠.dead:=by rw[hb];exact fun h=>by cases h
 have fs:=cC (v:=.box cs) nd;refine⟨fun x hx=>?_,fun u hu=>?_,?_⟩
 ·cases x with
  | con v=>rfl
  | tmp u=>
   simp only[ev,fs u];by_cases e:u=t
   ·subst e;rw[if_pos rfl,hb]
   ·rw[if_neg e]
 ·rw[fs u,if_neg (fun e=>hl (by rw[hu,e]))]
 ·unfold guardI;cases j.grd with
  | none=>rfl
  | some p=>
   obtain⟨u,want⟩:=p;dsimp only;rw[fs u];by_cases e:u=t
   ·subst e;rw[if_pos rfl,hb]
   ·rw[if_neg e]

theorem EqE.agree {env env':Env}(h:EqE env env')(j:AI):Agree j env env':=Agree.of_find fun t _=>h.1 t

theorem EqE.put {env env' env1:Env}(h:EqE env env'){dst:Option Nat}{v:AV}(hp:put dst v env=some env1):∃env1',Hm.put dst v env'=some env1'/\EqE env1 env1':=by
 cases dst with
 | none=>simp[Hm.put]at hp;subst hp;exact⟨env',rfl,h⟩
 | some d=>
  simp only[Hm.put]at hp |-;split at hp
  ·rename_i hn;simp only[RZ]at hp;subst hp;rw[h.2 d]at hn;exact⟨_,if_pos hn,fun t=>by simp only[find,h.1 t],fun d'=>by rw[dj,dj,h.2]⟩
  ·simp at hp

section
variable {C:Orc}{lk lim base cb:Nat}{ws:WS}{env env':Env}{H H':Heap}

theorem Nj {op:AOp}{t o:Nat}(ho:k5 op=true)(h:aw op env H=some (.rp t o)):∃x∈opnds op,∃o',ev env x= .rp t o':=by
 cases op<;>simp only[k5]at ho<;>try (cases ho;done)
 case mv x=>simp only[aw,RZ]at h;exact⟨x,by simp[opnds],_,h⟩
 case pick c a b=>
  simp only[aw]at h;split at h
  ·simp only[RZ]at h;split at h
   ·exact⟨a,by simp[opnds],_,h⟩
   ·exact⟨b,by simp[opnds],_,h⟩
  ·simp at h
 case nilc x=>
  simp only[aw]at h;generalize hx:ev env x=vx at h;cases vx<;>simp at h;obtain⟨rfl,rfl⟩:=h;exact⟨x,by simp[opnds],_,hx⟩
 case fldA off x=>
  simp only[aw]at h;generalize hx:ev env x=vx at h;cases vx<;>simp at h;obtain⟨rfl,rfl⟩:=h;exact⟨x,by simp[opnds],_,hx⟩
 case ixR len es a i=>
  simp only[aw]at h;split at h
  ·split at h
   ·generalize hx:ev env a=vx at h;cases vx<;>simp at h;obtain⟨rfl,rfl⟩:=h;exact⟨a,by simp[opnds],_,hx⟩
   ·simp at h
  ·simp at h

theorem Nk {op:AOp}{b:Nat}{v:AV}{x:HB}(h:cA op env b=some (v,x)):eo v=false:=by
 cases op;case allocH z=>simp only[cA,RZ,R0]at h;rw[<-h.1];rfl
 case mkm=>simp only[cA,RZ,R0]at h;rw[<-h.1];rfl
 case boxH n x=>
  simp only[cA]at h;split at h
  ·split at h
   ·simp only[RZ,R0]at h;rw[<-h.1];rfl
   ·simp at h
  ·simp at h
 case buildH n es z l=>
  simp only[cA]at h;split at h
  ·split at h
   ·simp only[RZ,R0]at h;rw[<-h.1];rfl
   ·simp at h
  ·simp at h
 case mks es bytes z x=>
  simp only[cA]at h;split at h
  ·split at h
   ·simp only[RZ,R0]at h;rw[<-h.1];rfl
   ·simp at h
  ·simp at h
 all_goals simp[cA]at h

theorem C2 {dst:Option Nat}{op:AOp}{e:Ed}(hc:cls op= .actH)(h:exE lk lim cb dst op env H=some (e,H')):∃v,e= .put dst v/\eo v=false:=by
 cases op;case st l n a x=>
  cases l with
  | some t=>simp[cls]at hc
  | none=>
   simp only[exE]at h;split at h;case h_2=>simp at h
   split at h;case isFalse=>simp at h
   generalize ev env a=va at h;cases va<;>dsimp only at h<;>first | (simp at h;done) | skip
   split at h;case h_2=>simp at h
   split at h;case isFalse=>simp at h
   split at h;case h_2=>simp at h
   simp only[RZ,R0]at h;exact⟨_,h.1.symm,rfl⟩
 case app es bytes x y=>
  simp only[exE]at h;split at h;case h_2=>simp at h
  split at h;case isFalse=>simp at h
  generalize ev env x=va at h;cases va<;>dsimp only at h<;>first | (simp at h;done) | skip
  ·split at h
   ·simp only[RZ,R0]at h;exact⟨_,h.1.symm,rfl⟩
   ·split at h;case isFalse=>simp at h
    simp only[RZ,R0]at h;exact⟨_,h.1.symm,rfl⟩
  ·split at h;case h_2=>simp at h
   split at h;case isFalse=>simp at h
   split at h;case h_2=>simp at h
   simp only[RZ,R0]at h;exact⟨_,h.1.symm,rfl⟩
 case mup ag ks m k v=>
  simp only[exE]at h;split at h;case h_2=>simp at h
  split at h;case h_2=>simp at h
  split at h;case isFalse=>simp at h
  split at h;case h_2=>simp at h
  simp only[RZ,R0]at h;exact⟨_,h.1.symm,rfl⟩
 all_goals simp[exE]at h

theorem lV {i:AI}{e:Ed}{d:Hd}(h:eff C lk lim ws base cb i env H=some (e,d)):
  (∃v,e= .put i.dst v/\∀t o,v= .rp t o->∃x∈opnds i.op,∃o',ev env x= .rp t o')\/(∃t cs cs0,e= .box t cs/\cls2 i= .actL t/\find env t= .box cs0/\i.dst=none):=by
 have nr:∀{v:AV},eo v=false->∀t o,v= .rp t o->∃x∈opnds i.op,∃o',ev env x= .rp t o':=fun h t o hv=>by subst hv;cases h
 unfold eff at h;split at h
 ·split at h;case isFalse=>simp at h
  split at h
  ·unfold xN at h;split at h;case h_2=>simp at h
   split at h;case isFalse=>simp at h
   split at h;case h_2=>simp at h
   split at h;case isFalse=>simp at h
   rename_i hr;simp only[RZ,R0]at h;exact .inl ⟨_,h.1.symm,nr hr⟩
  rename_i hfr;unfold ld at h;split at h
  ·rename_i t hc;split at h;case h_2=>simp at h
   rename_i e2 H2 hx;simp only[RZ,R0]at h;obtain⟨rfl,rfl⟩:=h;obtain⟨_,cs,cs0,h1,h2,h3⟩:=vp hc hx;exact .inr ⟨t,cs,cs0,h1,ff hfr hc (fun e=>by cases e),h2,h3⟩
  ·rename_i hc;split at h;case h_2=>simp at h
   rename_i e2 H2 hx;simp only[RZ,R0]at h;obtain⟨rfl,rfl⟩:=h;obtain⟨v,h1,h2⟩:=C2 hc hx;exact .inl ⟨v,h1,nr h2⟩
  ·split at h;case h_2=>simp at h
   rename_i v cs hm;simp only[RZ,R0]at h;exact .inl ⟨v,h.1.symm,nr (Nk hm)⟩
  ·split at h;case h_2=>simp at h
   split at h;case isFalse=>simp at h
   split at h;case h_2=>simp at h
   split at h;case isFalse=>simp at h
   rename_i hr;simp only[RZ,R0]at h;exact .inl ⟨_,h.1.symm,nr hr⟩
  ·split at h;case h_2=>simp at h
   rename_i v hrd;split at h;case isFalse=>simp at h
   rename_i hr;simp only[RZ,R0]at h;refine .inl ⟨v,h.1.symm,fun t o hv=>?_⟩;subst hv;exact Nj (hr.resolve_left (by simp[eo])) hrd
 ·simp only[RZ,R0]at h;exact .inl ⟨.und,h.1.symm,nr rfl⟩
 ·simp at h

theorem eL {i:AI}{e:Ed}{d:Hd}(h:eff C lk lim ws base cb i env H=some (e,d)):
  d= .same\/(cls2 i= .make/\∃x,d= .fill (base+i.at_) x)\/(cls2 i= .call/\∃X,X≠[]/\d= .app X)\/cls2 i= .actH\/cls2 i= .callF:=by
 unfold eff at h;split at h
 ·split at h;case isFalse=>simp at h
  split at h
  ·exact .inr (.inr (.inr (.inr (jS ‹_›))))
  rename_i hfr;unfold ld at h;split at h
  ·split at h;case h_2=>simp at h
   simp only[RZ,R0]at h;exact .inl h.2.symm
  ·exact .inr (.inr (.inr (.inl (ff hfr ‹_› (fun e=>by cases e)))))
  ·split at h;case h_2=>simp at h
   simp only[RZ,R0]at h;exact .inr (.inl ⟨ff hfr ‹_› (fun e=>by cases e),_,h.2.symm⟩)
  ·split at h;case h_2=>simp at h
   split at h;case isFalse=>simp at h
   split at h;case h_2=>simp at h
   split at h;case isFalse=>simp at h
   simp only[RZ,R0]at h;split at h
   ·exact .inl h.2.symm
   ·rename_i hl;exact .inr (.inr (.inl ⟨ff hfr ‹_› (fun e=>by cases e),_,fun hx=>hl (List.drop_eq_nil_iff.1 hx),h.2.symm⟩))
  ·split at h;case h_2=>simp at h
   split at h;case isFalse=>simp at h
   simp only[RZ,R0]at h;exact .inl h.2.symm
 ·simp only[RZ,R0]at h;exact .inl h.2.symm
 ·simp at h
end

section
variable {C:Orc}{lk lim base cb cb':Nat}{ws:WS}{env env':Env}{H H':Heap}

theorem C3 {op:AOp}(h:cls op= .env\/∃t,cls op= .memL t):aw op env H=aw op env H':=by
 cases op<;>try rfl
 case ld1 l a=>
  cases l with
  | none=>rcases h with h | ⟨t,h⟩<;>simp[cls]at h
  | some t=>rfl
 case ldA l n a=>
  cases l with
  | none=>rcases h with h | ⟨t,h⟩<;>simp[cls]at h
  | some t=>rfl
 case b2s x=>rcases h with h | ⟨t,h⟩<;>simp[cls]at h
 case mlk ag ks z ok m k=>rcases h with h | ⟨t,h⟩<;>simp[cls]at h
 case mlen m=>rcases h with h | ⟨t,h⟩<;>simp[cls]at h
 case len b x=>cases b<;>rfl

theorem rC {dst:Option Nat}{op:AOp}{t:Nat}(hc:cls op= .actL t):(exE lk lim cb dst op env H).map (·.1)=(exE lk lim cb' dst op env H').map (·.1):=by
 cases op;case st l n a x=>
  cases l with
  | none=>simp[cls]at hc
  | some t'=>
   simp only[exE];generalize cW (ev env x)=c;cases c with
   | none=>rfl
   | some new=>
    dsimp only;split
    ·generalize ev env a=va;cases va<;>try rfl
     dsimp only;split
     ·generalize find env t'=fv;cases fv<;>try rfl
      dsimp only;split<;>rfl
     ·rfl
    ·rfl
 case app=>simp[cls]at hc
 case mup=>simp[cls]at hc
 all_goals rfl

theorem oe {va:AV}(h:∀b,va= .mp b->H[b]?=H'[b]?):dw H va=dw H' va:=by
 unfold dw;split
 ·rfl
 ·rename_i b;rw[h b rfl]
 ·rfl

theorem tG {op:AOp}(h:∀b,b9 op env=some b->H[b]?=H'[b]?)(hc:cls op= .memH):aw op env H=aw op env H':=by
 cases op<;>simp only[cls]at hc<;>try (cases hc;done)
 case st l n a x=>cases l<;>cases hc
 case ld1 l a=>
  cases l with
  | some t=>cases hc
  | none=>
   simp only[b9]at h;simp only[aw];have:bB none env H (ev env a)=bB none env H' (ev env a):=by
    generalize ev env a=va at h;cases va<;>try rfl
    rename_i b g off;simp only[bB,h b rfl]
   rw[this]
 case ldA l n a=>
  cases l with
  | some t=>cases hc
  | none=>
   simp only[b9]at h;simp only[aw];have:bB none env H (ev env a)=bB none env H' (ev env a):=by
    generalize ev env a=va at h;cases va<;>try rfl
    rename_i b g off;simp only[bB,h b rfl]
   rw[this]
 case b2s x=>
  simp only[b9]at h;simp only[aw];have:bh H (ev env x)=bh H' (ev env x):=by
   generalize ev env x=va at h;cases va<;>try rfl
   rename_i b g off n es;simp only[bh,h b rfl]
  rw[this]
 case mlk ag ks z ok m k=>
  simp only[b9]at h;simp only[aw];rw[oe (H:=H) (H':=H') (va:=ev env m) (fun b hb=>h b (by rw[hb]))]
 case mlen m=>
  simp only[b9]at h;simp only[aw];rw[oe (H:=H) (H':=H') (va:=ev env m) (fun b hb=>h b (by rw[hb]))]

theorem pU {i:AI}(h:(cls2 i≠.actH/\cls2 i≠.callF/\H.take base=H'.take base)\/((cls2 i= .actH\/cls2 i= .callF)/\H=H'/\(cls2 i= .actH->cb=cb'))\/((cls2 i= .env\/∃t,cls2 i= .memL t)\/∃t,cls2 i= .actL t)\/(cls2 i= .memH/\∀b,b<base->ws b=false->H[b]?=H'[b]?)):
  eff C lk lim ws base cb i env H=eff C lk lim ws base cb' i env H':=by
 unfold eff;split
 ·by_cases hok:okT ws i env=true;case neg=>rw[if_neg hok,if_neg hok]
  rw[if_pos hok,if_pos hok];by_cases hfr:isFree i=true;case pos=>
   rw[if_pos hfr,if_pos hfr];rw[jS hfr]at h;rcases h with h | h | h | h
   ·exact absurd rfl h.2.1
   ·rw[h.2.1]
   ·rcases h with (h | ⟨t,h⟩) | ⟨t,h⟩<;>cases h
   ·cases h.1
  rw[if_neg hfr,if_neg hfr];rcases pT hfr with hcc | ⟨hcc,hm,hrow⟩;case inr=>
   have hn:b9 i.op env=none:=by
    unfold okT at hok;simp only[hrow,Bool.not_true,Bool.false_or,Bool.and_eq_true,Option.isNone_iff_eq_none]at hok;exact hok.2
   have ht:aw i.op env (H.take base)=aw i.op env (H'.take base):=tG (fun b hb=>by rw[hn]at hb;cases hb) hm
   unfold ld;rw[hm];dsimp only;rw[ht]
  rw[hcc]at h;unfold ld;cases hc:cls i.op with
  | actL t=>
   dsimp only;have:=rC (lk:=lk) (lim:=lim) (cb:=cb) (cb':=cb') (env:=env) (H:=H) (H':=H') (dst:=i.dst) hc;cases h1:exE lk lim cb i.dst i.op env H with
   | none=>rw[h1]at this;cases h2:exE lk lim cb' i.dst i.op env H' with
    | none=>rfl
    | some p=>rw[h2]at this;simp at this
   | some p=>rw[h1]at this;cases h2:exE lk lim cb' i.dst i.op env H' with
    | none=>rw[h2]at this;simp at this
    | some q=>rw[h2]at this;simp at this;obtain⟨_,_⟩:=p;obtain⟨_,_⟩:=q;dsimp only at this |-;rw[this]
  | actH=>
   rw[hc]at h;rcases h with h | h | h | h
   ·exact absurd rfl h.1
   ·obtain⟨_,h1,h2⟩:=h;subst h1;rw[h2 rfl]
   ·rcases h with (h | ⟨t,h⟩) | ⟨t,h⟩<;>cases h
   ·cases h.1
  | make=>rfl
  | call=>
   rw[hc]at h;have ht:H.take base=H'.take base:=by
    rcases h with h | h | h | h
    ·exact h.2.2
    ·rcases h.1 with h | h<;>cases h
    ·rcases h with (h | ⟨t,h⟩) | ⟨t,h⟩<;>cases h
    ·cases h.1
   rw[ht]
  | callF=>exact(by cases hcc:i.op<;>rw[hcc]at hc<;>(try simp only[cls]at hc)<;>first | (cases hc;done) | (rename_i l _<;>cases l<;>cases hc) | (rename_i l _ _<;>cases l<;>cases hc) | (rename_i l _ _ _<;>cases l<;>cases hc))
  | env=>rw[C3 (H:=H.take base) (H':=H'.take base) (.inl hc)]
  | memL t=>rw[C3 (H:=H.take base) (H':=H'.take base) (.inr ⟨t,hc⟩)]
  | memH=>
   rw[hc]at h;have ht:aw i.op env (H.take base)=aw i.op env (H'.take base):=by
    rcases h with h | h | h | h
    ·rw[h.2.2]
    ·rcases h.1 with h | h<;>cases h
    ·rcases h with (h | ⟨t,h⟩) | ⟨t,h⟩<;>cases h
    ·refine tG (fun b hb=>?_) hc;obtain⟨_,h2⟩:=h;have hw:ws b=false:=by
      unfold okT at hok;rw[hb]at hok;simp only[Bool.and_eq_true,Bool.not_eq_true']at hok;exact hok.1.2
     rw[List.getElem?_take,List.getElem?_take];split
     ·exact h2 b ‹_› hw
     ·rfl
   rw[ht]
 ·rfl
 ·rfl

structure Indep (i j:AI):Prop where
 ij:∀d,i.dst=some d->d∉rds j
 ji:∀d,j.dst=some d->d∉rds i
 dd:∀d,i.dst=some d->j.dst≠some d
 ok:okPair (cls2 i) (cls2 j)=true\/mmPair i j=true\/mmPair j i=true
 fl1:cls2 i= .actH->cls2 j= .memH->i.fl=true
 fl2:cls2 i= .memH->cls2 j= .actH->j.fl=true
 at_:cls2 i= .make->cls2 j= .make->i.at_≠j.at_
 ci:∀x∈opnds i.op,conOk x=true
 cj:∀x∈opnds j.op,conOk x=true

theorem og (a b:Cls):okPair a b=okPair b a:=by
 cases a<;>cases b<;>simp[okPair,bne_comm]

theorem Indep.of {i j:AI}(h:CH i j=true):Indep i j:=by
 unfold CH at h;simp only[Bool.and_eq_true]at h;obtain⟨⟨⟨⟨⟨⟨⟨h1,h2⟩,h3⟩,h4⟩,hf1⟩,hf2⟩,h5⟩,h6⟩:=h;refine⟨fun d hd=>?_,fun d hd=>?_,fun d hd=>?_,by rw[Bool.or_eq_true,Bool.or_eq_true,or_assoc]at h3;exact h3,fun a b=>by rw[a,b]at hf1;simpa using hf1,fun a b=>by rw[a,b]at hf2;simpa using hf2,fun a b=>?_,fun x hx=>?_,fun x hx=>?_⟩
 ·rw[hd]at h1;simp at h1;exact h1.1
 ·rw[hd]at h2;simpa using h2
 ·rw[hd]at h1;simp at h1;exact h1.2
 ·rw[a,b]at h4;simpa using h4
 ·rw[List.all_eq_true]at h5;exact h5 x hx
 ·rw[List.all_eq_true]at h6;exact h6 x hx
theorem Indep.symm {i j:AI}(h:Indep i j):Indep j i:=
 ⟨h.ji,h.ij,fun d hd he=>h.dd d he hd,h.ok.elim (fun h=>.inl (by rw[og];exact h)) (fun h=>.inr h.symm),fun a b=>h.fl2 b a,fun a b=>h.fl1 b a,fun a b e=>h.at_ b a e.symm,h.cj,h.ci⟩

theorem C4 {i:AI}(h:nX i.op=true):cls2 i= .actH:=by
 have hc:cls i.op= .actH:=by
  cases ho:i.op<;>rw[ho]at h<;>simp only[nX]at h<;>first | rfl | cases h
 exact ff (fun hf=>by unfold isFree at hf;rw[hc]at hf;simp at hf) hc (fun e=>by cases e)
theorem G8 {i:AI}(h:tA i.op=true):cls2 i= .make:=by
 have hc:cls i.op= .make:=by
  cases ho:i.op<;>rw[ho]at h<;>simp only[tA]at h<;>first | rfl | cases h
 exact ff (fun hf=>by unfold isFree at hf;rw[hc]at hf;simp at hf) hc (fun e=>by cases e)
theorem tH {i j:AI}(h:mmPair i j=true):cls2 i= .actH/\cls2 j= .make:=by
 unfold mmPair at h;rw[Bool.and_eq_true]at h;exact⟨C4 h.1,G8 h.2⟩
theorem Indep.okL {i j:AI}{t:Nat}(h:Indep i j)(hc:cls2 i= .actL t):okPair (cls2 i) (cls2 j)=true:=by
 rcases h.ok with h | h | h
 ·exact h
 ·have:=(tH h).1;rw[hc]at this;cases this
 ·have:=(tH h).2;rw[hc]at this;cases this

theorem pV {op:AOp}{t:Nat}(h:cls op= .actL t):locOf op=some t:=by
 cases op<;>simp only[cls]at h<;>try (cases h;done)
 case st l n a x=>cases l with
  | none=>cases h
  | some t'=>cases h;rfl
 case ld1 l a=>cases l<;>cases h
 case ldA l n a=>cases l<;>cases h
theorem G9 {op:AOp}{t:Nat}(h:locOf op=some t):cls op= .actL t\/cls op= .memL t:=by
 cases op<;>simp only[locOf]at h<;>try (cases h;done)
 all_goals subst h
 case st=>exact .inl rfl
 case ld1=>exact .inr rfl
 case ldA=>exact .inr rfl

theorem rU {i:AI}{t:Nat}(h:cls2 i= .actL t):cls i.op= .actL t:=by
 unfold cls2 at h;split at h
 ·cases h
 ·split at h
  ·cases h
  ·exact h
theorem C5 {i:AI}{t:Nat}(h:locOf i.op=some t):cls2 i= .actL t\/cls2 i= .memL t:=by
 have nf:cls i.op≠.call->¬isFree i=true:=fun hn hf=>by
  unfold isFree at hf;simp only[Bool.and_eq_true,beq_iff_eq]at hf;exact hn hf.2
 rcases G9 h with h | h
 ·exact .inl (ff (nf (by rw[h];exact fun e=>by cases e)) h (fun e=>by cases e))
 ·exact .inr (ff (nf (by rw[h];exact fun e=>by cases e)) h (fun e=>by cases e))

theorem jU {i j:AI}(hi:Indep i j){e:Ed}{d:Hd}{env1:Env}(h:eff C lk lim ws base cb i env H=some (e,d))(hr:e.run env=some env1):Agree j env env1:=by
 rcases lV h with⟨v,rfl,_⟩ | ⟨t,cs,cs0,rfl,hc,hb,_⟩
 ·exact Bc hr hi.ij
 ·simp only[Ed.run,RZ]at hr;subst hr;refine Be hb (fun hl=>?_);have hok:=hi.okL hc;rw[hc]at hok;rcases C5 hl with h | h<;>rw[h]at hok<;>simp[okPair]at hok

theorem lh {i j:AI}(hi:Indep i j){e1 e2:Ed}{d1 d2:Hd}{env1 env2:Env}{Ha Hb:Heap}{ca cc:Nat}(h1:eff C lk lim ws base ca i env Ha=some (e1,d1))(r1:e1.run env=some env1)(h2:eff C lk lim ws base cc j env Hb=some (e2,d2))(r2:e2.run env1=some env2):
  ∃env1' env2',e2.run env=some env1'/\e1.run env1'=some env2'/\EqE env2 env2':=by
 rcases lV h1 with⟨v,rfl,hv⟩ | ⟨t,cs,cs0,rfl,hc,hb,hdn⟩<;>rcases lV h2 with⟨u,rfl,hu⟩ | ⟨t',cs',cs0',rfl,hc',hb',hdn'⟩
 ·cases hdi:i.dst with
  | none=>
   rw[hdi]at r1;simp only[Ed.run,put,RZ]at r1 |-;subst r1;exact⟨env2,env2,r2,rfl,EqE.refl _⟩
  | some d=>
   cases hdj:j.dst with
   | none=>
    rw[hdj]at r2;rw[hdi]at r1;simp only[Ed.run,put,RZ]at r1 r2 |-;subst r2;exact⟨env,env1,rfl,r1,EqE.refl _⟩
   | some d'=>
    rw[hdi]at r1;rw[hdj]at r2;have hne:d≠d':=fun e=>hi.dd d hdi (by rw[hdj,e])
    simp only[Ed.run,put]at r1 r2 |-;split at r1;case isFalse=>simp at r1
    rename_i hn1;simp only[RZ]at r1;subst r1;split at r2;case isFalse=>simp at r2
    rename_i hn2;simp only[RZ]at r2;subst r2;rw[dj,Bool.and_eq_true]at hn2;rw[if_pos hn2.2];have hu1:xQ d u=false:=by
     cases hru:xQ d u with
     | false=>rfl
     | true=>
      exfalso;cases u<;>simp[xQ]at hru;rename_i tt oo;subst hru;obtain⟨x,hx,o',hev⟩:=hu tt oo rfl;cases x with
      | con w=>
       have:=hi.cj _ hx;simp only[ev]at hev;rw[hev]at this;simp[conOk]at this
      | tmp k=>
       simp only[ev]at hev;have hk:k∈rds j:=by
        unfold rds;simp only[List.mem_append,List.mem_flatMap];exact .inl (.inl ⟨_,hx,by simp[oT]⟩)
       generalize hfk:find env k=fk at hev;cases fk;case box=>simp only[AV.rp.injEq]at hev;exact hi.ij tt hdi (hev.1▸hk)
       all_goals first | (simp only[AV.rp.injEq]at hev;obtain⟨rfl,rfl⟩:=hev;exact m8 hn1 k _ hfk) | cases hev
    refine⟨_,(d,v)::(d',u)::env,rfl,?_,fun t=>?_,fun k=>?_⟩
    ·rw[if_pos (by rw[dj,hu1,hn1];rfl)]
    ·simp only[find];by_cases ha:d'=t
     ·rw[if_pos ha,if_neg (by omega),if_pos ha]
     ·by_cases hbb:d=t
      ·rw[if_neg ha,if_pos hbb,if_pos hbb]
      ·rw[if_neg ha,if_neg hbb,if_neg hbb,if_neg ha]
    ·simp only[dj];cases xQ k u<;>cases xQ k v<;>simp
 ·-- i puts,j writes a box
  have hloc:=pV (rU hc');have hdi:i.dst≠some t':=fun e=>hi.ij t' e (by unfold rds;simp[hloc])
  simp only[Ed.run,RZ]at r2 |-;subst r2;simp only[Ed.run]at r1;cases hd:i.dst with
  | none=>
   rw[hd]at r1;simp only[put,RZ]at r1 |-;subst r1;exact⟨_,_,rfl,rfl,EqE.refl _⟩
  | some d=>
   rw[hd]at r1 hdi;simp only[put]at r1 |-;split at r1;case isFalse=>simp at r1
   rename_i hn;simp only[RZ]at r1;subst r1;refine⟨_,(d,v)::ea env t' (.box cs'),rfl,if_pos (by rw[cD hb'];exact hn),?_⟩
   simp only[ea];rw[if_neg (fun e=>hdi (by rw[e]))]
   exact EqE.refl _
 ·-- i writes a box,j puts
  have hloc:=pV (rU hc);have hdj:j.dst≠some t:=fun e=>hi.ji t e (by unfold rds;simp[hloc])
  simp only[Ed.run,RZ]at r1;subst r1;simp only[Ed.run]at r2 |-;cases hd:j.dst with
  | none=>
   rw[hd]at r2;simp only[put,RZ]at r2 |-;subst r2;exact⟨_,_,rfl,rfl,EqE.refl _⟩
  | some d=>
   rw[hd]at r2 hdj;simp only[put]at r2 |-;split at r2;case isFalse=>simp at r2
   rename_i hn;simp only[RZ]at r2;subst r2;rw[cD hb]at hn;refine⟨(d,u)::env,_,if_pos hn,rfl,?_⟩;simp only[ea];rw[if_neg (fun e=>hdj (by rw[e]))]
   exact EqE.refl _
 ·-- both write boxes
  have hne:t≠t':=fun e=>by
   have hok:=hi.okL hc;rw[hc,hc',e]at hok;simp[okPair]at hok
  simp only[Ed.run,RZ]at r1 r2 |-;subst r1;subst r2;have nd:find env t≠.dead:=by rw[hb];exact fun h=>by cases h
  have nd':find env t'≠.dead:=by rw[hb'];exact fun h=>by cases h
  have f1:=cC (v:=.box cs) nd;have f2:=cC (v:=.box cs') nd';have f3:=cC (env:=ea env t (.box cs)) (t:=t') (v:=.box cs') (by rw[f1,if_neg hne.symm];exact nd')
  have f4:=cC (env:=ea env t' (.box cs')) (t:=t) (v:=.box cs) (by rw[f2,if_neg hne];exact nd)
  refine⟨_,_,rfl,rfl,fun k=>?_,fun k=>?_⟩
  ·rw[f3,f4,f1,f2];by_cases h1:k=t
   ·by_cases h2:k=t'
    ·omega
    ·rw[if_neg h2,if_pos h1,if_pos h1]
   ·by_cases h2:k=t'
    ·rw[if_pos h2,if_neg h1,if_pos h2]
    ·rw[if_neg h2,if_neg h1,if_neg h1,if_neg h2]
  ·rw[cD (cs0:=cs0') (by rw[f1,if_neg hne.symm];exact hb'),cD hb,cD (cs0:=cs0) (by rw[f2,if_neg hne];exact hb),cD hb']
end

section
variable {C:Orc}{lk lim base:Nat}{ws:WS}{env env':Env}{H H':Heap}

def tI (C:Orc):Prop:=∀lk lim f l H r H',C lk lim f l H=some (r,H')->H.length<=H'.length

theorem pW {cb:Nat}{b:Nat}{cs new:List AV}(h:aR lk lim cb H b cs new=some H'):H'.length=H.length:=by
 unfold aR at h;split at h
 ·simp only[RZ]at h;subst h;simp
 ·simp at h
theorem Hc {cb:Nat}{dst:Option Nat}{op:AOp}{e:Ed}(h:exE lk lim cb dst op env H=some (e,H')):H.length<=H'.length:=by
 cases op;case st l n a x=>
  simp only[exE]at h;split at h;case h_2=>simp at h
  split at h;case isFalse=>simp at h
  generalize ev env a=va at h;cases l with
  | some t=>
   cases va<;>dsimp only at h<;>first | (simp at h;done) | skip
   split at h;case isFalse=>simp at h
   split at h;case h_2=>simp at h
   split at h;case isFalse=>simp at h
   simp only[RZ,R0]at h;rw[<-h.2];exact Nat.le_refl _
  | none=>
   cases va<;>dsimp only at h<;>first | (simp at h;done) | skip
   split at h;case h_2=>simp at h
   split at h;case isFalse=>simp at h
   split at h;case h_2=>simp at h
   rename_i hs;simp only[RZ,R0]at h;rw[<-h.2,pW hs];exact Nat.le_refl _
 case app es bytes x y=>
  simp only[exE]at h;split at h;case h_2=>simp at h
  split at h;case isFalse=>simp at h
  generalize ev env x=va at h;cases va<;>dsimp only at h<;>first | (simp at h;done) | skip
  ·split at h
   ·simp only[RZ,R0]at h;rw[<-h.2];exact Nat.le_refl _
   ·split at h;case isFalse=>simp at h
    simp only[RZ,R0]at h;rw[<-h.2];simp
  ·split at h;case h_2=>simp at h
   split at h;case isFalse=>simp at h
   split at h;case h_2=>simp at h
   rename_i hs;simp only[RZ,R0]at h;rw[<-h.2,pW hs];exact Nat.le_refl _
 case mup ag ks m k v=>
  simp only[exE]at h;split at h;case h_2=>simp at h
  split at h;case h_2=>simp at h
  split at h;case isFalse=>simp at h
  split at h;case h_2=>simp at h
  simp only[RZ,R0]at h;rw[<-h.2];simp
 all_goals simp[exE]at h

theorem Bf {cb:Nat}{dst:Option Nat}{op:AOp}{e:Ed}(h:exE lk lim cb dst op env H=some (e,H')){b:Nat}(hb:b<H.length)(hn:eJ op env≠some b):H'[b]?=H[b]?:=by
 cases op;case st l n a x=>
  simp only[exE]at h;split at h;case h_2=>simp at h
  split at h;case isFalse=>simp at h
  cases l with
  | some t=>
   generalize ev env a=va at h;cases va<;>dsimp only at h<;>first | (simp at h;done) | skip
   split at h;case isFalse=>simp at h
   split at h;case h_2=>simp at h
   split at h;case isFalse=>simp at h
   simp only[RZ,R0]at h;rw[<-h.2]
  | none=>
   simp only[eJ]at hn;generalize ev env a=va at h hn;cases va<;>dsimp only at h<;>first | (simp at h;done) | skip
   split at h;case h_2=>simp at h
   split at h;case isFalse=>simp at h
   split at h;case h_2=>simp at h
   rename_i hs;simp only[RZ,R0]at h;obtain⟨_,rfl⟩:=h;unfold aR at hs;split at hs;case isFalse=>simp at hs
   simp only[RZ]at hs;subst hs;exact List.getElem?_set_ne (fun e=>hn (by rw[e]))
 case app es bytes x y=>
  simp only[exE]at h;split at h;case h_2=>simp at h
  split at h;case isFalse=>simp at h
  simp only[eJ]at hn;generalize ev env x=va at h hn;cases va<;>dsimp only at h<;>first | (simp at h;done) | skip
  ·split at h
   ·simp only[RZ,R0]at h;rw[<-h.2]
   ·split at h;case isFalse=>simp at h
    simp only[RZ,R0]at h;rw[<-h.2,List.getElem?_append_left hb]
  ·split at h;case h_2=>simp at h
   split at h;case isFalse=>simp at h
   split at h;case h_2=>simp at h
   rename_i hs;simp only[RZ,R0]at h;obtain⟨_,rfl⟩:=h;unfold aR at hs;split at hs;case isFalse=>simp at hs
   simp only[RZ]at hs;subst hs;exact List.getElem?_set_ne (fun e=>hn (by rw[e]))
 case mup ag ks m k v=>
  simp only[exE]at h;simp only[eJ]at hn;generalize ev env m=va at h hn;cases va<;>dsimp only at h<;>first | (simp at h;done) | skip
  split at h;case h_2=>simp at h
  split at h;case isFalse=>simp at h
  split at h;case h_2=>simp at h
  simp only[RZ,R0]at h;rw[<-h.2];exact List.getElem?_set_ne (fun e=>hn (by rw[e]))
 all_goals simp[exE]at h

theorem Bh {cb:Nat}{i:AI}{e:Ed}{d:Hd}{H1:Heap}(h:eff C lk lim ws base cb i env H=some (e,d))(hr:d.run base H=some H1)(hc:cls2 i= .actH)(hfl:i.fl=true){b:Nat}(hb:b<H.length)(hw:ws b=false):H1[b]?=H[b]?:=by
 unfold eff at h;split at h
 ·split at h;case isFalse=>simp at h
  rename_i hok;split at h
  ·rename_i hfr;rw[jS hfr]at hc;cases hc
  rename_i hfr;have hc:=jl hfr hc (fun e=>by cases e)
  unfold ld at h;rw[hc]at h;dsimp only at h;split at h;case h_2=>simp at h
  rename_i hx;simp only[RZ,R0]at h;obtain⟨_,rfl⟩:=h;simp only[Hd.run,RZ]at hr;subst hr;refine Bf hx hb (fun ht=>?_);unfold okT at hok;rw[ht]at hok;simp only[hw,hfl,Bool.not_true,Bool.or_false,Bool.false_and]at hok;cases hok
 ·simp only[RZ,R0]at h;obtain⟨_,rfl⟩:=h;simp only[Hd.run,RZ]at hr;subst hr;rfl
 ·simp at h

theorem KW (hF:tI C){cb:Nat}{i:AI}{e:Ed}{H2:Heap}(h:eff C lk lim ws base cb i env H=some (e,.to H2)):H.length<=H2.length:=by
 unfold eff at h;split at h
 ·split at h;case isFalse=>simp at h
  split at h
  ·unfold xN at h;split at h;case h_2=>simp at h
   split at h;case isFalse=>simp at h
   split at h;case h_2=>simp at h
   rename_i hcc;split at h;case isFalse=>simp at h
   simp only[RZ,R0,Hd.to.injEq]at h;rw[<-h.2];exact hF _ _ _ _ _ _ _ hcc
  unfold ld at h;split at h
  ·split at h<;>simp at h
  ·split at h;case h_2=>simp at h
   rename_i hx;simp only[RZ,R0,Hd.to.injEq]at h;rw[<-h.2];exact Hc hx
  ·split at h<;>simp at h
  ·split at h;case h_2=>simp at h
   split at h;case isFalse=>simp at h
   split at h;case h_2=>simp at h
   split at h;case isFalse=>simp at h
   simp only[RZ,R0]at h;split at h<;>simp at h
  ·split at h;case h_2=>simp at h
   split at h<;>simp at h
 ·simp at h
 ·simp at h

theorem C6 (hF:tI C){cb:Nat}{i:AI}{e:Ed}{d:Hd}{H1:Heap}(h:eff C lk lim ws base cb i env H=some (e,d))(hr:d.run base H=some H1):H.length<=H1.length:=by
 cases d with
 | same=>simp[Hd.run]at hr;rw[<-hr];exact Nat.le_refl _
 | fill k cs=>
  simp only[Hd.run]at hr;split at hr
  ·simp only[RZ]at hr;rw[<-hr];simp
  ·simp at hr
 | app X=>
  simp only[Hd.run]at hr;split at hr
  ·simp only[RZ]at hr;rw[<-hr];simp
  ·simp at hr
 | to H2=>simp[Hd.run]at hr;rw[<-hr];exact KW hF h

theorem rX {i j:AI}(hi:Indep i j)(hok:okPair (cls2 i) (cls2 j)=true)(hb:base<=H.length){ca cc cc':Nat}{e1:Ed}{d1:Hd}{envx:Env}{H1:Heap}(h1:eff C lk lim ws base ca i envx H=some (e1,d1))(s1:d1.run base H=some H1)(hc:cls2 j= .actH->cc=cc'):
  eff C lk lim ws base cc j env H1=eff C lk lim ws base cc' j env H:=by
 apply pU;rcases eL h1 with rfl | ⟨hm,cs,rfl⟩ | ⟨hm,X,_,rfl⟩ | hm | hm
 ·simp only[Hd.run,RZ]at s1;subst s1;by_cases hj:cls2 j= .actH
  ·exact .inr (.inl ⟨.inl hj,rfl,hc⟩)
  ·by_cases hj2:cls2 j= .callF
   ·exact .inr (.inl ⟨.inr hj2,rfl,hc⟩)
   ·exact .inl ⟨hj,hj2,rfl⟩
 ·rw[hm]at hok;have hj:cls2 j≠.actH:=fun e=>by rw[e]at hok;simp[okPair]at hok
  have hj2:cls2 j≠.callF:=fun e=>by rw[e]at hok;simp[okPair]at hok
  refine .inl ⟨hj,hj2,?_⟩;simp only[Hd.run]at s1;split at s1
  ·simp only[RZ]at s1;subst s1;rw[List.take_set_of_le (by omega)]
  ·simp at s1
 ·rw[hm]at hok;have hj:cls2 j≠.actH:=fun e=>by rw[e]at hok;simp[okPair]at hok
  have hj2:cls2 j≠.callF:=fun e=>by rw[e]at hok;simp[okPair]at hok
  refine .inl ⟨hj,hj2,?_⟩;simp only[Hd.run]at s1;split at s1
  ·simp only[RZ]at s1;subst s1;rw[List.take_append_of_le_length hb]
  ·simp at s1
 ·rw[hm]at hok;refine .inr (.inr ?_);cases hj:cls2 j<;>rw[hj]at hok<;>simp[okPair]at hok
  ·exact .inl (.inl (.inl rfl))
  ·exact .inl (.inl (.inr ⟨_,rfl⟩))
  ·exact .inr ⟨rfl,fun b hlt hw=>Bh h1 s1 hm (hi.fl1 hm hj) (by omega) hw⟩
  ·exact .inl (.inr ⟨_,rfl⟩)
 ·rw[hm]at hok;refine .inr (.inr ?_);cases hj:cls2 j<;>rw[hj]at hok<;>simp[okPair]at hok
  ·exact .inl (.inl (.inl rfl))
  ·exact .inl (.inl (.inr ⟨_,rfl⟩))
  ·exact .inl (.inr ⟨_,rfl⟩)

theorem xS {i j:AI}(hi:Indep i j)(hok:okPair (cls2 i) (cls2 j)=true)(hmk:cls2 i= .make\/cls2 j= .make->base<H.length){ca cc:Nat}{e1 e2:Ed}{d1 d2:Hd}{envx envy:Env}{H1 H2 Hx Hy:Heap}
  (h1:eff C lk lim ws base ca i envx Hx=some (e1,d1)) (s1:d1.run base H=some H1) (h2:eff C lk lim ws base cc j envy Hy=some (e2,d2)) (s2:d2.run base H1=some H2):∃H1',d2.run base H=some H1'/\d1.run base H1'=some H2:=by
 rcases eL h1 with rfl | ⟨hm,cs,rfl⟩ | ⟨hm,X,hX,rfl⟩ | hm | hm
 ·simp only[Hd.run,RZ]at s1;subst s1;exact⟨H2,s2,rfl⟩
 ·rcases eL h2 with rfl | ⟨hm2,cs2,rfl⟩ | ⟨hm2,X2,hX2,rfl⟩ | hm2 | hm2
  ·simp only[Hd.run,RZ]at s2;subst s2;exact⟨H,rfl,s1⟩
  ·have hne:=hi.at_ hm hm2;have hne2:base+i.at_≠base+j.at_:=by omega
   simp only[Hd.run]at s1 s2 |-;split at s1;case h_2=>simp at s1
   rename_i hk1;simp only[RZ]at s1;subst s1;rw[List.getElem?_set_ne hne2]at s2;split at s2;case h_2=>simp at s2
   rename_i hk2;simp only[RZ]at s2;subst s2;rw[hk2];refine⟨_,rfl,?_⟩;rw[List.getElem?_set_ne (Ne.symm hne2),hk1];dsimp only;rw[List.set_comm _ _ hne2]
  ·have hlt:=hmk (.inl hm);simp only[Hd.run]at s1 s2;split at s1;case h_2=>simp at s1
   simp only[RZ]at s1;subst s1;rw[List.length_set,if_neg (by omega)]at s2
   simp at s2
  ·rw[hm,hm2]at hok;simp[okPair]at hok
  ·rw[hm,hm2]at hok;simp[okPair]at hok
 ·rcases eL h2 with rfl | ⟨hm2,cs2,rfl⟩ | ⟨hm2,X2,hX2,rfl⟩ | hm2 | hm2
  ·simp only[Hd.run,RZ]at s2;subst s2;exact⟨H,rfl,s1⟩
  ·have hlt:=hmk (.inr hm2);simp only[Hd.run]at s1;rw[if_neg (by omega)]at s1
   simp at s1
  ·simp only[Hd.run]at s1 s2;split at s1;case isFalse=>simp at s1
   rename_i hl;simp only[RZ]at s1;subst s1;split at s2;case isFalse=>simp at s2
   rename_i hl2;rw[List.length_append]at hl2;exact absurd (List.eq_nil_of_length_eq_zero (by omega)) hX
  ·rw[hm,hm2]at hok;simp[okPair]at hok
  ·rw[hm,hm2]at hok;simp[okPair]at hok
 ·rw[hm]at hok;rcases eL h2 with rfl | ⟨hm2,cs2,rfl⟩ | ⟨hm2,X2,hX2,rfl⟩ | hm2 | hm2
  ·simp only[Hd.run,RZ]at s2;subst s2;exact⟨H,rfl,s1⟩
  all_goals rw[hm2]at hok;simp[okPair]at hok
 ·rw[hm]at hok;rcases eL h2 with rfl | ⟨hm2,cs2,rfl⟩ | ⟨hm2,X2,hX2,rfl⟩ | hm2 | hm2
  ·simp only[Hd.run,RZ]at s2;subst s2;exact⟨H,rfl,s1⟩
  all_goals rw[hm2]at hok;simp[okPair]at hok

def Big (base:Nat)(l:List AI)(H:Heap):Prop:=base<=H.length/\∀i∈l,cls2 i= .make->base<H.length

theorem Big.mono {l l':List AI}(h:Big base l H)(hl:∀i∈l',i∈l)(hs:H.length<=H'.length):Big base l' H':=
 ⟨Nat.le_trans h.1 hs,fun i hi hm=>Nat.lt_of_lt_of_le (h.2 i (hl i hi) hm) hs⟩

theorem rY (hF:tI C){cb:Nat}{i:AI}(h:jm C lk lim ws base cb i env H env' H'):H.length<=H'.length:=by
 obtain⟨e,d,h1,_,h3⟩:=h;exact C6 hF h1 h3

theorem Ed.run_EqE {cb:Nat}{i:AI}{e:Ed}{d:Hd}{env1:Env}(h:eff C lk lim ws base cb i env H=some (e,d))(hr:e.run env=some env1)(he:EqE env env'):∃env1',e.run env'=some env1'/\EqE env1 env1':=by
 rcases lV h with⟨v,rfl,_⟩ | ⟨t,cs,cs0,rfl,_,hb,_⟩
 ·exact he.put hr
 ·simp only[Ed.run,RZ]at hr |-;subst hr;have hb':find env' t= .box cs0:=by rw[<-he.1 t];exact hb
  have f1:=cC (v:=.box cs) (show find env t≠.dead by rw[hb];exact fun h=>by cases h)
  have f2:=cC (v:=.box cs) (show find env' t≠.dead by rw[hb'];exact fun h=>by cases h)
  exact⟨_,rfl,fun k=>by rw[f1,f2,he.1 k],fun k=>by rw[cD hb,cD hb',he.2 k]⟩

theorem Bi {cb:Nat}{i:AI}{env1:Env}{H1:Heap}(h:jm C lk lim ws base cb i env H env1 H1)(he:EqE env env'):∃env1',jm C lk lim ws base cb i env' H env1' H1/\EqE env1 env1':=by
 obtain⟨e,d,h1,h2,h3⟩:=h;obtain⟨env1',h4,h5⟩:=Ed.run_EqE h1 h2 he;exact⟨env1',⟨e,d,by rw[<-fm (he.agree i)];exact h1,h4,h3⟩,h5⟩

def iB (base:Nat)(r:List AI):Nat:=if r.any isCall=true then base else 0
theorem bJ {i:AI}{r:List AI}{env2:Env}{H2:Heap}:cX C lk lim ws base (i::r) env H=some (env2,H2)↔∃env1 H1,jm C lk lim ws base (iB base r) i env H env1 H1/\cX C lk lim ws base r env1 H1=some (env2,H2):=by
 simp only[cX];constructor
 ·intro h;split at h
  ·rename_i env1 H1 hs;exact⟨env1,H1,nh.1 hs,h⟩
  ·simp at h
 ·rintro⟨env1,H1,hs,h⟩;rw[show dq C lk lim ws base (if r.any isCall=true then base else 0) i env H=some (env1,H1) from nh.2 hs];exact h

theorem lW:∀{l:List AI} {env env':Env} {H:Heap} {env2:Env} {H2:Heap},EqE env env'->cX C lk lim ws base l env H=some (env2,H2)->∃env2',cX C lk lim ws base l env' H=some (env2',H2)/\EqE env2 env2'
 | [],env,env',H,env2,H2,he,h=>by
  simp only[cX,RZ,R0]at h |-;obtain⟨rfl,rfl⟩:=h;exact⟨env',⟨rfl,rfl⟩,he⟩
 | i::r,env,env',H,env2,H2,he,h=>by
  obtain⟨env1,H1,hs,hr⟩:=bJ.1 h;obtain⟨env1',hs',he'⟩:=Bi hs he;obtain⟨env2',hr',he2⟩:=lW he' hr;exact⟨env2',bJ.2 ⟨env1',H1,hs',hr'⟩,he2⟩

theorem JC {i j:AI}{r:List AI}(hi:Indep i j)(h:cls2 j= .actH):iB base r=iB base (i::r):=by
 have:isCall i=false:=by
  unfold isCall;rcases hi.ok with hok | hok | hok
  ·rw[h]at hok;cases hc:cls2 i<;>rw[hc]at hok<;>simp[okPair]at hok |-
  ·rw[(tH hok).1];rfl
  ·rw[(tH hok).2];rfl
 unfold iB;rw[List.any_cons,this,Bool.false_or]

theorem zz {cb:Nat}{i:AI}(hm:nX i.op=true){e:Ed}{d:Hd}(h:eff C lk lim ws base cb i env H=some (e,d)):
  (d= .same/\∀cb' H',eff C lk lim ws base cb' i env H'=some (e,.same))\/∃b es es',H[b]?=some (.map es)/\d= .to (H.set b (.map es'))/\∀cb' H',H'[b]?=some (.map es)->eff C lk lim ws base cb' i env H'=some (e,.to (H'.set b (.map es'))):=by
 have hfr:isFree i=false:=by
  unfold isFree;cases ho:i.op<;>rw[ho]at hm<;>simp only[nX]at hm<;>first | (cases hm;done) | simp[cls]
 unfold eff at h |-;rw[hfr]at h |-;cases hg:guardI i env with
 | none=>rw[hg]at h;cases h
 | some q=>
  rw[hg]at h;cases q with
  | false=>
   simp only[RZ,R0]at h;exact .inl ⟨h.2.symm,fun _ _=>by rw[h.1]⟩
  | true=>
   dsimp only at h |-;by_cases hok:okT ws i env=true;case neg=>rw[if_neg hok]at h;cases h
   rw[if_pos hok]at h;simp only[hok,Bool.false_eq_true,if_false,if_true]at h |-;cases ho:i.op<;>rw[ho]at hm<;>simp only[nX]at hm<;>try (cases hm;done)
   rename_i ag ks m k v;rw[ho]at h;unfold ld at h |-;simp only[cls,exE]at h |-;cases hv:ev env m<;>rw[hv]at h<;>dsimp only at h<;>try (cases h;done)
   rename_i b;cases hb:H[b]? with
   | none=>rw[hb]at h;cases h
   | some x=>
    rw[hb]at h;cases x<;>dsimp only at h<;>try (cases h;done)
    rename_i es;split at h;case h_2=>cases h
    rename_i e2 H2 hx;split at hx;case isFalse=>cases hx
    rename_i hc;split at hx;case h_2=>cases hx
    rename_i es' hes;simp only[RZ,R0]at h hx;obtain⟨rfl,rfl⟩:=hx;obtain⟨rfl,rfl⟩:=h;refine .inr ⟨b,es,es',hb,rfl,fun cb' H' hb'=>?_⟩;simp only[hb',if_pos hc,hes]
theorem C7 {cb:Nat}{i:AI}(hm:tA i.op=true){e:Ed}{d:Hd}(h:eff C lk lim ws base cb i env H=some (e,d)):
  (∀cb' H',eff C lk lim ws base cb' i env H'=some (e,d))/\(d= .same\/∃cs,d= .fill (base+i.at_) (.cells cs)):=by
 have hfr:isFree i=false:=by
  unfold isFree;cases ho:i.op<;>rw[ho]at hm<;>simp only[tA]at hm<;>first | (cases hm;done) | simp[cls]
 have hc:cls i.op= .make:=by
  cases ho:i.op<;>rw[ho]at hm<;>simp only[tA]at hm<;>first | (cases hm;done) | rfl
 unfold eff at h |-;rw[hfr]at h |-;cases hg:guardI i env with
 | none=>rw[hg]at h;cases h
 | some q=>
  rw[hg]at h;cases q with
  | false=>
   simp only[RZ,R0]at h;exact⟨fun _ _=>by rw[h.1,h.2],.inl h.2.symm⟩
  | true=>
   dsimp only at h |-;by_cases hok:okT ws i env=true;case neg=>rw[if_neg hok]at h;cases h
   rw[if_pos hok]at h;simp only[hok,Bool.false_eq_true,if_false,if_true]at h |-;unfold ld at h |-;rw[hc]at h |-;dsimp only at h |-;cases hk:cA i.op env (base+i.at_) with
   | none=>rw[hk]at h;cases h
   | some p=>
    obtain⟨v,x⟩:=p;rw[hk]at h;simp only[RZ,R0]at h;refine⟨fun _ _=>by dsimp only;rw[h.1,h.2],.inr ?_⟩
    rw[<-h.2]
    suffices hx:∃cs,x= .cells cs by
     obtain⟨cs,rfl⟩:=hx;exact⟨cs,rfl⟩
    cases ho:i.op<;>rw[ho]at hm hk<;>simp only[tA]at hm<;>try (cases hm;done)
    case allocH z=>simp only[cA,RZ,R0]at hk;exact⟨_,hk.2.symm⟩
    case boxH n x=>
     simp only[cA]at hk;split at hk
     ·split at hk
      ·simp only[RZ,R0]at hk;exact⟨_,hk.2.symm⟩
      ·cases hk
     ·cases hk
    case buildH n es z l=>
     simp only[cA]at hk;split at hk
     ·split at hk
      ·simp only[RZ,R0]at hk;exact⟨_,hk.2.symm⟩
      ·cases hk
     ·cases hk
    case mks es bytes z x=>
     simp only[cA]at hk;split at hk
     ·split at hk
      ·simp only[RZ,R0]at hk;exact⟨_,hk.2.symm⟩
      ·cases hk
     ·cases hk
theorem He {i j:AI}(hm:nX i.op=true)(hk:tA j.op=true){ca cc:Nat}{envi envj:Env}{e1 e2:Ed}{d1 d2:Hd}{H1 H2:Heap}
  (h1:eff C lk lim ws base ca i envi H=some (e1,d1)) (s1:d1.run base H=some H1) (h2:eff C lk lim ws base cc j envj H1=some (e2,d2)) (s2:d2.run base H1=some H2):
  ∃d1' H1',(∀cb',eff C lk lim ws base cb' j envj H=some (e2,d2))/\d2.run base H=some H1'/\(∀cb',eff C lk lim ws base cb' i envi H1'=some (e1,d1'))/\d1'.run base H1'=some H2:=by
 obtain⟨m1,m2⟩:=C7 hk h2;rcases zz hm h1 with⟨rfl,p1⟩ | ⟨b,es,es',p0,rfl,p1⟩
 ·simp only[Hd.run,RZ]at s1;subst s1;exact⟨.same,H2,fun _=>m1 _ _,s2,fun _=>p1 _ _,rfl⟩
 ·simp only[Hd.run,RZ]at s1;subst s1;rcases m2 with rfl | ⟨cs,rfl⟩
  ·simp only[Hd.run,RZ]at s2;subst s2;exact⟨_,H,fun _=>m1 _ _,rfl,fun _=>p1 _ _ p0,rfl⟩
  ·have hlt:b<H.length:=by
    rcases Nat.lt_or_ge b H.length with h | h
    ·exact h
    ·rw[List.getElem?_eq_none h]at p0;cases p0
   simp only[Hd.run]at s2;by_cases hbk:b=base+j.at_
   ·subst hbk;rw[List.getElem?_set_self hlt]at s2;cases s2
   ·rw[List.getElem?_set_ne hbk]at s2;cases hh:H[base+j.at_]? with
    | none=>rw[hh]at s2;cases s2
    | some x=>
     rw[hh]at s2;cases x<;>dsimp only at s2<;>try (cases s2;done)
     simp only[RZ]at s2;subst s2;refine⟨_,H.set (base+j.at_) (.cells cs),fun _=>m1 _ _,by simp only[Hd.run,hh],fun _=>p1 _ _ (by rw[List.getElem?_set_ne (Ne.symm hbk)];exact p0),?_⟩
     simp only[Hd.run];rw[List.set_comm _ _ (Ne.symm hbk)]
theorem C8 {i j:AI}(hm:nX j.op=true)(hk:tA i.op=true){ca cc:Nat}{envi envj:Env}{e1 e2:Ed}{d1 d2:Hd}{H1 H2:Heap}
  (h1:eff C lk lim ws base ca i envi H=some (e1,d1)) (s1:d1.run base H=some H1) (h2:eff C lk lim ws base cc j envj H1=some (e2,d2)) (s2:d2.run base H1=some H2):
  ∃d2' H1',(∀cb',eff C lk lim ws base cb' j envj H=some (e2,d2'))/\d2'.run base H=some H1'/\(∀cb',eff C lk lim ws base cb' i envi H1'=some (e1,d1))/\d1.run base H1'=some H2:=by
 obtain⟨m1,m2⟩:=C7 hk h1;rcases zz hm h2 with⟨rfl,p1⟩ | ⟨b,es,es',p0,rfl,p1⟩
 ·simp only[Hd.run,RZ]at s2;subst s2;exact⟨.same,H,fun _=>p1 _ _,rfl,fun _=>m1 _ _,s1⟩
 ·simp only[Hd.run,RZ]at s2;subst s2;rcases m2 with rfl | ⟨cs,rfl⟩
  ·simp only[Hd.run,RZ]at s1;subst s1;exact⟨_,_,fun _=>p1 _ _ p0,rfl,fun _=>m1 _ _,rfl⟩
  ·simp only[Hd.run]at s1;cases hh:H[base+i.at_]? with
   | none=>rw[hh]at s1;cases s1
   | some x=>
    rw[hh]at s1;cases x<;>dsimp only at s1<;>try (cases s1;done)
    simp only[RZ]at s1;subst s1;have hlt:base+i.at_<H.length:=by
     rcases Nat.lt_or_ge (base+i.at_) H.length with h | h
     ·exact h
     ·rw[List.getElem?_eq_none h]at hh;cases hh
    by_cases hbk:b=base+i.at_
    ·subst hbk;rw[List.getElem?_set_self hlt]at p0;cases p0
    ·rw[List.getElem?_set_ne (Ne.symm hbk)]at p0;refine⟨_,_,fun _=>p1 _ _ p0,rfl,fun _=>m1 _ _,?_⟩;simp only[Hd.run];rw[List.getElem?_set_ne hbk,hh];dsimp only;rw[List.set_comm _ _ hbk]

theorem Bj {i j:AI}{r:List AI}{env2:Env}{H2:Heap}(hi:Indep i j)(hb:Big base (i::j::r) H)(h:cX C lk lim ws base (i::j::r) env H=some (env2,H2)):∃env2',cX C lk lim ws base (j::i::r) env H=some (env2',H2)/\EqE env2 env2':=by
 obtain⟨env1,H1,⟨e1,d1,h1,r1,s1⟩,h⟩:=bJ.1 h;obtain⟨envm,Hm',⟨e2,d2,h2,r2,s2⟩,h⟩:=bJ.1 h;have ag:Agree j env env1:=jU hi h1 r1;by_cases hok:okPair (cls2 i) (cls2 j)=true;case neg=>
  have h2a:eff C lk lim ws base (iB base r) j env H1=some (e2,d2):=by rw[fm ag];exact h2
  rcases hi.ok.resolve_left hok with hm | hm
  ·unfold mmPair at hm;rw[Bool.and_eq_true]at hm;obtain⟨d1',H1',q1,q2,q3,q4⟩:=He hm.1 hm.2 h1 s1 h2a s2;obtain⟨env1',envm',r2',r1',heq⟩:=lh hi h1 r1 (q1 (iB base (i::r))) r2;have ag':Agree i env env1':=jU hi.symm (q1 (iB base (i::r))) r2';obtain⟨env2',h',he2⟩:=lW heq h;exact⟨env2',bJ.2 ⟨env1',H1',⟨e2,d2,q1 _,r2',q2⟩,bJ.2 ⟨envm',Hm',⟨e1,d1',by rw[<-fm ag'];exact q3 _,r1',q4⟩,h'⟩⟩,he2⟩
  ·unfold mmPair at hm;rw[Bool.and_eq_true]at hm;obtain⟨d2',H1',q1,q2,q3,q4⟩:=C8 hm.1 hm.2 h1 s1 h2a s2;obtain⟨env1',envm',r2',r1',heq⟩:=lh hi h1 r1 (q1 (iB base (i::r))) r2;have ag':Agree i env env1':=jU hi.symm (q1 (iB base (i::r))) r2';obtain⟨env2',h',he2⟩:=lW heq h;exact⟨env2',bJ.2 ⟨env1',H1',⟨e2,d2',q1 _,r2',q2⟩,bJ.2 ⟨envm',Hm',⟨e1,d1,by rw[<-fm ag'];exact q3 _,r1',q4⟩,h'⟩⟩,he2⟩
 have h2':eff C lk lim ws base (iB base (i::r)) j env H=some (e2,d2):=by
  rw[<-rX (env:=env) hi hok hb.1 h1 s1 (fun hj=>JC hi hj),fm ag];exact h2
 obtain⟨env1',envm',r2',r1',heq⟩:=lh hi h1 r1 h2' r2;obtain⟨H1',s2',s1'⟩:=xS hi hok (fun h=>by
  rcases h with h | h
  ·exact hb.2 i (by simp) h
  ·exact hb.2 j (by simp) h) h1 s1 h2 s2
 have ag':Agree i env env1':=jU hi.symm h2' r2';have h1':eff C lk lim ws base (iB base r) i env1' H1'=some (e1,d1):=by
  rw[rX (cc':=iB base (j::r)) (env:=env1') hi.symm (by rw[og];exact hok) hb.1 h2' s2' (fun hj=>JC hi.symm hj),<-fm ag']
  exact h1
 obtain⟨env2',h',he2⟩:=lW heq h;exact⟨env2',bJ.2 ⟨env1',H1',⟨e2,d2,h2',r2',s2'⟩,bJ.2 ⟨envm',Hm',⟨e1,d1,h1',r1',s1'⟩,h'⟩⟩,he2⟩

theorem xT {i:AI}(pre post:List AI):iB base (pre++i::post)=iB base (i::(pre++post)):=by
 unfold iB;have:(pre++i::post).any isCall=(i::(pre++post)).any isCall:=by
  simp only[List.any_append,List.any_cons];cases isCall i<;>simp
 rw[this]

theorem pX (hF:tI C){i:AI}{post:List AI}:∀{pre:List AI} {env:Env} {H:Heap} {env2:Env} {H2:Heap},(∀p∈pre,Indep p i)->Big base (pre++i::post) H->cX C lk lim ws base (pre++i::post) env H=some (env2,H2)->
  ∃env2',cX C lk lim ws base (i::(pre++post)) env H=some (env2',H2)/\EqE env2 env2'
 | [],env,H,env2,H2,_,_,h=>⟨env2,h,EqE.refl _⟩
 | p::pre,env,H,env2,H2,hp,hb,h=>by
  obtain⟨env1,H1,hs,h⟩:=bJ.1 h;obtain⟨env2',h',he⟩:=pX hF (pre:=pre) (fun q hq=>hp q (List.mem_cons_of_mem _ hq)) (hb.mono (fun q hq=>List.mem_cons_of_mem _ hq) (rY hF hs)) h;rw[show iB base (pre.append (i::post))=iB base (i::(pre++post)) from xT pre post]at hs;have hb':Big base (p::i::(pre++post)) H:=hb.mono (fun q hq=>by simp at hq |-;rcases hq with h | h | h | h<;>simp[h]) (Nat.le_refl _)
  obtain⟨env3,h3,he3⟩:=Bj (hp p (by simp)) hb' (bJ.2 ⟨env1,H1,hs,h'⟩)
  exact⟨env3,h3,he.trans he3⟩
end
open Go.RowKit

def Cl (n:Nat)(H:Heap):Prop:=∀(b:Nat) cs,b<n->H[b]?=some (.cells cs)->belowL n cs=true

structure OrcFr (C:Orc):Prop where
 len:∀lk lim f as H r H',C lk lim f as H=some (r,H')->H.length<=H'.length
 lock:∀lk lim f as H r H',C lk lim f as H=some (r,H')->lk<=H.length->∀b,b<lk->H'[b]?=H[b]?
 cl:∀lk lim f as H r H',C lk lim f as H=some (r,H')->∀m,m<=lim->m<=H.length->Cl m H->Cl m H'

theorem gP {n:Nat}{a b:List AV}:belowL n (a++b)=(belowL n a&&belowL n b):=by
 induction a with
 | nil=>simp[belowL]
 | cons x r ih=>simp[belowL,ih,Bool.and_assoc]
theorem pY {n:Nat}{a b:List AV}(h:∀x∈a,x∈b)(hb:belowL n b=true):belowL n a=true:=bD.2 fun x hx=>bD.1 hb x (h x hx)
theorem hU {n off:Nat}{cs new:List AV}(hc:belowL n cs=true)(hn:belowL n new=true):belowL n (an cs off new)=true:=by
 unfold an;rw[gP,gP,hn,pY (fun x hx=>List.mem_of_mem_take hx) hc,pY (fun x hx=>List.mem_of_mem_drop hx) hc];rfl

theorem vt {n e g:Nat}{cs new:List AV}(hc:belowL n cs=true)(hn:belowL n new=true):belowL n (cS e g cs new)=true:=by
 unfold cS;split
 ·rw[gP,hc,hn];rfl
 ·exact hU hc hn
theorem cw {H:Heap}{n b:Nat}{x:HB}(h:(H.take n)[b]?=some x):b<n/\H[b]?=some x:=by
 rw[List.getElem?_take]at h;split at h
 ·exact⟨‹_›,h⟩
 ·simp at h

section
variable {φ:Phi}{F:Nat->Nat->Prop}{H H':Heap}{w:World}{β:Nat->Nat}{env:Env}

theorem VRel.shrink {n:Nat}{a:AV}{v:Value}(h:VRel φ F H w a v)(hb:Hm.below n a=true):VRel φ F (H.take n) w a v:=by
 induction h with
 | one h=>exact .one (h.shrink hb)
 | agg cs vs h=>exact .agg cs vs ⟨h.1,fun i a v ha hv=>(h.2 i a v ha hv).shrink (cf (by simpa[Hm.below] using hb) ha)⟩
 | tup as vs hl _ ih=>exact .tup as vs hl fun i a v ha hv=>ih i a v ha hv (cf (by simpa[Hm.below] using hb) ha)

theorem SR.take {n:Nat}(sr:SR φ F H w)(hc:Cl n H):SR φ F (H.take n) w:=by
 have lv:∀b,live (H.take n) b->live H b:=fun b ⟨cs,h1,h2⟩=>⟨cs,(cw h1).2,h2⟩;refine⟨fun b cs hb hne=>?_,fun b es hb=>?_,fun b b' h1 h2=>sr.inj b b' (lv b h1) (lv b' h2),fun b o h=>sr.phiF b o (lv b h),sr.fsz⟩
 ·obtain⟨hlt,hb⟩:=cw hb;obtain⟨arr,ty,ha,hr⟩:=sr.blk b cs hb hne;refine⟨arr,ty,ha,fun i a hi=>?_⟩;obtain⟨v,hv,hrel⟩:=hr i a hi;exact⟨v,hv,hrel.shrink (cf (hc b cs hlt hb) hi)⟩
 ·obtain⟨hlt,hb⟩:=cw hb;obtain⟨ces,clk,ha,hm1,hm2,hm3⟩:=sr.mblk b es hb;refine⟨ces,clk,ha,hm1,fun i k v hi=>?_,hm3⟩;obtain⟨h1,h2,e,h3,h4,h5⟩:=hm2 i k v hi;exact⟨h1,h2,e,h3,h4.shrink (cY (Nat.zero_le _) _ h1),h5.shrink (cY (Nat.zero_le _) _ h2)⟩

theorem SR.cl (sr:SR φ F H w):Cl H.length H:=fun b cs _ hb=>by
 by_cases hne:cs=[]
 ·subst hne;rfl
 ·obtain⟨arr,ty,ha,hr⟩:=sr.blk b cs hb hne;exact gL fun i a hi=>by
   obtain⟨v,_,hrel⟩:=hr i a hi;exact hrel.refs

theorem vu {n:Nat}{l:Option Nat}{a:AV}{r:List AV×Nat}(h:bB l env (H.take n) a=some r):bB l env H a=some r:=by
 cases l with
 | some t=>exact h
 | none=>
  cases a<;>simp only[bB]at h |-<;>try exact h
  rename_i b g off;split at h
  ·rename_i cs hb;rw[(cw hb).2];exact h
  ·simp at h
theorem tK {n:Nat}{a:AV}{r:List AV}(h:bh (H.take n) a=some r):bh H a=some r:=by
 cases a<;>simp only[bh]at h |-<;>try exact h
 rename_i b g off m es;split at h
 ·rename_i cs hb;rw[(cw hb).2];exact h
 ·simp at h

theorem pZ {n:Nat}{a:AV}{r:List (AV×AV)}(h:dw (H.take n) a=some r):dw H a=some r:=by
 unfold dw at h |-;split at h
 ·exact h
 ·rename_i b;split at h
  ·rename_i es hb;simp only[(cw hb).2];exact h
  ·simp at h
 ·simp at h
theorem Bk {n:Nat}{op:AOp}{v:AV}(h:aw op env (H.take n)=some v):aw op env H=some v:=by
 cases op;case ld1 l a=>
  simp only[aw]at h |-;split at h
  ·rename_i cs off hp;rw[vu hp];exact h
  ·simp at h
 case ldA l k a=>
  simp only[aw]at h |-;split at h
  ·rename_i cs off hp;rw[vu hp];exact h
  ·simp at h
 case b2s x=>
  simp only[aw]at h |-;split at h
  ·rename_i cs hp;rw[tK hp];exact h
  ·simp at h
 case len b x=>cases b<;>exact h
 case mlk ag ks z ok m k=>
  simp only[aw]at h |-;split at h
  ·rename_i es hm;rw[pZ hm];exact h
  ·simp at h
 case mlen m=>
  simp only[aw]at h |-;split at h
  ·rename_i es hm;rw[pZ hm];exact h
  ·simp at h
 all_goals exact h
end

section
variable {P:Program}{φ0:Phi}{F0:Nat->Nat->Prop}{H0:Heap}{w0:World}{φ:Phi}{F:Nat->Nat->Prop}{H:Heap}{w:World}{β:Nat->Nat}{env:Env}{act:Act}{T:TT}{C:Orc}{lk lim base cb:Nat}{ws:WS}{pm:Pm}{ops:Array Oper}{Q:Exit->Act->World->Prop}

theorem xU (hC:bI P C)(hF:OrcFr C)(f:Full φ0 F0 H0 w0 φ F H w β env act T){o:Oper}{k:Nat}{env':Env}{H':Heap}(hb:base<=H.length)(hcl:cls (bz P pm o)= .call->Cl base H)(hd:∀d,o.dst=some d->d<T)
  (h:fG C lk lim base cb o.dst (bz P pm o) k env H=some (env',H')):eZ P φ0 F0 H0 w0 T act w o.dst o.op H' env':=by
 rcases lc (P:=P) pm o with hbad | hrel
 ·rw[hbad]at h;simp[fG,cls,aw]at h
 ·unfold fG at h;split at h
  ·exact G5 f hrel hd h
  ·exact G5 f hrel hd h
  ·split at h;case h_2=>simp at h
   rename_i v cs hm;split at h;case h_2=>simp at h
   rename_i hk;split at h;case h_2=>simp at h
   rename_i env2 hp;simp only[RZ,R0]at h;obtain⟨rfl,rfl⟩:=h;obtain⟨m,hop,hmk⟩:=Ni f hrel hm;have hlt:base+k<H.length:=(List.getElem?_eq_some_iff.1 hk).1;exact CT f hd hp (hop _) hmk ⟨fun cs=>by rw[hk];simp,fun es=>by rw[hk];simp⟩ (by simp[hlt]) (fun b' hb'=>by rw[List.getElem?_set_ne (fun e=>hb' e.symm)])
  ·rename_i hcc;split at h;case h_2=>simp at h
   rename_i g as hca;split at h;case isFalse=>simp at h
   rename_i hok;split at h;case h_2=>simp at h
   rename_i v H2 hcall;split at h;case isFalse=>simp at h
   rename_i hl;split at h;case h_2=>simp at h
   rename_i env2 hp;simp only[RZ,R0]at h;obtain⟨rfl,rfl⟩:=h;have hlen:=hF.len _ _ _ _ _ _ _ hcall;have hlock:=hF.lock _ _ _ _ _ _ _ hcall (by rw[List.length_take,Nat.min_eq_left hb];exact Nat.le_refl _)
   rw[List.length_take,Nat.min_eq_left hb]at hlen;obtain⟨hE,hcon⟩:=hC _ _ _ _ _ _ _ hcall;obtain⟨vs,harel,hrun⟩:=xJ f hrel hca hok.1 hE;have harel':jb φ F (H.take base) w as vs:=⟨harel.1,fun i a v ha hv=>(harel.2 i a v ha hv).shrink (cf hok.2 ha)⟩;refine xM hrun (Calls.mono (hcon φ F w vs (f.st.sr.take (hcl hcc)) harel') (fun e w' ⟨v,he,hr⟩=>⟨v,he,xK f hd hp (xL f.st.sr ?_ (fun b hlt=>?_) hr)⟩))
   ·rcases hl.1 with h | h
    ·exact .inl (by omega)
    ·exact .inr h
   ·rw[hlock b hlt,List.getElem?_take,if_pos hlt]
  ·split at h;case h_2=>simp at h
   rename_i v hr;split at h;case isFalse=>simp at h
   split at h;case h_2=>simp at h
   rename_i env2 hp;simp only[RZ,R0]at h;obtain⟨rfl,rfl⟩:=h;exact Nh f hrel hd (Bk hr) hp

theorem xV (hC:bI P C)(f:Full φ0 F0 H0 w0 φ F H w β env act T){o:Oper}{env':Env}{H':Heap}(hd:∀d,o.dst=some d->d<T)(h:lL C lk lim o.dst (bz P pm o) env H=some (env',H')):
  eZ P φ0 F0 H0 w0 T act w o.dst o.op H' env':=by
 rcases lc (P:=P) pm o with hbad | hrel
 ·rw[hbad]at h;simp[lL,bj]at h
 ·unfold lL at h;split at h;case h_2=>simp at h
  rename_i g as hca;split at h;case isFalse=>simp at h
  rename_i hok;split at h;case h_2=>simp at h
  rename_i v H2 hcc;split at h;case isFalse=>simp at h
  split at h;case h_2=>simp at h
  rename_i env2 hp;simp only[RZ,R0]at h;obtain⟨rfl,rfl⟩:=h;obtain⟨hE,hcon⟩:=hC _ _ _ _ _ _ _ hcc;obtain⟨vs,harel,hrun⟩:=xJ f hrel hca hok hE;exact xM hrun (Calls.mono (hcon φ F w vs f.st.sr harel) (fun e w' ⟨v,he,hr⟩=>⟨v,he,xK f hd hp hr⟩))

def SameBut (i j:AI):Prop:=i.dst=j.dst/\i.grd=j.grd/\i.op=j.op

theorem vv (hC:bI P C)(hF:OrcFr C)(f:Full φ0 F0 H0 w0 φ F H w β env act T){o:Oper}{i:AI}{idx:Nat}{env':Env}{H':Heap}{K:Act->World->Prop}(ho:ops[idx]?=some o)(hi:SameBut i (dT P pm ops o))(hT:pm.T=T)(hb:base<=H.length)(hcl:isCall i=true->Cl base H)
  (h:dq C lk lim ws base cb i env H=some (env',H')) (hK:∀act' w',dK φ0 F0 H0 w0 H' env' T act' w'->K act' w'):wpOp P ops Q idx K act w:=by
 obtain⟨hi1,hi2,hi3⟩:=hi;rcases vn (P:=P) (pm:=pm) (ops:=ops) o with hbad | ⟨h1,h2,hd,hg⟩
 ·rw[hbad]at hi1 hi2 hi3;simp[dq,guardI,hi2,CJ,hi3,fG,cls,aw,lL,bj]at h
 rw[h1]at hi1;rw[h2]at hi3;unfold dq at h;rw[hi1,hi3]at h;have hg':pE ops o.guard=some i.grd:=by rw[hg,hi2]
 split at h
 ·rename_i hgd;split at h;case isFalse=>simp at h
  split at h
  ·exact lS f ho (fun d hh=>hT▸hd d hh) hg' hgd (fun _=>xV hC f (fun d hh=>hT▸hd d hh) h) (fun e=>by cases e) hK
  rename_i hfr;exact lS f ho (fun d hh=>hT▸hd d hh) hg' hgd (fun _=>xU hC hF f hb (fun hc=>hcl (by unfold isCall;rw[ff (c:=.call) hfr (by rw[hi3];exact hc) (fun e=>by cases e)];rfl)) (fun d hh=>hT▸hd d hh) h) (fun e=>by cases e) hK
 ·rename_i hgd;split at h;case h_2=>simp at h
  rename_i env2 hp;simp only[RZ,R0]at h;obtain⟨rfl,rfl⟩:=h;exact lS f ho (fun d hh=>hT▸hd d hh) hg' hgd (fun e=>by cases e) (fun _=>⟨hp,rfl⟩) hK
 ·simp at h

theorem zA {n:Nat}{b:Nat}{cs cs0 new:List AV}{H':Heap}(hcl:Cl n H)(h:aR lk lim cb H b cs new=some H')(hb:H[b]?=some (.cells cs0))(hcs:∀m,belowL m cs0=true->belowL m new=true->belowL m cs=true)(hcb2:cb=n\/n<=lim):Cl n H':=by
 unfold aR at h;split at h;case isFalse=>simp at h
 rename_i hc;obtain⟨_,hc1,hc2⟩:=hc;simp only[RZ]at h;subst h;intro b' cs' hlt hb';by_cases e:b'=b
 ·subst e;have hlt2:=(List.getElem?_eq_some_iff.1 hb).1;rw[List.getElem?_set_self hlt2]at hb';cases hb';refine hcs n (hcl b' cs0 hlt hb) ?_;rcases hcb2 with h | h
  ·subst h;exact hc2.resolve_left (by omega)
  ·exact dP (Nat.zero_le n) _ (hc1.resolve_left (by omega))
 ·rw[List.getElem?_set_ne (fun h=>e h.symm)]at hb';exact hcl b' cs' hlt hb'

theorem vw {dst:Option Nat}{op:AOp}{e:Ed}{H':Heap}(h:exE lk lim cb dst op env H=some (e,H')):
  H'=H\/(∃x,H'=H++[x])\/(∃b cs cs0 new,aR lk lim cb H b cs new=some H'/\H[b]?=some (.cells cs0)/\∀m,belowL m cs0=true->belowL m new=true->belowL m cs=true)\/(∃b es es',lk<=b/\H[b]?=some (.map es)/\H'=H.set b (.map es')):=by
 cases op;case st l n a x=>
  simp only[exE]at h;split at h;case h_2=>simp at h
  split at h;case isFalse=>simp at h
  generalize ev env a=va at h;cases l with
  | some t=>
   cases va<;>dsimp only at h<;>first | (simp at h;done) | skip
   split at h;case isFalse=>simp at h
   split at h;case h_2=>simp at h
   split at h;case isFalse=>simp at h
   simp only[RZ,R0]at h;exact .inl h.2.symm
  | none=>
   cases va<;>dsimp only at h<;>first | (simp at h;done) | skip
   split at h;case h_2=>simp at h
   rename_i cs hb;split at h;case isFalse=>simp at h
   split at h;case h_2=>simp at h
   rename_i hs;simp only[RZ,R0]at h;obtain⟨_,rfl⟩:=h;exact .inr (.inr (.inl ⟨_,_,cs,_,hs,hb,fun m h1 h2=>hU h1 h2⟩))
 case app es bytes x y=>
  simp only[exE]at h;split at h;case h_2=>simp at h
  split at h;case isFalse=>simp at h
  generalize ev env x=va at h;cases va<;>dsimp only at h<;>first | (simp at h;done) | skip
  ·split at h
   ·simp only[RZ,R0]at h;exact .inl h.2.symm
   ·split at h;case isFalse=>simp at h
    simp only[RZ,R0]at h;exact .inr (.inl ⟨_,h.2.symm⟩)
  ·split at h;case h_2=>simp at h
   rename_i cs hb;split at h;case isFalse=>simp at h
   split at h;case h_2=>simp at h
   rename_i hs;simp only[RZ,R0]at h;obtain⟨_,rfl⟩:=h;exact .inr (.inr (.inl ⟨_,_,cs,_,hs,hb,fun m h1 h2=>vt h1 h2⟩))
 case mup ag ks m k v=>
  simp only[exE]at h;split at h;case h_2=>simp at h
  split at h;case h_2=>simp at h
  rename_i es hb;split at h;case isFalse=>simp at h
  rename_i hc;split at h;case h_2=>simp at h
  simp only[RZ,R0]at h;exact .inr (.inr (.inr ⟨_,es,_,hc.1,hb,h.2.symm⟩))
 all_goals simp[exE]at h

theorem Cl.append {n:Nat}{X:Heap}(h:Cl n H)(hn:n<=H.length):Cl n (H++X):=fun b cs hb hc=>by
 rw[List.getElem?_append_left (by omega)]at hc
 exact h b cs hb hc
theorem Cl.set {n k:Nat}{x:HB}(h:Cl n H)(hk:n<=k):Cl n (H.set k x):=fun b cs hb hc=>by
 rw[List.getElem?_set_ne (by omega)]at hc
 exact h b cs hb hc

theorem Cl.setM {n b:Nat}{es es':List (AV×AV)}(h:Cl n H)(hb:H[b]?=some (.map es)):Cl n (H.set b (.map es')):=fun b' cs hlt hc=>by
 by_cases e:b'=b
 ·subst e;rw[List.getElem?_set_self (List.getElem?_eq_some_iff.1 hb).1]at hc;cases hc
 ·rw[List.getElem?_set_ne (fun h=>e h.symm)]at hc;exact h b' cs hlt hc

structure Fr (lk lim:Nat)(H H':Heap):Prop where
 len:H.length<=H'.length
 lock:lk<=H.length->∀b,b<lk->H'[b]?=H[b]?
 cl:∀m,m<=lim->m<=H.length->Cl m H->Cl m H'

theorem Fr.refl (lk lim:Nat)(H:Heap):Fr lk lim H H:=⟨Nat.le_refl _,fun _ _ _=>rfl,fun _ _ _ h=>h⟩
theorem Fr.trans {H1 H2 H3:Heap}(h:Fr lk lim H1 H2)(k:Fr lk lim H2 H3):Fr lk lim H1 H3:=
 ⟨Nat.le_trans h.len k.len,fun hl b hb=>by rw[k.lock (Nat.le_trans hl h.len) b hb,h.lock hl b hb],fun m h1 h2 hc=>k.cl m h1 (Nat.le_trans h2 h.len) (h.cl m h1 h2 hc)⟩

theorem xW {dst:Option Nat}{op:AOp}{e:Ed}{H':Heap}(h:exE lk lim cb dst op env H=some (e,H')):Fr lk lim H H':=by
 rcases vw h with rfl | ⟨x,rfl⟩ | ⟨b,cs,cs0,new,hs,hb,hrow⟩ | ⟨b,es,es',hlk,hb,rfl⟩
 ·exact Fr.refl _ _ _
 ·exact⟨by simp,fun hl b hb=>List.getElem?_append_left (by omega),fun m _ h2 hc=>hc.append h2⟩
 ·refine⟨by rw[pW hs];exact Nat.le_refl _,fun _ b' hb'=>?_,fun m h1 _ hc=>zA hc hs hb hrow (.inr h1)⟩
  unfold aR at hs;split at hs;case isFalse=>simp at hs
  rename_i hcc;simp only[RZ]at hs;subst hs;rw[List.getElem?_set_ne (by omega)]
 ·exact⟨by simp,fun _ b' hb'=>by rw[List.getElem?_set_ne (by omega)],fun m _ _ hc=>hc.setM hb⟩
theorem Hg {dst:Option Nat}{op:AOp}{e:Ed}{H':Heap}(h:exE lk lim base dst op env H=some (e,H'))(hb:base<=H.length)(hc:Cl base H):Cl base H':=by
 rcases vw h with rfl | ⟨x,rfl⟩ | ⟨b,cs,cs0,new,hs,hbb,hrow⟩ | ⟨b,es,es',hlk,hbb,rfl⟩
 ·exact hc
 ·exact hc.append hb
 ·exact zA hc hs hbb hrow (.inl rfl)
 ·exact hc.setM hbb

theorem lX {op:AOp}(h:cls op= .callF):False:=by
 cases op<;>simp only[cls]at h<;>try (cases h;done)
 case st l n a x=>cases l<;>cases h
 case ld1 l a=>cases l<;>cases h
 case ldA l n a=>cases l<;>cases h

theorem Bl {i:AI}{env':Env}{H':Heap}(hnf:isFree i=false)(h:jm C lk lim ws base base i env H env' H')(hb:base<=H.length)(hc:Cl base H):Cl base H':=by
 obtain⟨e,d,h1,_,h3⟩:=h;have hto:∀H2,d= .to H2->Cl base H2:=fun H2 hd=>by
  subst hd;unfold eff at h1;split at h1
  ·split at h1;case isFalse=>simp at h1
   rw[if_neg (by rw[hnf];simp)]at h1
   unfold ld at h1;split at h1
   ·split at h1<;>simp at h1
   ·split at h1;case h_2=>simp at h1
    rename_i hx;simp only[RZ,R0,Hd.to.injEq]at h1;rw[<-h1.2];exact Hg hx hb hc
   ·split at h1<;>simp at h1
   ·split at h1;case h_2=>simp at h1
    split at h1;case isFalse=>simp at h1
    split at h1;case h_2=>simp at h1
    split at h1;case isFalse=>simp at h1
    simp only[RZ,R0]at h1;split at h1<;>simp at h1
   ·split at h1;case h_2=>simp at h1
    split at h1<;>simp at h1
  ·simp at h1
  ·simp at h1
 cases d with
 | same=>simp[Hd.run]at h3;rw[<-h3];exact hc
 | to H2=>simp[Hd.run]at h3;rw[<-h3];exact hto H2 rfl
 | app X=>
  simp only[Hd.run]at h3;split at h3
  ·simp only[RZ]at h3;rw[<-h3];exact hc.append hb
  ·simp at h3
 | fill k cs=>
  rcases eL h1 with h | ⟨_,_,h⟩ | ⟨_,_,_,h⟩ | h | h
  ·cases h
  ·cases h;simp only[Hd.run]at h3;split at h3
   ·simp only[RZ]at h3;rw[<-h3];exact hc.set (by omega)
   ·simp at h3
  ·cases h
  case inr.inr.inr.inr=>
   exfalso;exact lX (jl (by rw[hnf];simp) h (fun e=>by cases e))
  ·exfalso;have h:=jl (by rw[hnf];simp) h (fun e=>by cases e)
   unfold eff ld at h1;rw[h]at h1;split at h1
   ·split at h1;case isFalse=>simp at h1
    rw[if_neg (by rw[hnf];simp)]at h1
    dsimp only at h1;split at h1<;>simp at h1
   ·simp at h1
   ·simp at h1
end
open Go.RowKit

section
variable {P:Program}{φ0:Phi}{F0:Nat->Nat->Prop}{H0:Heap}{w0:World}{T:TT}{C:Orc}{lk lim base:Nat}{ws:WS}{pm:Pm}{ops:Array Oper}{Q:Exit->Act->World->Prop}

def JD (ops:List Oper)(j:Nat)(row:List Nat):Prop:=
 ∀S:Nat->Prop,(∀i o,ops[i]?=some o->S i->∀e∈directs o,S e)->(∀o,ops[j]?=some o->∀e∈directs o,S e)->∀x∈row,S x

theorem rZ {ops:List Oper}:∀(l done:List Oper) (acc:List (List Nat)),done++l=ops->acc.length=done.length->(∀(j:Nat) row,acc[j]?=some row->JD ops j row)->∀(j:Nat) row,(A0 l acc)[j]?=some row->JD ops j row
 | [],done,acc,_,_,h,j,row,hj=>h j row hj
 | o::r,done,acc,hd,hl,h,j,row,hj=>by
  refine rZ r (done++[o]) _ (by rw[List.append_assoc];exact hd) (by simp[hl]) (fun k rw' hk=>?_) j row hj
  rw[List.getElem?_append]at hk;split at hk
  ·exact h k rw' hk
  ·have hk0:k-acc.length=0:=by
    have:=(List.getElem?_eq_some_iff.1 hk).1;simp at this;omega
   rw[hk0]at hk;simp only[List.getElem?_cons_zero,RZ]at hk;subst hk;have hke:k=done.length:=by omega
   have hok:ops[k]?=some o:=by rw[<-hd,hke];simp
   intro S hS hdir x hx;rw[List.mem_eraseDups,List.mem_append,List.mem_flatMap]at hx;rcases hx with hx | ⟨e,he,hx⟩
   ·exact hdir o hok x hx
   ·have hSe:=hdir o hok e he;rw[R3]at hx;cases hr:acc[e]? with
    | none=>rw[hr]at hx;simp at hx
    | some row'=>
     rw[hr]at hx;exact h e row' hr S hS (fun o' ho' e' he'=>hS e o' ho' hSe e' he') x (by simpa using hx)

structure DrawOk (ops:Array Oper)(l:List AI):Prop where
 nocf:∀i j,isCall (l.getD i default)=true->isFree (l.getD j default)=true->∀S:Nat->Prop,(∀i o,ops[i]?=some o->S i->∀e∈directs o,S e)->(∀o,ops[j]?=some o->∀e∈directs o,S e)->S i
 lt:∀j o,ops[j]?=some o->∀e∈directs o,e<j
 ind:∀i j,i<j->j<ops.size->Indep (l.getD i default) (l.getD j default)\/∀S:Nat->Prop,(∀i o,ops[i]?=some o->S i->∀e∈directs o,S e)->(∀o,ops[j]?=some o->∀e∈directs o,S e)->S i

theorem DrawOk.of {l:List AI}(h:tB ops l=true):DrawOk ops l:=by
 unfold tB at h;simp only[Bool.and_eq_true,List.all_eq_true,List.mem_range,Bool.or_eq_true,decide_eq_true_eq]at h;obtain⟨⟨_,hcf⟩,h⟩:=h;have ordd:∀(i j:Nat),((A0 ops.toList []).getD j []).contains i=true->∀S:Nat->Prop,(∀i o,ops[i]?=some o->S i->∀e∈directs o,S e)->(∀o,ops[j]?=some o->∀e∈directs o,S e)->S i:=fun i j hc S hS hd=>by
  rw[R3]at hc;cases hr:(A0 ops.toList [])[j]? with
  | none=>rw[hr]at hc;simp at hc
  | some row=>
   rw[hr]at hc;exact rZ (ops:=ops.toList) ops.toList [] [] rfl rfl (fun k row hk=>by simp at hk) j row hr S (fun i o ho=>hS i o (by simpa using ho)) (fun o ho=>hd o (by simpa using ho)) i (by simpa using hc)
 have lt_of:∀(q:AI->Bool),q default=false->∀j,q (l.getD j default)=true->j<l.length:=fun q hq j hj=>by
  rcases Nat.lt_or_ge j l.length with h | h
  ·exact h
  ·rw[R3,List.getElem?_eq_none h]at hj;rw[show (none:Option AI).getD default=default from rfl,hq]at hj;cases hj
 refine⟨fun i j h1 h2=>?_,fun j o ho e he=>?_,fun i j hij hj=>?_⟩
 ·have k1:=hcf j (lt_of isFree rfl j h2);rcases k1 with k1 | k1
  ·rw[h2]at k1;simp at k1
  ·rcases k1 i (lt_of isCall rfl i h1) with k2 | k2
   ·rw[h1]at k2;simp at k2
   ·exact ordd i j k2.2
 ·have hlt:j<ops.size:=(Array.getElem?_eq_some_iff.1 ho).1;have hoo:ops.getD j default=o:=by simp[Array.getD_eq_getD_getElem?,ho]
  exact(h j hlt).1 e (by rw[hoo];exact he)
 ·rcases (h j hj).2 i hij with hc | hc
  ·exact .inr (ordd i j hc)
  ·exact .inl (Indep.of hc)

theorem ni {listed:Array Bool}{i:Nat}:i∈Region.ready .any ops listed↔∃o,ops[i]?=some o/\listed.getD i true=false/\∀e∈directs o,listed.getD e false=true:=by
 unfold Region.ready directs;simp only[List.mem_filter,List.mem_range,Bool.and_eq_true,Bool.not_eq_true'];constructor
 ·rintro⟨hlt,h1,h2⟩;have ho:ops[i]?=some ops[i]:=by simp[hlt]
  rw[ho]at h2;simp only[Option.map_some,Option.getD_some,Array.all_eq_true_iff_forall_mem,Bool.or_eq_true,Bool.not_eq_true']at h2;refine⟨_,ho,h1,fun e he=>?_⟩;simp only[List.mem_map,List.mem_filter,Array.mem_toList_iff]at he;obtain⟨x,⟨hx,hb⟩,rfl⟩:=he;rcases h2 x hx with h | h
  ·rw[hb]at h;cases h
  ·exact h
 ·rintro⟨o,ho,h1,h2⟩;have hlt:i<ops.size:=(Array.getElem?_eq_some_iff.1 ho).1;refine⟨hlt,h1,?_⟩;rw[ho];simp only[Option.map_some,Option.getD_some,Array.all_eq_true_iff_forall_mem,Bool.or_eq_true,Bool.not_eq_true'];intro x hx;cases hb:Region.binds .any x with
  | false=>exact .inl rfl
  | true=>exact .inr (h2 x.on (by simp only[List.mem_map,List.mem_filter,Array.mem_toList_iff];exact⟨x,⟨hx,hb⟩,rfl⟩))

def rest (n:Nat)(listed:Array Bool):List Nat:=(List.range n).filter fun i=>!listed.getD i true

theorem C9 {n i:Nat}{listed:Array Bool}(hs:listed.size=n){pre post:List Nat}(h:rest n listed=pre++i::post):rest n (listed.setIfInBounds i true)=pre++post:=by
 have hi:i∈rest n listed:=by rw[h];simp
 unfold rest at hi;simp only[List.mem_filter,List.mem_range]at hi;have hnd:(rest n listed).Nodup:=List.Pairwise.filter _ List.nodup_range;have e:rest n (listed.setIfInBounds i true)=(rest n listed).filter fun k=>k != i:=by
  unfold rest;rw[List.filter_filter];apply List.filter_congr;intro k hk;simp only[List.mem_range]at hk;simp only[Array.getD_eq_getD_getElem?,Array.getElem?_setIfInBounds];by_cases hki:i=k
  ·subst hki;simp[hs,hk]
  ·rw[if_neg hki];have:(k != i)=true:=by simpa using fun h=>hki h.symm
   rw[this,Bool.true_and]
 rw[e,h];rw[h]at hnd;rw[List.filter_append,List.filter_cons];simp only[bne_self_eq_false,Bool.false_eq_true,if_false];have hp:∀k∈pre,(k != i)=true:=fun k hk=>by
  rw[bne_iff_ne];intro e;subst e;exact(List.nodup_append.1 hnd).2.2 k hk k (by simp) rfl
 have hq:∀k∈post,(k != i)=true:=fun k hk=>by
  rw[bne_iff_ne];intro e;subst e;exact(List.nodup_cons.1 (List.nodup_append.1 hnd).2.1).1 hk
 rw[List.filter_eq_self.2 hp,List.filter_eq_self.2 hq]

theorem r7 (hC:bI P C)(hF:OrcFr C)(hT:pm.T=T){l:List AI}(hD:DrawOk ops l)(hl:∀j o,ops[j]?=some o->SameBut (l.getD j default) (dT P pm ops o)){envf:Env}{Hf:Heap}(hQ:∀act' w',dK φ0 F0 H0 w0 Hf envf T act' w'->Q .normal act' w'):
  ∀(fuel:Nat) (listed:Array Bool) {φ:Phi} {F:Nat->Nat->Prop} {H:Heap} {w:World} {β:Nat->Nat} {env:Env} {act:Act} {env2:Env},listed.size=ops.size->(rest ops.size listed).length=fuel->
  (∀i o,ops[i]?=some o->listed.getD i true=true->∀e∈directs o,listed.getD e false=true)->Full φ0 F0 H0 w0 φ F H w β env act T->(((rest ops.size listed).map (l.getD · default)).any isCall=true->Cl base H)->
  Big base ((rest ops.size listed).map (l.getD · default)) H->cX C lk lim ws base ((rest ops.size listed).map (l.getD · default)) env H=some (env2,Hf)->EqE envf env2->wpAny P .any ops Q fuel listed act w
 | 0,listed,φ,F,H,w,β,env,act,env2,hs,hfu,hcl,f,hca,hbig,hrun,heq=>by
  have hnil:rest ops.size listed=[]:=List.eq_nil_of_length_eq_zero hfu;refine⟨?_,?_⟩
  ·rw[List.eq_nil_iff_forall_not_mem];intro i hi;obtain⟨o,ho,h1,_⟩:=ni.1 hi;have:i∈rest ops.size listed:=by
    unfold rest;simp only[List.mem_filter,List.mem_range,h1];exact⟨(Array.getElem?_eq_some_iff.1 ho).1,rfl⟩
   rw[hnil]at this;simp at this
  ·rw[hnil]at hrun;simp only[List.map_nil,cX,RZ,R0]at hrun;obtain⟨rfl,rfl⟩:=hrun;exact hQ _ _ ⟨φ,F,β,f.sub fun t=>.inl (heq.1 t)⟩
 | fuel+1,listed,φ,F,H,w,β,env,act,env2,hs,hfu,hcl,f,hca,hbig,hrun,heq=>by
  refine⟨fun hr=>?_,fun i hi=>?_⟩
  ·exfalso;cases hR:rest ops.size listed with
   | nil=>rw[hR]at hfu;simp at hfu
   | cons j0 R=>
    have hj0:j0∈rest ops.size listed:=by rw[hR];simp
    have hsorted:(rest ops.size listed).Pairwise (· < ·):=List.Pairwise.filter _ List.pairwise_lt_range;unfold rest at hj0;simp only[List.mem_filter,List.mem_range,Bool.not_eq_true']at hj0;have ho:ops[j0]?=some ops[j0]:=by simp[hj0.1]
    have:j0∈Region.ready .any ops listed:=ni.2 ⟨_,ho,hj0.2,fun e he=>by
     have hlt:=hD.lt j0 _ ho e he;have hn:e∉rest ops.size listed:=by
      intro hm;rw[hR]at hm hsorted;rcases List.mem_cons.1 hm with h | h
      ·omega
      ·have:=(List.pairwise_cons.1 hsorted).1 e h;omega
     unfold rest at hn;simp only[List.mem_filter,List.mem_range,Bool.not_eq_true']at hn;have hes:e<listed.size:=by omega
     have:listed.getD e true=true:=by
      cases hx:listed.getD e true with
      | true=>rfl
      | false=>exact absurd ⟨by omega,hx⟩ hn
     simpa[Array.getD_eq_getD_getElem?,hes] using this⟩
    rw[hr]at this;simp at this
  ·obtain⟨o,ho,h1,h2⟩:=ni.1 hi;have hin:i<ops.size:=(Array.getElem?_eq_some_iff.1 ho).1;have hmem:i∈rest ops.size listed:=by
    unfold rest;simp only[List.mem_filter,List.mem_range,h1];exact⟨hin,rfl⟩
   obtain⟨pre,post,hR⟩:=List.append_of_mem hmem;have hsorted:(rest ops.size listed).Pairwise (· < ·):=List.Pairwise.filter _ List.pairwise_lt_range;have hind:∀p∈pre.map (l.getD · default),Indep p (l.getD i default):=by
    intro p hp;obtain⟨k,hk,rfl⟩:=List.mem_map.1 hp;have hki:k<i:=by
     rw[hR]at hsorted;exact(List.pairwise_append.1 hsorted).2.2 k hk i (by simp)
    rcases hD.ind k i hki hin with h | h
    ·exact h
    ·exfalso;have hSk:=h (fun x=>listed.getD x true=true) (fun x ox hox hx e he=>by
       have:=hcl x ox hox hx e he;have hlt:=hD.lt x ox hox e he;have hxs:=(Array.getElem?_eq_some_iff.1 hox).1;have hes:e<listed.size:=by omega
       simpa[Array.getD_eq_getD_getElem?,hes] using this) (fun ox hox e he=>by
       rw[ho]at hox;cases hox;have:=h2 e he;have hlt:=hD.lt i o ho e he;have hes:e<listed.size:=by omega
       simpa[Array.getD_eq_getD_getElem?,hes] using this)
     have hkm:k∈rest ops.size listed:=by rw[hR];simp[hk]
     unfold rest at hkm;simp only[List.mem_filter,Bool.not_eq_true']at hkm;rw[hkm.2]at hSk;cases hSk
   rw[hR]at hrun hca hbig;simp only[List.map_append,List.map_cons]at hrun hca hbig;obtain⟨env2',hrun',heq2⟩:=pX hF.len hind hbig hrun;obtain⟨env1,H1,hst,hrun'⟩:=bJ.1 hrun';have hrest:=C9 hs hR;refine vv hC hF f ho (hl i o ho) hT hbig.1 (fun hc=>hca ?_) (nh.2 hst) (fun act' w' ⟨φ',F',β',f'⟩=>?_)
   ·simp only[List.any_append,List.any_cons,hc];simp
   ·refine r7 hC hF hT hD hl hQ fuel (listed.setIfInBounds i true) (by simpa using hs) ?_ (fun x ox hox hx e he=>?_) f' (fun hc=>?_) ?_ (by rw[hrest,List.map_append];exact hrun') (heq.trans heq2)
    ·rw[hrest];rw[hR]at hfu;simp only[List.length_append,List.length_cons]at hfu |-;omega
    ·have hes:e<listed.size:=by
      have:=hD.lt x ox hox e he;have:=(Array.getElem?_eq_some_iff.1 hox).1;omega
     have hold:listed.getD e false=true:=by
      by_cases hxi:x=i
      ·subst hxi;rw[ho]at hox;cases hox;exact h2 e he
      ·refine hcl x ox hox ?_ e he;simp only[Array.getD_eq_getD_getElem?,Array.getElem?_setIfInBounds]at hx |-;rw[if_neg (fun e=>hxi e.symm)]at hx;exact hx
     simp only[Array.getD_eq_getD_getElem?,Array.getElem?_setIfInBounds]at hold |-;by_cases hie:i=e
     ·rw[if_pos hie,if_pos (by omega)];rfl
     ·rw[if_neg hie];exact hold
    ·rw[hrest,List.map_append]at hc;have hcb:iB base (pre.map (l.getD · default)++post.map (l.getD · default))=base:=by
      unfold iB;rw[if_pos hc]
     rw[hcb]at hst;have hnf:isFree (l.getD i default)=false:=by
      cases hfi:isFree (l.getD i default) with
      | false=>rfl
      | true=>
       exfalso;rw[List.any_append,Bool.or_eq_true,List.any_eq_true,List.any_eq_true]at hc;have hk:∃k,k∈pre++post/\isCall (l.getD k default)=true:=by
        rcases hc with⟨x,hx,hx2⟩ | ⟨x,hx,hx2⟩;all_goals
         obtain⟨k,hk,rfl⟩:=List.mem_map.1 hx;exact⟨k,by simp[hk],hx2⟩
       obtain⟨k,hk,hk2⟩:=hk;have hSk:=hD.nocf k i hk2 hfi (fun x=>listed.getD x true=true) (fun x ox hox hx e he=>by
        have:=hcl x ox hox hx e he;have hlt:=hD.lt x ox hox e he;have hxs:=(Array.getElem?_eq_some_iff.1 hox).1;have hes:e<listed.size:=by omega
        simpa[Array.getD_eq_getD_getElem?,hes] using this) (fun ox hox e he=>by
        rw[ho]at hox;cases hox;have:=h2 e he;have hlt:=hD.lt i o ho e he;have hes:e<listed.size:=by omega
        simpa[Array.getD_eq_getD_getElem?,hes] using this)
       have hkm:k∈rest ops.size listed:=by
        rw[hR];simp only[List.mem_append,List.mem_cons]at hk |-;rcases hk with h | h
        ·exact .inl h
        ·exact .inr (.inr h)
       unfold rest at hkm;simp only[List.mem_filter,Bool.not_eq_true']at hkm;rw[hkm.2]at hSk;cases hSk
     exact Bl hnf hst hbig.1 (hca (by
      rw[List.any_append,Bool.or_eq_true]at hc;simp only[List.any_append,List.any_cons,Bool.or_eq_true];rcases hc with h | h
      ·exact .inl h
      ·exact .inr (.inr h)))
    ·rw[hrest,List.map_append];exact hbig.mono (fun q hq=>by simp only[List.mem_append,List.mem_cons]at hq |-;rcases hq with h | h;exact .inl h;exact .inr (.inr h)) (rY hF.len hst)
end
open Go.RowKit

def FR (ro:Option Nat):Fence:={ Fence.wide with round:=ro }

section
variable {P:Program}{ro:Option Nat}{n:Nat}{Q:Exit->Act->World->Prop}

theorem Bn {o:Oper}{a:Act}{w:World}{K K':Act->World->Prop}(hnd:gv o.op=false)(hK:∀a w,K a w->K' a w)(hQ:¬LetsOut Q)
  (h:o.wp P a w K Q\/(o.asks P a w/\LetsOut Q)):o.wpIn (FR ro) n P a w K' Q:=by
 have h:o.wp P a w K' Q:=Oper.wp_mono hK (h.resolve_right fun h=>hQ h.2);refine⟨fun _ _=>trivial,?_⟩;unfold Oper.wp at h;rw[show (FR ro).round=ro from rfl,Oper.semAt_eq ro a.eval o (fun c e=>by rw[e]at hnd;cases hnd)]
 generalize (execOp a.eval o).run P w=r at *;cases r with
 | ok x w'=>
  cases x<;>simp only[Oper.upon,Oper.uponIn]at h |-<;>
   first
    | exact h
    | exact⟨fun e=>(by cases e),callsIn_wide.2 h⟩
    | exact⟨fun e=>(by cases e),fun c cs _=>by
      obtain⟨v,w'',hr,hs⟩:=h c cs;exact⟨v,w'',hr,stepsIn_wide.2 hs⟩⟩
 | halt x w'=>cases x<;>simp only[Oper.upon,Oper.uponIn]at h |-<;>exact h

theorem jn {ops:Array Oper}(hnd:ops.toList.any (fun o=>gv o.op)=false)(hQ:¬LetsOut Q):∀(l:List Nat) (a:Act) (w:World),wpOps P ops Q l a w->wpOpsIn (FR ro) n P ops Q l a w
 | [],a,w,h=>h
 | i::l,a,w,h=>by
  simp only[wpOps]at h;simp only[wpOpsIn];cases ho:ops[i]? with
  | none=>simp only[ho]at h;exact jn hnd hQ l a w h
  | some o=>
   simp only[ho]at h;have hn:gv o.op=false:=by
    have hm:o∈ops.toList:=by
     have:=Array.mem_of_getElem? ho;exact Array.mem_toList_iff.2 this
    cases hd:gv o.op with
    | false=>rfl
    | true=>
     have:ops.toList.any (fun o=>gv o.op)=true:=List.any_eq_true.2 ⟨o,hm,hd⟩;rw[hnd]at this;cases this
   dsimp only;split at h
   ·rename_i hw;rw[if_pos hw];exact Bn hn (fun a w=>jn hnd hQ l a w) hQ h
   ·rename_i hw;rw[if_neg hw];exact⟨fun _ _=>trivial,jn hnd hQ l _ _ h⟩

def Hh (P:Program)(Bg:World->(Nat->Prop)->Prop)(gf:FuncId)(lb:Array Value)(vals:List (Array Value))(W0:World):Prop:=
 ∀(l:Nat) (J:Nat->World->(Nat->Prop)->Prop) (Jx:World->(Nat->Prop)->Prop),
  (∀i A B Z,J i A Z->Below A.heap.size A B->J i B (fun k=>Z k\/(A.heap.size<=k/\k<B.heap.size)))->
  (∀A B Z,Jx A Z->Below A.heap.size A B->Jx B (fun k=>Z k\/(A.heap.size<=k/\k<B.heap.size)))->
  (∀i v A Z,vals[i]?=some v->J i A Z->YieldAt Fence.wide 0 P l v A fun e B=>
   (e= .returned (.bool true)/\J (i+1) B Z/\A.heap.size<=B.heap.size/\∀k,Z k->B.heap[k]?=A.heap[k]?)\/(e= .returned (.bool false)/\Jx B Z))->
  (∀B Z,Bg B Z->J 0 B Z)->
  CallsIn Fence.wide 0 P gf (#[.func (.yield l) #[] #[]]++lb) W0 fun e B=>(∃v,e= .returned v)/\((∃Z,J vals.length B Z)\/∃Z,Jx B Z)

def Grows {α:Type}(J:α->World->(Nat->Prop)->Prop):Prop:=∀i A B Z,J i A Z->Below A.heap.size A B->J i B (fun k=>Z k\/(A.heap.size<=k/\k<B.heap.size))
def Da {α:Type}(n:Nat)(J:α->World->(Nat->Prop)->Prop):Prop:=∀i A Z l r r',J i A Z->n<=l->A.heap[l]?=some (.loop r)->J i (A.putObj l (.loop r')) Z

theorem vy {g:Operand}{ps:Array Tmp}{assign body:Code}{a:Act}{w:World}{gf:Nat}{lb:Array Value}{vals:List (Array Value)}
  (hg:a.eval g= .func (.func gf) #[] lb) (eg:∀args w,(callFunc gf args).run P w= .ok (.enter gf args) w)
  (hps:∀v∈vals,v.size=ps.size)
  (J:Nat->World->(Nat->Prop)->Prop) (Jm:Nat×Act->World->(Nat->Prop)->Prop) (Jx:Code->World->(Nat->Prop)->Prop)
  (gJ:Grows J) (gJx:Grows Jx) (tJ:Da w.heap.size J) (tJm:Da w.heap.size Jm) (tJx:Da w.heap.size Jx)
  (hit:∀W1 d r,Below w.heap.size w W1->W1.heap.size=w.heap.size+2->W1.heap[w.heap.size]?=some (.deferred d)->W1.heap[w.heap.size+1]?=some (.loop r)->∃Bg,Hh P Bg gf lb vals W1/\∀B Z,Bg B Z->J 0 B (fun k=>Z k\/k=w.heap.size\/k=w.heap.size+1)/\
   B.heap[w.heap.size]?=W1.heap[w.heap.size]?/\B.heap[w.heap.size+1]?=W1.heap[w.heap.size+1]?/\∀k,Z k->k≠w.heap.size+1)
  (hassign:∀l i v A Z,vals[i]?=some v->J i A Z->assign.wpIn (FR (some l)) 0 P (Exit.then (fun a1 B=>A.heap.size<=B.heap.size/\(∀k,Z k->B.heap[k]?=A.heap[k]?)/\Jm (i,a1) B Z) (fun _ _ _=>False)) { tmps:=(ps.zip v).foldl (fun t (p,v)=>t.setIfInBounds p v) a.tmps,defers:=[] } A)
  (hbody:∀l i v a1 A Z,vals[i]?=some v->Jm (i,a1) A Z->body.wpIn (FR (some l)) 0 P (fun e _ B=>(A.heap.size<=B.heap.size/\∀k,Z k->B.heap[k]?=A.heap[k]?)/\match e with
   | .normal=>J (i+1) B Z
   | .ret=>Jx .ret B Z
   | .exit id=>Jx (.exit id) B Z
   | _=>False) a1 A)
  (hdone:∀D B Z,J vals.length B Z->Z D->w.heap.size<=D->B.heap[D]?=some (.deferred (some []))->Q .normal { a with defers:={ target:=.collected D,args:=#[] }::a.defers } B)
  (hstop:∀D c B Z,Jx c B Z->Z D->w.heap.size<=D->B.heap[D]?=some (.deferred (some []))->c.wpIn Fence.wide 0 P Q { a with defers:={ target:=.collected D,args:=#[] }::a.defers } B):
  (Code.rangeFunc g ps assign body).wpIn Fence.wide 0 P Q a w:=by
 refine wpIn_rangeFunc ?_;intro fn hfn;obtain⟨rec,hrec⟩:∃rec:LoopState->Option Code->Loop,rec=fun st pe=>{ state:=st,pending:=pe,fn,tmps:=a.tmps,params:=ps,assign,body,defers:=w.heap.size }:=⟨_,rfl⟩;obtain⟨W1,hW1⟩:∃W1,(w.alloc (.deferred (some []))).alloc (.loop (rec .ready none))=W1:=⟨_,rfl⟩;have hL1:W1.heap[w.heap.size+1]?=some (.loop (rec .ready none)):=by
  rw[<-hW1];have:=World.alloc_heap_new (w.alloc (.deferred (some []))) (.loop (rec .ready none));rwa [World.size_alloc]at this
 have hK1:W1.heap[w.heap.size]?=some (.deferred (some [])):=by
  rw[<-hW1];exact(Below.heap_alloc _ _ _ (by simp)).trans (World.alloc_heap_new w _)
 have hB1:Below w.heap.size w W1:=by
  rw[<-hW1];exact((Below.refl _ w).alloc (Nat.le_refl _) _).alloc (by simp) _
 have hs1:W1.heap.size=w.heap.size+2:=by rw[<-hW1];simp
 refine⟨w.heap.size+1,[{ target:=.collected w.heap.size,args:=#[] }],W1,{ target:=.fn (.func gf) lb,args:=#[.func (.yield (w.heap.size+1)) #[] #[]] },W1,gf,
  #[.func (.yield (w.heap.size+1)) #[] #[]]++lb,W1,?_,?_,fun _ _=>trivial,?_,fun e=>(by cases e),?_⟩
 ·rw[<-hW1,hrec];exact run_enterLoop_outer _ _ _ _ _
 ·simp only[resolve,hg];simp[go_sem]
 ·simp[invoke,go_sem,eg]
 ·-- the iterator,at the caller's invariant with the two blocks beside it
  let own:(Nat->Prop)->Nat->Prop:=fun Z k=>Z k\/k=w.heap.size\/k=w.heap.size+1
  have ownG:∀(Z:Nat->Prop) (A B:World),(fun k=>own Z k\/(A.heap.size<=k/\k<B.heap.size))=own (fun k=>Z k\/(A.heap.size<=k/\k<B.heap.size)):=fun Z A B=>by
   funext k;simp only[own,eq_iff_iff];constructor
   ·rintro ((h | h) | h)
    ·exact .inl (.inl h)
    ·exact .inr h
    ·exact .inl (.inr h)
   ·rintro ((h | h) | h)
    ·exact .inl (.inl h)
    ·exact .inr h
    ·exact .inl (.inr h)
  have book:∀{A B:World} {st:LoopState} {pe:Option Code},Below A.heap.size A B->A.heap[w.heap.size+1]?=some (.loop (rec st pe))->A.heap[w.heap.size]?=some (.deferred (some []))->
    B.heap[w.heap.size+1]?=some (.loop (rec st pe))/\B.heap[w.heap.size]?=some (.deferred (some [])):=fun hb h1 h2=>
   ⟨(hb.block _ (Array.getElem?_eq_some_iff.1 h1).1).trans h1,(hb.block _ (Array.getElem?_eq_some_iff.1 h2).1).trans h2⟩
  obtain⟨Bg,hit,hbg⟩:=hit W1 _ _ hB1 hs1 hK1 hL1;refine(hit (w.heap.size+1)
   (fun i A Z=>J i A (own Z)/\A.heap[w.heap.size+1]?=some (.loop (rec .ready none))/\A.heap[w.heap.size]?=some (.deferred (some []))/\∀k,Z k->k≠w.heap.size+1)
   (fun A Z=>∃c,Jx c A (own Z)/\A.heap[w.heap.size+1]?=some (.loop (rec .done (some c)))/\A.heap[w.heap.size]?=some (.deferred (some [])))
   (fun i A B Z h hb=>?_) (fun A B Z h hb=>?_) ?_ (fun B Z hb=>?_)).mono ?_
  ·obtain⟨h1,h2,h3,h4⟩:=h;have hsz:=(Array.getElem?_eq_some_iff.1 h2).1;refine⟨ownG Z A B▸gJ i A B _ h1 hb,(book hb h2 h3).1,(book hb h2 h3).2,fun k hk=>?_⟩;rcases hk with hk | ⟨hk,_⟩
   ·exact h4 k hk
   ·omega
  ·obtain⟨c,h1,h2,h3⟩:=h;exact⟨c,ownG Z A B▸gJx c A B _ h1 hb,(book hb h2 h3).1,(book hb h2 h3).2⟩
  ·-- one round
   rintro i v A Z hv ⟨hi,hl,hk,hz⟩;have hlt:w.heap.size+1<A.heap.size:=(Array.getElem?_eq_some_iff.1 hl).1;have hy:=run_yield (P:=P) (args:=v) hl (by rw[hrec];exact hps v (List.mem_of_getElem? hv))
   rw[hrec]at hy;refine⟨fn,_,assign,body,hy,roundIn_of_wpIn hfn (wpIn_mono (hassign _ i v A _ hv hi) ?_)⟩;clear hy;intro e a1 W ha;cases e with
   | normal=>
    obtain⟨ha0,ha1,ha2⟩:=ha;have hl':=(ha1 (w.heap.size+1) (.inr (.inr rfl))).trans hl;have hk':=(ha1 w.heap.size (.inr (.inl rfl))).trans hk;have hlt':w.heap.size+1<W.heap.size:=(Array.getElem?_eq_some_iff.1 hl').1;refine⟨_,run_beginRound hl' (by rw[hrec]),?_⟩
    have hl2:(W.putObj (w.heap.size+1) (.loop { rec .ready none with state:=.busy })).heap[w.heap.size+1]?=some (.loop { rec .ready none with state:=.busy }):=World.putObj_heap_same hlt';have hk2:(W.putObj (w.heap.size+1) (.loop { rec .ready none with state:=.busy })).heap[w.heap.size]?=some (.deferred (some [])):=(World.putObj_heap_other (by omega)).trans hk'
    refine wpIn_mono (hbody _ i v a1 _ _ hv (tJm _ _ _ _ _ _ ha2 (Nat.le_succ _) hl')) ?_;have fin:∀(jump:Option Code) (W3:World),(∀k,own Z k->W3.heap[k]?=(W.putObj (w.heap.size+1) (.loop { rec .ready none with state:=.busy })).heap[k]?)->
      (Instr.endRound (w.heap.size+1) jump).run P W3= .ok (.bool jump.isNone) (W3.putObj (w.heap.size+1) (.loop (rec (if jump.isNone then .ready else .done) jump)))/\
      W3.heap[w.heap.size+1]?=some (.loop { rec .ready none with state:=.busy })/\
      (W3.putObj (w.heap.size+1) (.loop (rec (if jump.isNone then .ready else .done) jump))).heap[w.heap.size+1]?=some (.loop (rec (if jump.isNone then .ready else .done) jump))/\
      (W3.putObj (w.heap.size+1) (.loop (rec (if jump.isNone then .ready else .done) jump))).heap[w.heap.size]?=some (.deferred (some [])):=fun jump W3 hk3=>by
     have hl3:=(hk3 (w.heap.size+1) (.inr (.inr rfl))).trans hl2;have hd3:=(hk3 w.heap.size (.inr (.inl rfl))).trans hk2;have:=run_endRound (P:=P) jump hl3;rw[hrec]at this |-;exact⟨this,by rw[hrec]at hl3;exact hl3,World.putObj_heap_same (Array.getElem?_eq_some_iff.1 hl3).1,(World.putObj_heap_other (by omega)).trans hd3⟩
    have others:∀(W3:World) (o:Obj),(∀k,own Z k->W3.heap[k]?=(W.putObj (w.heap.size+1) (.loop { rec .ready none with state:=.busy })).heap[k]?)->∀k,Z k->(W3.putObj (w.heap.size+1) o).heap[k]?=A.heap[k]?:=fun W3 o h k hk=>by
     have:=hz k hk;rw[World.putObj_heap_other this,h k (.inl hk),World.putObj_heap_other this,ha1 k (.inl hk)]
    have sz:∀(x:World) (k:Nat) (o:Obj),(x.putObj k o).heap.size=x.heap.size:=fun x k o=>by simp
    rintro e a3 W3 ⟨⟨hs3,hk3⟩,hp⟩;rw[sz]at hs3;cases e with
    | normal=>
     obtain⟨hr,hl3,hl4,hk4⟩:=fin none W3 hk3;exact⟨_,_,hr,.inl ⟨rfl,⟨tJ _ _ _ _ _ _ hp (Nat.le_succ _) hl3,hl4,hk4,hz⟩,by rw[sz];omega,others W3 _ hk3⟩⟩
    | ret=>
     obtain⟨hr,hl3,hl4,hk4⟩:=fin (some .ret) W3 hk3;exact⟨_,_,hr,.inr ⟨rfl,.ret,tJx _ _ _ _ _ _ hp (Nat.le_succ _) hl3,hl4,hk4⟩⟩
    | exit id=>
     obtain⟨hr,hl3,hl4,hk4⟩:=fin (some (.exit id)) W3 hk3;exact⟨_,_,hr,.inr ⟨rfl,.exit id,tJx _ _ _ _ _ _ hp (Nat.le_succ _) hl3,hl4,hk4⟩⟩
    | goto t=>exact hp.elim
    | panic ch=>exact hp.elim
    | outgrown=>exact hp.elim
   | ret=>exact ha.elim
   | exit id=>exact ha.elim
   | goto t=>exact ha.elim
   | panic ch=>exact ha.elim
   | outgrown=>exact ha.elim
  ·obtain⟨h1,h2,h3,h4⟩:=hbg B Z hb;exact⟨h1,h3.trans hL1,h2.trans hK1,h4⟩
  ·-- behind the iterator
   rintro e W2 ⟨⟨v,rfl⟩,(⟨Z,hi,hl,hk,hz⟩ | ⟨Z,c,hi,hl,hk⟩)⟩
   ·exact⟨none,_,by have:=run_endLoop (P:=P) hl (by rw[hrec];simp);rw[hrec]at this;exact this,hdone _ _ _ (tJ _ _ _ _ _ _ hi (Nat.le_succ _) hl) (.inr (.inl rfl)) (Nat.le_refl _) ((World.putObj_heap_other (by omega)).trans hk)⟩
   ·exact⟨some c,_,by have:=run_endLoop (P:=P) hl (by rw[hrec];simp);rw[hrec]at this;exact this,hstop _ c _ _ (tJx _ _ _ _ _ _ hi (Nat.le_succ _) hl) (.inr (.inl rfl)) (Nat.le_refl _) ((World.putObj_heap_other (by omega)).trans hk)⟩
end
open Go.RowKit

section
variable {φ:Phi}{F:Nat->Nat->Prop}{H:Heap}{w:World}{β:Nat->Nat}{env:Env}{act:Act}{T:Nat}{l:Nat}{x':Obj}

def oth:Obj->Bool
 | .cells .. =>false
 | .map .. =>false
 | _=>true
structure Oth (w:World)(l:Nat)(x':Obj):Prop where
 old:∃x,w.heap[l]?=some x/\oth x=true
 new:oth x'=true
theorem Oth.loop {r:Loop}(h:w.heap[l]?=some (.loop r))(r':Loop):Oth w l (.loop r'):=⟨⟨_,h,rfl⟩,rfl⟩

theorem fo {k:Nat}(hk:k≠l):(w.putObj l x').heap[k]?=w.heap[k]?:=World.putObj_heap_other hk
theorem r8 (hl:Oth w l x')(a:Addr):(w.putObj l x').cell? a=w.cell? a:=by
 obtain⟨⟨x,h1,h2⟩,h3⟩:=hl;by_cases h:a.block=l
 ·unfold World.cell?;rw[h,h1,World.putObj_heap_same (Array.getElem?_eq_some_iff.1 h1).1];cases x<;>cases x'<;>first | rfl | (simp[oth]at h2;done) | (simp[oth]at h3;done)
 ·unfold World.cell?;rw[fo h]
theorem iC (hl:Oth w l x'){k:Nat}{o:Obj}(h:w.heap[k]?=some o)(ho:oth o=false):(w.putObj l x').heap[k]?=some o:=by
 obtain⟨⟨x,h1,h2⟩,h3⟩:=hl;rw[fo (fun e=>by subst e;rw[h1]at h;cases h;rw[ho]at h2;cases h2)];exact h

theorem CRel.turn (hl:Oth w l x'){a:AV}{v:Value}(h:CRel φ F H w a v):CRel φ F H (w.putObj l x') a v:=by
 induction h with
 | val v h=>exact .val v h
 | e0 x=>exact .e0 x
 | sl b o n cap cells vs hn hvl hb hF hc _ ih=>exact .sl b o n cap cells vs hn hvl hb hF (fun i v hv=>by rw[r8 hl];exact hc i v hv) ih
 | slnil x=>exact .slnil x
 | rop b o off cells vs hvl hb hF hc _ ih=>exact .rop b o off cells vs hvl hb hF (fun i v hv=>by rw[r8 hl];exact hc i v hv) ih
 | hp b g off cs a hb hg h=>exact .hp b g off cs a hb hg h
 | hs b g off n es cs x cap hb hg hn hx h=>
  refine .hs b g off n es cs x cap hb hg hn hx fun e=>?_;rcases h e with⟨h1,hd,h2,hgc,arr,ty,h3,h4⟩ | h
  ·exact .inl ⟨h1,hd,h2,hgc,arr,ty,iC hl h3 rfl,h4⟩
  ·exact .inr h
 | mp b es hb=>exact .mp b es hb
 | fn f caps vs hvl _ ih=>exact .fn f caps vs hvl ih
theorem VRel.turn (hl:Oth w l x'){a:AV}{v:Value}(h:VRel φ F H w a v):VRel φ F H (w.putObj l x') a v:=by
 induction h with
 | one h=>exact .one (h.turn hl)
 | agg cs vs h=>exact .agg cs vs ⟨h.1,fun i a v ha hv=>(h.2 i a v ha hv).turn hl⟩
 | tup as vs hvl _ ih=>exact .tup as vs hvl ih
theorem Blk.turn (hl:Oth w l x'){k:Nat×Nat}{cs:List AV}(h:Blk φ F H w k cs):Blk φ F H (w.putObj l x') k cs:=by
 obtain⟨arr,ty,h1,h2⟩:=h;exact⟨arr,ty,iC hl h1 rfl,fun i a hi=>by
  obtain⟨v,hv,hr⟩:=h2 i a hi;exact⟨v,hv,hr.turn hl⟩⟩
theorem SR.turn (hl:Oth w l x')(s:SR φ F H w):SR φ F H (w.putObj l x'):=
 ⟨fun b cs h hne=>(s.blk b cs h hne).turn hl,fun b es h=>by
  obtain⟨ces,clk,h1,h2,h3,h4⟩:=s.mblk b es h;exact⟨ces,clk,iC hl h1 rfl,h2,fun i k v hi=>by
   obtain⟨a1,a2,e,a3,a4,a5⟩:=h3 i k v hi;exact⟨a1,a2,e,a3,a4.turn hl,a5.turn hl⟩,h4⟩,s.inj,s.phiF,fun k o h=>by
  have:=s.fsz k o h;simpa using this⟩
theorem St.turn (hl:Oth w l x')(s:St φ F H w β env act T):St φ F H (w.putObj l x') β env act T:=by
 refine⟨s.sr.turn hl,s.size,fun t=>?_,s.bphi,s.binj,s.bF⟩;have h:=s.slot t;generalize find env t=a at h;cases a;case box cs=>exact⟨h.1,h.2.turn hl⟩
 case rp=>exact h
 case und=>exact h
 case dead=>trivial
 all_goals exact VRel.turn hl h
theorem Wm.turn (hl:Oth w l x'):Wm w (w.putObj l x'):=
 ⟨by simp,fun k arr ty fr h=>⟨arr,iC hl h rfl,rfl⟩⟩

theorem eA:∀{env:Env},eT env=true->∀t,(∀cs,find env t≠.box cs)/\∀d o,find env t≠.rp d o
 | [],_,t=>⟨fun _ h=>(by cases h),fun _ _ h=>(by cases h)⟩
 | (t',v)::r,h,t=>by
  have hv:(∀cs,v≠.box cs)/\(∀d o,v≠.rp d o)/\eT r=true:=by
   cases v<;>first | exact⟨fun _ e=>(by cases e),fun _ _ e=>(by cases e),h⟩ | (simp[eT]at h;done)
  simp only[find];split
  ·exact⟨hv.1,hv.2.1⟩
  ·exact eA hv.2.2 t
theorem r9:∀{env:Env},eT env=true->∀d,fb d env=true
 | [],_,_=>rfl
 | (t',v)::r,h,d=>by
  have hv:eT r=true:=by cases v<;>first | exact h | (simp[eT]at h;done)
  have:=r9 hv d;cases v<;>first | exact this | (simp[eT]at h;done)

theorem zB:∀{ps:List Nat} {x:List Value} {env e:Env} {act:Act},eT env=true->St φ F H w β env act T->(∀p∈ps,p<T)->(∀v∈x,scal v=true)->ja ps x env=some e->
  eT e=true/\St φ F H w β e { act with tmps:=(ps.zip x).foldl (fun t (p,v)=>t.setIfInBounds p v) act.tmps } T
 | [],[],env,e,act,hb,s,_,_,h=>by
  simp only[ja,RZ]at h;subst h;exact⟨hb,s⟩
 | p::ps,v::vs,env,e,act,hb,s,hp,hv,h=>by
  simp only[ja]at h;have hs:St φ F H w β ((p,.val v)::env) (act.put (some p) v) T:=s.put1 (fun d hd=>by cases hd;exact hp p (List.mem_cons_self ..)) (v:=.val v) (by simp only[put,r9 hb p,if_true]) (show VRel φ F H w (.val v) v from .one (.val v (hv v (List.mem_cons_self ..))))
  exact zB (act:=act.put (some p) v) (by simpa[eT] using hb) hs (fun q hq=>hp q (List.mem_cons_of_mem _ hq)) (fun q hq=>hv q (List.mem_cons_of_mem _ hq)) h
 | [],_::_,_,_,_,_,_,_,_,h=>by simp[ja]at h
 | _::_,[],_,_,_,_,_,_,_,h=>by simp[ja]at h
theorem St.defers (s:St φ F H w β env act T)(ds:List Deferred):St φ F H w β env { act with defers:=ds } T:=⟨s.sr,s.size,s.slot,s.bphi,s.binj,s.bF⟩
theorem St.over {φ':Phi}{F':Nat->Nat->Prop}{H':Heap}{w':World}(hb:eT env=true)(s:St φ F H w β env act T)(e:Ext φ F H w φ' F' H' w')(sr:SR φ' F' H' w'):St φ' F' H' w' β env act T:=
 s.mono e sr (fun t cs ht=>absurd ht ((eA hb t).1 cs))
end

section
variable {φ0:Phi}{F0:Nat->Nat->Prop}{H0:Heap}{w0:World}{φ:Phi}{F:Nat->Nat->Prop}{H:Heap}{w:World}{β:Nat->Nat}{env:Env}{act:Act}{T:TT}

theorem Full.turn0 {l:Nat}{x':Obj}{act':Act}(hF0:∀k o,F0 k o->k<w0.heap.size)(f:Full φ0 F0 H0 w0 φ F H w β env act T)(hl:Oth w l x')(h0:w0.heap.size<=l)(ht:act'.tmps=act.tmps)(hd:Dfr T w0 (w.putObj l x') F act'.defers):
  Full φ0 F0 H0 w0 φ F H (w.putObj l x') β env act' T:=by
 have st:=f.st.turn hl;refine⟨⟨st.sr,ht▸st.size,ht▸st.slot,st.bphi,st.binj,st.bF⟩,⟨f.ext.len,f.ext.map,fun k o h=>⟨(f.ext.frz k o h).1,?_⟩,f.ext.wm.trans (Wm.turn hl)⟩,⟨f.chg.os,f.chg.tape,f.chg.output,by simpa using f.chg.size,fun k hk hn=>?_⟩,f.phi,f.beta,hd,f.frn⟩
 ·have:=hF0 k o h;rw[fo (by omega)];exact(f.ext.frz k o h).2
 ·rw[fo (by omega)];exact f.chg.block k hk hn
theorem Full.turn {l:Nat}{r r':Loop}(hF0:∀k o,F0 k o->k<w0.heap.size)(f:Full φ0 F0 H0 w0 φ F H w β env act T)(hl:w.heap[l]?=some (.loop r))(h0:w0.heap.size<=l):Full φ0 F0 H0 w0 φ F H (w.putObj l (.loop r')) β env act T:=by
 refine f.turn0 hF0 (.loop hl r') h0 rfl ?_;have h:=f.dfr;unfold Dfr at *;split
 ·rename_i hr;rw[hr]at h;refine⟨h.1,fun d hd=>?_⟩;obtain⟨q,h1,h2,h3,h4⟩:=h.2 d hd;refine⟨q,h1,h2,h3,?_⟩;rw[fo (fun e=>by subst e;rw[hl]at h4;cases h4)];exact h4
 ·rename_i l hr;rw[hr]at h;exact h
theorem Full.close {d:Deferred}{ds:List Deferred}{tmps:Array Value}(hF0:∀k o,F0 k o->k<w0.heap.size)(hrd:T.rd=none)(f:Full φ0 F0 H0 w0 φ F H w β env { tmps:=tmps,defers:=d::ds } T):
  ∃r,d={ target:=.collected r,args:=#[] }/\w.heap[r]?=some (.deferred (some []))/\Full φ0 F0 H0 w0 φ F H (w.putObj r (.deferred none)) β env { tmps:=tmps,defers:=ds } T:=by
 have h:=f.dfr;unfold Dfr at h;rw[hrd]at h;obtain⟨hn,hm⟩:=h;obtain⟨r,h1,h2,h3,h4⟩:=hm d (List.mem_cons_self ..);refine⟨r,h1,h4,f.turn0 hF0 ⟨⟨_,h4,rfl⟩,rfl⟩ h3 rfl ?_⟩;unfold Dfr;rw[hrd];have hn':=List.nodup_cons.1 hn;refine⟨hn'.2,fun e he=>?_⟩;obtain⟨q,g1,g2,g3,g4⟩:=hm e (List.mem_cons_of_mem _ he);refine⟨q,g1,g2,g3,?_⟩;rw[fo (fun e'=>hn'.1 (by rw[h1,<-e',<-g1];exact he))];exact g4
theorem Full.grown {w':World}(f:Full φ0 F0 H0 w0 φ F H w β env act T)(hb:eT env=true)(h:Below w.heap.size w w'):Full φ0 F0 H0 w0 φ (fun k o=>F k o\/(w.heap.size<=k/\k<w'.heap.size)) H w' β env act T:=by
 obtain⟨e,sr⟩:=grow f.st.sr (F':=fun k o=>F k o\/(w.heap.size<=k/\k<w'.heap.size)) h (fun _ _ h=>.inl h) (fun _ _ h=>h);exact f.next (Chg.of_below h fun _=>False) (fun _ h=>h.elim) (f.st.over hb e sr) e (fun b hl=>.inl ⟨hl,rfl⟩) (fun t cs ht=>absurd ht ((eA hb t).1 cs)) rfl (fun k o h=>h.imp id And.left)
theorem Full.round {ps:Array Tmp}{x:List Value}{e:Env}{n:Nat}(f:Full φ0 F0 H0 w0 φ F H w β env act T)(hb:eT env=true)(hps:ps.toList.all (fun p=>decide (p<n))=true)(hT:n=T)(hx:∀v∈x,scal v=true)(hp:ja ps.toList x env=some e):
  Full φ F H w φ F H w β e { tmps:=(ps.zip x.toArray).foldl (fun t (p,v)=>t.setIfInBounds p v) act.tmps,defers:=[] } ⟨T.n,some []⟩:=by
 obtain⟨h1,h2⟩:=zB hb f.st (fun p hp=>by have:=List.all_eq_true.1 hps p hp;rw[<-hT];simpa using this) hx hp
 have he:(ps.zip x.toArray).foldl (fun t (p,v)=>t.setIfInBounds p v) act.tmps=(ps.toList.zip x).foldl (fun t (p,v)=>t.setIfInBounds p v) act.tmps:=by
  rw[<-Array.foldl_toList,Array.toList_zip]
 rw[he];exact⟨h2.defers [],Ext.refl _ _ _ _,Chg.refl _ _,fun b hl=>.inl ⟨hl,rfl⟩,fun t cs ht=>absurd ht ((eA h1 t).1 cs),rfl,fun _ _ h=>.inl h⟩
theorem Full.over {φ':Phi}{F':Nat->Nat->Prop}{H':Heap}{w':World}{β':Nat->Nat}{env':Env}{act':Act}{T':TT}(f:Full φ0 F0 H0 w0 φ F H w β env act T)(hb:eT env=true)(g:Full φ F H w φ' F' H' w' β' env' act' T'):Full φ0 F0 H0 w0 φ' F' H' w' β env act T:=
 f.next g.chg (fun k h=>.inl h) (f.st.over hb g.ext g.st.sr) g.ext g.phi (fun t cs ht=>absurd ht ((eA hb t).1 cs)) rfl g.frn
theorem Full.base {env':Env}{act':Act}{β':Nat->Nat}{n:Nat}(s:St φ F H w β' env' act' n)(hb:eT env'=true)(hd:act'.defers=[]):Full φ F H w φ F H w β' env' act' ⟨n,some []⟩:=
 ⟨s,Ext.refl _ _ _ _,Chg.refl _ _,fun b hl=>.inl ⟨hl,rfl⟩,fun t cs ht=>absurd ht ((eA hb t).1 cs),hd,fun _ _ h=>.inl h⟩
theorem Full.mark {D:Nat}(hrd:T.rd=none)(f:Full φ0 F0 H0 w0 φ F H w β env act T)(h1:∃o,F D o)(h2:w0.heap.size<=D)(h3:w.heap[D]?=some (.deferred (some [])))(h4:({ target:=.collected D,args:=#[] }:Deferred)∉act.defers):
  Full φ0 F0 H0 w0 φ F H w β env { act with defers:={ target:=.collected D,args:=#[] }::act.defers } T:=
 ⟨f.st.defers _,f.ext,f.chg,f.phi,f.beta,by
  have hd:=f.dfr;unfold Dfr at *;rw[hrd]at hd |-;exact⟨List.nodup_cons.2 ⟨h4,hd.1⟩,fun d hm=>by
   rcases List.mem_cons.1 hm with rfl | hm
   ·exact⟨D,rfl,h1,h2,h3⟩
   ·exact hd.2 d hm⟩,f.frn⟩
end
end Go.Hm

