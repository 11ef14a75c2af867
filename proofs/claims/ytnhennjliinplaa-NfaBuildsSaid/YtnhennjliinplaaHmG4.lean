/- The machine HM, part 4. -/
import Derived.Test.YtnhennjliinplaaHmG3
import Derived.MapKept
import Derived.WideKeyRuns
import Derived.Orders
set_option linter.all false
namespace Go.Hm
open Go Go.RowKit

section
variable {P:Program}

def CheckF (P:Program)(D:Nat)(t:TypeId)(ks:List Nat):Prop:=
 ∀(em:Bool) (w:World) (v:Value) (xs:List Value),Packs P t v xs→xs.length=ks.length→(Instr.checkKey em D t v).run P w= .ok () w

theorem checkFields_flat {flat:TypeId→Option (List Nat)}{D:Nat}(hflat:∀t ks,flat t=some ks→CheckF P D t ks∧∃u,P.underlying t=some u∧(aggT P t=false→ks.length=1))(em:Bool)(w:World):
  ∀(fs:List Field) (o:Nat) (ks:List Nat) (xs:List Value),flatFs P flat fs o=some ks→o+ks.length=xs.length→
   (forIn fs PUnit.unit fun (f:Field) (_:PUnit)=>(do
    if f.name ≠ "_" then
     let __do_lift ←part f.type xs.toArray f.offset
     Instr.checkKey em D f.type __do_lift
     pure (ForInStep.yield PUnit.unit)
    else pure (ForInStep.yield PUnit.unit):Sem (ForInStep PUnit))).run P w= .ok PUnit.unit w
 | [],o,ks,xs,h,hl=>by simp
 | f::r,o,ks,xs,h,hl=>by
  simp only[flatFs]at h
  split at h
  case isFalse=>simp at h
  rename_i hn
  split at h
  case h_2=>simp at h
  rename_i k1 n hf hs
  split at h
  case isFalse=>simp at h
  rename_i hk1
  split at h
  case h_2=>simp at h
  rename_i l hr
  simp only[Option.some.injEq]at h
  subst h
  obtain⟨hc,u,hu,h1⟩:=hflat _ _ hf
  rw[List.length_append]at hl
  obtain⟨v,hv,hp⟩:=part_packs (P:=P) (o:=f.offset) (xs:=xs) hs (by rw[hn.2];omega) (fun ha=>by rw[←hk1];exact h1 ha) hu w
  have hlen:((xs.drop f.offset).take n).length=k1.length:=by
   rw[List.length_take,List.length_drop,hn.2];omega
  have h2:=hc em w v _ hp hlen
  have ih:=checkFields_flat hflat em w r (o+n) l xs hr (by omega)
  rw[List.forIn_cons]
  simp only[Sem.run_bind,if_pos hn.1,hv,h2,Result.andThen_ok,Sem.run_pure]
  exact ih

theorem checkItems_flat {D:Nat}{e:TypeId}{k:Nat}{ks:List Nat}(hc:CheckF P D e ks)(hk:szOf P e=some k)(hks:ks.length=k){u:TypeDesc}(hu:P.underlying e=some u)(h1:aggT P e=false→k=1)(em:Bool)(w:World):
  ∀(m i:Nat) (xs:List Value),i*k+m*k=xs.length→
   (forIn (List.range' i m) PUnit.unit fun (j:Nat) (_:PUnit)=>(do
    let __do_lift ←part e xs.toArray (j*(←sizeOf e))
    Instr.checkKey em D e __do_lift
    pure (ForInStep.yield PUnit.unit):Sem (ForInStep PUnit))).run P w= .ok PUnit.unit w
 | 0,i,xs,hl=>by simp
 | m+1,i,xs,hl=>by
  have hm:(m+1)*k=m*k+k:=Nat.succ_mul m k
  have hi:(i+1)*k=i*k+k:=Nat.succ_mul i k
  obtain⟨v,hv,hp⟩:=part_packs (P:=P) (o:=i*k) (xs:=xs) hk (by omega) h1 hu w
  have hlen:((xs.drop (i*k)).take k).length=ks.length:=by
   rw[List.length_take,List.length_drop];omega
  have h2:=hc em w v _ hp hlen
  have ih:=checkItems_flat hc hk hks hu h1 em w m (i+1) xs (by omega)
  rw[List.range'_succ,List.forIn_cons]
  simp only[Sem.run_bind,szOf_run hk,hv,h2,Result.andThen_ok,Sem.run_pure]
  exact ih

theorem check_flat:∀(d D:Nat) (t:TypeId) (ks:List Nat),flatT P d t=some ks→CheckF P (D+d) t ks
 | 0,_,_,_,h=>by simp[flatT]at h
 | d+1,D,t,ks,h=>by
  intro em w v xs px hl
  unfold flatT at h
  rw[←Nat.add_assoc]
  split at h
  case h_1 hu=>simp[Instr.checkKey,run_underlying hu]
  case h_2 k hu=>simp[Instr.checkKey,run_underlying hu]
  case h_3 hu=>simp[Instr.checkKey,run_underlying hu]
  case h_4 fs hu=>
   have hag:aggT P t=true:=by simp[aggT,hu]
   simp only[Packs,hag,if_true]at px
   subst px
   split at h
   ·simp at h
   ·have:=checkFields_flat (D:=D+d) (fun t ks ht=>⟨check_flat d D t ks ht,flatT_sz ht⟩) em w fs.toList 0 ks xs h (by omega)
    simp only[Instr.checkKey,Sem.run_bind,run_underlying hu,Result.andThen_ok]
    rw[←Array.forIn_toList]
    simp at this ⊢
    rw[this];rfl
  case h_5 m el hu=>
   have hag:aggT P t=true:=by simp[aggT,hu]
   simp only[Packs,hag,if_true]at px
   subst px
   split at h
   ·rename_i k1 k hfl hk
    split at h
    ·rename_i hkl
     simp at h;subst h
     obtain⟨u,hu',h1⟩:=flatT_sz hfl
     have:=checkItems_flat (D:=D+d) (check_flat d D el k1 hfl) hk hkl hu' (fun ha=>by rw[←hkl];exact h1 ha) em w m 0 xs (by simpa[hkl] using hl.symm)
     simp only[Instr.checkKey,Sem.run_bind,run_underlying hu,Result.andThen_ok]
     simp only[Std.Legacy.Range.forIn_eq_forIn_range',Std.Legacy.Range.size,Nat.sub_zero,Nat.add_one_sub_one,Nat.div_one]
     simp at this ⊢
     rw[this];rfl
    ·simp at h
   ·simp at h
  case h_6=>simp at h

theorem eqScalar_true {k:Nat}{a b:Value}(h:eqScalar k a b=some true):a=b:=by
 unfold eqScalar at h
 split at h
 ·simpa using h
 ·split at h
  ·simp at h;subst h;rename_i hk;rw[hk]
  ·simp at h
 ·simp only[Option.some.injEq,beq_iff_eq]at h
  congr 1
  rename_i a b
  have:a.data.toList=b.data.toList:=by
   rw[←ByteArray.toList_eq,←ByteArray.toList_eq]
   exact h
  exact ByteArray.ext (Array.toList_inj.1 this)
 ·simp at h

theorem bytes_beq' (a b:ByteArray):(a==b)=(a.toList==b.toList):=by
 rw[ByteArray.toList_eq,ByteArray.toList_eq]
 obtain⟨x⟩:=a
 obtain⟨y⟩:=b
 show (x==y)=_
 rw[Bool.eq_iff_iff]
 simp

theorem eqScalar_sameNow {k:Nat}{a b:Value}{e:Bool}{P:Program}{d:Nat}{kt:TypeId}{u:TypeDesc}(h:eqScalar k a b=some e)(hf:flatT P d kt=some [k])(hu:P.underlying kt=some u)(hag:aggT P kt=false):Instr.sameNow u a b=some e:=by
 cases d with
 | zero=>simp[flatT]at hf
 | succ d=>
  unfold flatT at hf
  rw[hu]at hf
  unfold aggT at hag
  rw[hu]at hag
  cases u<;>simp at hf hag<;>subst hf<;>cases a<;>cases b<;>simp_all [eqScalar,Instr.sameNow,bytes_beq']

variable {φ:Phi}{F:Nat→Nat→Prop}{H:Heap}{w:World}

structure KeyEq (P:Program)(kt:TypeId)(w:World)(va vb:Value)(e:Bool):Prop where
 eq:(Op.equal kt va vb).run P w= .ok e w
 now:aggT P kt=false→∀u,P.underlying kt=some u→Instr.sameNow u va vb=some e
 same:e=true→va=vb
 diff:e=false→va≠vb

theorem eqScalar_refl {k:Nat}{a:Value}{e:Bool}(h:eqScalar k a a=some e):e=true:=by
 unfold eqScalar at h
 split at h<;>simp_all
theorem eqVals_refl:∀{ks:List Nat} {a:List Value} {e:Bool},eqVals ks a a=some e→e=true
 | [],[],e,h=>by simpa[eqVals] using h.symm
 | k::ks,x::a,e,h=>by
  simp only[eqVals]at h
  split at h
  ·rename_i e0 h0
   split at h
   ·rename_i e' h'
    simp at h
    rw[eqScalar_refl h0,eqVals_refl h']at h
    simpa using h.symm
   ·simp at h
  ·simp at h
 | [],_::_,_,h=>by simp[eqVals]at h
 | _::_,[],_,h=>by simp[eqVals]at h

theorem eqVals_true:∀{ks:List Nat} {a b:List Value},eqVals ks a b=some true→a=b
 | [],[],[],_=>rfl
 | k::ks,x::a,y::b,h=>by
  simp only[eqVals]at h
  split at h
  ·rename_i e0 h0
   split at h
   ·rename_i e' h'
    simp at h
    obtain⟨rfl,rfl⟩:=h
    rw[eqScalar_true h0,eqVals_true h']
   ·simp at h
  ·simp at h
 | [],_::_,_,h=>by simp[eqVals]at h
 | [],[],_::_,h=>by simp[eqVals]at h
 | _::_,[],_,h=>by simp[eqVals]at h
 | _::_,_::_,[],h=>by simp[eqVals]at h

theorem eqKey_rel {kt:TypeId}{ks:List Nat}{a b:AV}{e:Bool}{va vb:Value}(hf:flatT P 8 kt=some ks)(h:eqKey (aggT P kt) ks a b=some e)(ha:VRel φ F H w a va)(hb:VRel φ F H w b vb):KeyEq P kt w va vb e:=by
 unfold eqKey at h
 split at h
 ·rename_i x y
  split at h
  ·rename_i hag
   have hx:va=x:=by
    cases ha with
    | one ha=>exact ha.inv_val.1
   have hy:vb=y:=by
    cases hb with
    | one hb=>exact hb.inv_val.1
   subst hx;subst hy
   obtain⟨u,hu,_⟩:=flatT_sz hf
   refine⟨?_,fun _ u' hu'=>eqScalar_sameNow h hf hu' hag,fun he=>by subst he;exact eqScalar_true h,fun he hx=>by subst he;subst hx;cases eqScalar_refl h⟩
   rw[equal_eq]
   exact flat_eq 8 9992 kt _ hf w _ _ [va] [vb] e (by simp[Packs,hag]) (by simp[Packs,hag]) (by simp[eqVals,h])
  ·simp at h
 ·split at h
  ·rename_i xs ys hag
   obtain⟨xv,hxv,hxc⟩:=VRel.inv_agg ha
   obtain⟨yv,hyv,hyc⟩:=VRel.inv_agg hb
   subst hxv;subst hyv
   have hv:=eqCells_vals h hxc hyc
   refine⟨?_,fun hn=>by rw[hag]at hn;simp at hn,fun he=>by subst he;rw[eqVals_true hv],fun he hx=>by
    subst he
    have hxy:xv=yv:=by simpa using hx
    subst hxy;cases eqVals_refl hv⟩
   rw[equal_eq]
   exact flat_eq 8 9992 kt _ hf w _ _ xv yv e (by simp[Packs,hag]) (by simp[Packs,hag]) hv
  ·simp at h
 ·simp at h

theorem keyOk_check {kt:TypeId}{ks:List Nat}{a:AV}{va:Value}(hf:flatT P 8 kt=some ks)(h:keyOk (aggT P kt) ks a=true)(ha:VRel φ F H w a va)(em:Bool):(Instr.checkKey em 10000 kt va).run P w= .ok () w:=by
 simp only[keyOk,beq_iff_eq]at h
 unfold eqKey at h
 have e:(10000:Nat)=9992+8:=rfl
 rw[e]
 split at h
 ·split at h
  ·rename_i hag
   exact check_flat 8 9992 kt _ hf em w va [va] (by simp[Packs,hag]) (by simp)
  ·simp at h
 ·split at h
  ·rename_i xs ys hag
   obtain⟨xv,hxv,hxc⟩:=VRel.inv_agg ha
   subst hxv
   have hv:=eqCells_vals h hxc hxc
   exact check_flat 8 9992 kt _ hf em w _ xv (by simp[Packs,hag]) (eqVals_len hv).1
  ·simp at h
 ·simp at h
theorem scalar_same {k:Nat}{a:Value}{e:Bool}(h:eqScalar k a a=some e)(n:Nat):Instr.sameBits n a a=true:=by
 unfold eqScalar at h
 split at h<;>first | (simp at h;done) | (simp[Instr.sameBits];done) | skip
 simp[Instr.sameBits,bytes_beq']
theorem eqVals_zip:∀{ks:List Nat} {a:List Value} {e:Bool},eqVals ks a a=some e→∀(n:Nat),(a.zip a).all (fun (x,y)=>Instr.sameBits n x y)=true
 | [],[],_,_,_=>rfl
 | k::ks,x::a,e,h,n=>by
  simp only[eqVals]at h
  split at h
  ·rename_i e0 h0
   split at h
   ·rename_i e' h'
    simp only[List.zip_cons_cons,List.all_cons,Bool.and_eq_true]
    exact⟨scalar_same h0 n,eqVals_zip h' n⟩
   ·simp at h
  ·simp at h
 | [],_::_,_,h,_=>by simp[eqVals]at h
 | _::_,[],_,h,_=>by simp[eqVals]at h
theorem keyOk_same {ag:Bool}{ks:List Nat}{a:AV}{va:Value}(h:keyOk ag ks a=true)(ha:VRel φ F H w a va):(Instr.keyThatStays va va).run P w= .ok va w:=by
 have hs:Instr.sameBits 10000 va va=true:=by
  simp only[keyOk,beq_iff_eq]at h
  unfold eqKey at h
  split at h
  ·split at h
   ·cases ha with
    | one ha=>
     have hx:=ha.inv_val.1
     subst hx
     exact scalar_same h _
   ·simp at h
  ·split at h
   ·obtain⟨xv,hxv,hxc⟩:=VRel.inv_agg ha
    subst hxv
    have hv:=eqCells_vals h hxc hxc
    have:=eqVals_zip hv 9999
    simp only[Instr.sameBits,beq_self_eq_true,Bool.true_and]
    simpa using this
   ·simp at h
  ·simp at h
 simp[Instr.keyThatStays,hs]
end
end Go.Hm

namespace Go.Hm
open Go Go.RowKit

theorem mget_cases {ag:Bool}{ks:List Nat}{key:AV}:∀{es:List (AV×AV)} {r:Option AV},mget ag ks key es=some r→
  (r=none∧(∀(i:Nat) k u,es[i]?=some (k,u)→eqKey ag ks key k=some false)∧∀v,mset ag ks key v es=some (es++[(key,v)]))∨
  ∃j k u,es[j]?=some (k,u)∧eqKey ag ks key k=some true∧(∀(i:Nat) k u,i<j→es[i]?=some (k,u)→eqKey ag ks key k=some false)∧r=some u∧∀v,mset ag ks key v es=some (es.set j (key,v))
 | [],r,h=>by
  simp only[mget,Option.some.injEq]at h
  subst h
  exact .inl ⟨rfl,fun i k u h=>by simp at h,fun v=>rfl⟩
 | (k0,u0)::es,r,h=>by
  simp only[mget]at h
  split at h
  ·rename_i he
   simp only[Option.some.injEq]at h
   subst h
   exact .inr ⟨0,k0,u0,rfl,he,fun i k u hi=>by omega,rfl,fun v=>by simp[mset,he]⟩
  ·rename_i he
   rcases mget_cases h with⟨h1,h2,h3⟩ | ⟨j,k,u,h1,h2,h3,h4,h5⟩
   ·refine .inl ⟨h1,fun i k u hi=>?_,fun v=>by simp[mset,he,h3]⟩
    cases i with
    | zero=>simp at hi;obtain⟨rfl,rfl⟩:=hi;exact he
    | succ i=>exact h2 i k u (by simpa using hi)
   ·refine .inr ⟨j+1,k,u,by simpa using h1,h2,fun i k' u' hi hk=>?_,h4,fun v=>by simp[mset,he,h5]⟩
    cases i with
    | zero=>simp at hk;obtain⟨rfl,rfl⟩:=hk;exact he
    | succ i=>exact h3 i k' u' (by omega) (by simpa using hk)
  ·simp at h

theorem mset_mget {ag:Bool}{ks:List Nat}{key v:AV}:∀{es es':List (AV×AV)},mset ag ks key v es=some es'→∃r,mget ag ks key es=some r
 | [],_,_=>⟨none,rfl⟩
 | (k,u)::es,es',h=>by
  simp only[mset]at h
  simp only[mget]
  split at h
  ·exact⟨_,rfl⟩
  ·split at h
   ·rename_i h2
    exact mset_mget h2
   ·simp at h
  ·simp at h

section
variable {P:Program}{w:World}{kt:TypeId}{k:Value}

theorem find_none {u:TypeDesc}(hu:P.underlying kt=some u):∀(l:List MapEntry) (i:Nat),(∀(j:Nat) e,l[j]?=some e→KeyEq P kt w k e.key false)→
  (Instr.findAsking kt k l i).run P w= .ok none w∧(aggT P kt=false→Instr.findNow u k l i=some none)
 | [],i,_=>⟨by simp[Instr.findAsking],fun _=>rfl⟩
 | e::l,i,h=>by
  have h0:=h 0 e rfl
  obtain⟨ih1,ih2⟩:=find_none hu l (i+1) (fun j e he=>h (j+1) e (by simpa using he))
  refine⟨?_,fun hag=>?_⟩
  ·simp only[Instr.findAsking,Sem.run_bind,h0.eq,Result.andThen_ok]
   simpa using ih1
  ·simp only[Instr.findNow,h0.now hag u hu]
   exact ih2 hag

theorem find_some {u:TypeDesc}(hu:P.underlying kt=some u):∀(l:List MapEntry) (i j:Nat) (x:MapEntry),l[j]?=some x→KeyEq P kt w k x.key true→(∀(m:Nat) e,m<j→l[m]?=some e→KeyEq P kt w k e.key false)→
  (Instr.findAsking kt k l i).run P w= .ok (some (i+j,x.val)) w∧(aggT P kt=false→Instr.findNow u k l i=some (some (i+j,x.val)))
 | [],i,j,x,hx,_,_=>by simp at hx
 | e::l,i,0,x,hx,h1,h=>by
  simp at hx;subst hx
  refine⟨?_,fun hag=>?_⟩
  ·simp only[Instr.findAsking,Sem.run_bind,h1.eq,Result.andThen_ok]
   simp
  ·simp only[Instr.findNow,h1.now hag u hu];rfl
 | e::l,i,j+1,x,hx,h1,h=>by
  have h0:=h 0 e (by omega) rfl
  obtain⟨ih1,ih2⟩:=find_some hu l (i+1) j x (by simpa using hx) h1 (fun m e hm he=>h (m+1) e (by omega) (by simpa using he))
  have hij:i+(j+1)=i+1+j:=by omega
  rw[hij]
  refine⟨?_,fun hag=>?_⟩
  ·simp only[Instr.findAsking,Sem.run_bind,h0.eq,Result.andThen_ok]
   simpa using ih1
  ·simp only[Instr.findNow,h0.now hag u hu]
   exact ih2 hag

theorem findKey_run {u:TypeDesc}(hu:P.underlying kt=some u){l:List MapEntry}{r:Option (Nat×Value)}(h:(Instr.findAsking kt k l 0).run P w= .ok r w∧(aggT P kt=false→Instr.findNow u k l 0=some r)):(Instr.findKey kt k l).run P w= .ok r w:=by
 cases hag:aggT P kt with
 | true=>
  have:(match P.underlying kt with | some (.array _ _) | some (.struct _)=>true | _=>false)=true:=by
   unfold aggT at hag
   split at hag
   ·rename_i h;rw[h]
   ·rename_i h;rw[h]
   ·simp at hag
  rw[run_findKey_eq w this]
  exact h.1
 | false=>
  simp only[Instr.findKey,Sem.run_bind,run_underlying hu,Result.andThen_ok,h.2 hag,Sem.run_pure]

variable {φ:Phi}{F:Nat→Nat→Prop}{H:Heap}{β:Nat→Nat}{env:Env}{act:Act}{T:Nat}

theorem find_rel0 {ks:List Nat}{key:AV}{es:List (AV×AV)}{ces:Array MapEntry}{clk:Nat}{r:Option AV}(hf:flatT P 8 kt=some ks)(hm:MRel0 φ F H w es ces clk)(hk:VRel φ F H w key k)(h:mget (aggT P kt) ks key es=some r):
  (r=none∧(Instr.findKey kt k ces.toList).run P w= .ok none w∧∀x∈ces.toList,x.key≠k)∨∃j e u,ces[j]?=some e∧r=some u∧VRel φ F H w u e.val∧e.key=k∧j<es.length∧(Instr.findKey kt k ces.toList).run P w= .ok (some (j,e.val)) w∧∀v,mset (aggT P kt) ks key v es=some (es.set j (key,v)):=by
 obtain⟨u,hu,_⟩:=flatT_sz hf
 have get:∀(i:Nat) e,ces.toList[i]?=some e→∃k' v',es[i]?=some (k',v')∧VRel φ F H w k' e.key∧VRel φ F H w v' e.val:=fun i e he=>by
  have hlt:i<es.length:=by
   have:=(List.getElem?_eq_some_iff.1 he).1
   rw[←hm.1];simpa using this
  obtain⟨_,_,c,h1,h2,h3⟩:=hm.2 i es[i].1 es[i].2 (by simp[hlt])
  rw[Array.getElem?_toList]at he
  rw[he]at h1
  cases h1
  exact⟨_,_,by simp[hlt],h2,h3⟩
 rcases mget_cases h with⟨h1,h2,_⟩ | ⟨j,k',u',h1,h2,h3,h4,h5⟩
 ·have hno:∀(i:Nat) e,ces.toList[i]?=some e→KeyEq P kt w k e.key false:=fun i e he=>by
   obtain⟨k',v',g1,g2,_⟩:=get i e he
   exact eqKey_rel hf (h2 i k' v' g1) hk g2
  refine .inl ⟨h1,findKey_run hu (find_none hu _ 0 hno),fun x hx=>?_⟩
  obtain⟨i,hi⟩:=List.mem_iff_getElem?.1 hx
  exact((hno i x hi).diff rfl).symm
 ·obtain⟨_,_,e,g1,g2,g3⟩:=hm.2 j k' u' h1
  have hke:=eqKey_rel hf h2 hk g2
  refine .inr ⟨j,e,u',g1,h4,g3,(hke.same rfl).symm,(List.getElem?_eq_some_iff.1 h1).1,findKey_run hu ?_,h5⟩
  have:=find_some hu ces.toList 0 j e (by rw[Array.getElem?_toList];exact g1) hke (fun m e' hm' he'=>by
   obtain⟨k2,v2,f1,f2,_⟩:=get m e' he'
   exact eqKey_rel hf (h3 m k2 v2 hm' f1) hk f2)
  rw[Nat.zero_add]at this
  exact this

theorem ik_key {ag:Bool}{ks:List Nat}{key:AV}{n:Int}{e:Bool}(h:eqKey ag ks key (.val (.int .i64 n))=some e):ag=false∧ks=[1]∧∃m:Int,key= .val (.int .i64 m):=by
 unfold eqKey at h
 split at h
 ·rename_i a b hb
  cases hb
  split at h
  ·rename_i k
   unfold eqScalar at h
   split at h
   ·rename_i hb;cases hb
   ·rename_i hb
    split at h
    ·rename_i hk
     cases hb
     subst hk
     exact⟨rfl,rfl,_,rfl⟩
    ·cases h
   ·rename_i hb;cases hb
   ·cases h
  ·cases h
 ·rename_i hb;cases hb
 ·cases h
theorem ik_eq (m n:Int):eqKey false [1] (.val (.int .i64 m)) (.val (.int .i64 n))=some (m==n):=by
 simp[eqKey,eqScalar]
theorem IK.perm {a b:List (AV×AV)}(h:a.Perm b)(hb:IK b):IK a:=⟨fun p hp=>hb.1 p (h.mem_iff.1 hp),(h.map _).nodup_iff.2 hb.2⟩
theorem ik_uni {es:List (AV×AV)}(h:(es.map (·.1)).Nodup){k u v:AV}(h1:(k,u)∈es)(h2:(k,v)∈es):u=v:=by
 induction es with
 | nil=>cases h1
 | cons p es ih=>
  simp only[List.map_cons,List.nodup_cons]at h
  have no:∀{x},(k,x)∈es→k≠p.1:=fun hx e=>h.1 (e▸List.mem_map.2 ⟨_,hx,rfl⟩)
  rcases List.mem_cons.1 h1 with e1 | g1
  ·rcases List.mem_cons.1 h2 with e2 | g2
   ·have:=e1.trans e2.symm;cases this;rfl
   ·exact absurd (congrArg Prod.fst e1) (no g2)
  ·rcases List.mem_cons.1 h2 with e2 | g2
   ·exact absurd (congrArg Prod.fst e2) (no g1)
   ·exact ih h.2 g1 g2
theorem ik_get {m:Int}:∀{es:List (AV×AV)},(∀p∈es,∃n:Int,p.1= .val (.int .i64 n))→∃r,mget false [1] (.val (.int .i64 m)) es=some r∧(r=none→∀p∈es,p.1≠.val (.int .i64 m))∧∀u,r=some u→(.val (.int .i64 m),u)∈es
 | [],_=>⟨none,rfl,fun _ p hp=>(by cases hp),fun u h=>by cases h⟩
 | (k,v)::es,h=>by
  obtain⟨n,hn⟩:=h (k,v) (List.mem_cons_self)
  dsimp only at hn
  subst hn
  obtain⟨r,h1,h2,h3⟩:=ik_get (m:=m) (es:=es) fun p hp=>h p (List.mem_cons_of_mem _ hp)
  by_cases e:m=n
  ·subst e
   exact⟨some v,by simp[mget,ik_eq],fun h=>(by cases h),fun u hu=>by cases hu;exact List.mem_cons_self⟩
  ·have e':(m==n)=false:=by simpa using e
   refine⟨r,by simp[mget,ik_eq,e',h1],fun hr p hp=>?_,fun u hu=>List.mem_cons_of_mem _ (h3 u hu)⟩
   rcases List.mem_cons.1 hp with rfl | hp
   ·intro hh;simp at hh;exact e hh.symm
   ·exact h2 hr p hp
def upd (m:Int)(v:AV)(p:AV×AV):AV×AV:=match p.1 with
 | .val (.int .i64 n)=>if n=m then (.val (.int .i64 m),v) else p
 | _=>p
theorem upd_key (m:Int)(v:AV)(p:AV×AV):(upd m v p).1=p.1:=by
 obtain⟨k,u⟩:=p
 unfold upd
 split
 ·rename_i n hn
  split
  ·rename_i h;dsimp only at hn ⊢;rw[hn,h]
  ·rfl
 ·rfl
open Classical in
theorem ik_set {m:Int}{v:AV}:∀{es:List (AV×AV)},IK es→mset false [1] (.val (.int .i64 m)) v es=some (if ∃p∈es,p.1= .val (.int .i64 m) then es.map (upd m v) else es++[(.val (.int .i64 m),v)])
 | [],_=>by simp[mset]
 | (k,u)::es,h=>by
  obtain⟨n,hn⟩:=h.1 (k,u) (List.mem_cons_self)
  dsimp only at hn
  subst hn
  have h':IK es:=⟨fun p hp=>h.1 p (List.mem_cons_of_mem _ hp),by have:=h.2;simp only[List.map_cons,List.nodup_cons]at this;exact this.2⟩
  have ih:=ik_set (m:=m) (v:=v) h'
  by_cases e:m=n
  ·subst e
   have hno:∀p∈es,p.1≠.val (.int .i64 m):=fun p hp hh=>by
    have:=h.2
    simp only[List.map_cons,List.nodup_cons]at this
    exact this.1 (List.mem_map.2 ⟨p,hp,hh⟩)
   have hid:es.map (upd m v)=es:=by
    have:es.map (upd m v)=es.map id:=List.map_congr_left fun p hp=>by
     obtain⟨n,hn⟩:=h'.1 p hp
     have:=hno p hp
     obtain⟨k,u⟩:=p
     dsimp only at hn this
     subst hn
     have hne:n≠m:=fun e=>this (by rw[e])
     simp[upd,hne]
    simpa using this
   rw[if_pos ⟨_,List.mem_cons_self,rfl⟩]
   simp[mset,ik_eq,upd,hid]
  ·have hc:(∃p∈((AV.val (.int .i64 n),u)::es),p.1= .val (.int .i64 m))↔∃p∈es,p.1= .val (.int .i64 m):=by
    constructor
    ·rintro⟨p,hp,hh⟩
     rcases List.mem_cons.1 hp with rfl | hp
     ·simp at hh;exact absurd hh.symm e
     ·exact⟨p,hp,hh⟩
    ·rintro⟨p,hp,hh⟩
     exact⟨p,List.mem_cons_of_mem _ hp,hh⟩
   have e':¬n=m:=fun h=>e h.symm
   have e2:(m==n)=false:=by simpa using e
   simp only[mset,ik_eq,e2,ih,hc]
   split
   ·simp[upd,e']
   ·simp
theorem ep_get {ag:Bool}{ks:List Nat}{key:AV}{es0 es:List (AV×AV)}{r:Option AV}(h:Ep es0 es)(hg:mget ag ks key es=some r):mget ag ks key es0=some r:=by
 rcases h with rfl | ⟨hp,hik⟩
 ·exact hg
 ·cases hes:es with
  | nil=>subst hes;rw[hp.eq_nil];exact hg
  | cons p l=>
   have hk:ag=false∧ks=[1]∧∃m:Int,key= .val (.int .i64 m):=by
    obtain⟨n,hn⟩:=hik.1 p (by rw[hes];exact List.mem_cons_self)
    obtain⟨k,u⟩:=p
    dsimp only at hn
    subst hn
    rw[hes]at hg
    simp only[mget]at hg
    split at hg
    ·rename_i h;exact ik_key h
    ·rename_i h;exact ik_key h
    ·cases hg
   obtain⟨rfl,rfl,m,rfl⟩:=hk
   obtain⟨r1,a1,a2,a3⟩:=ik_get (m:=m) hik.1
   obtain⟨r0,b1,b2,b3⟩:=ik_get (m:=m) (hik.perm hp).1
   rw[a1]at hg
   cases hg
   rw[b1]
   congr 1
   cases r with
   | none=>cases r0 with
    | none=>rfl
    | some u=>exact absurd rfl (a2 rfl _ (hp.mem_iff.1 (b3 u rfl)))
   | some u=>cases r0 with
    | none=>exact absurd rfl (b2 rfl _ (hp.mem_iff.2 (a3 u rfl)))
    | some u0=>rw[ik_uni hik.2 (a3 u rfl) (hp.mem_iff.1 (b3 u0 rfl))]
theorem ep_set {ag:Bool}{ks:List Nat}{key v:AV}{es0 es es':List (AV×AV)}(h:Ep es0 es)(hg:mset ag ks key v es=some es'):∃es0',mset ag ks key v es0=some es0'∧Ep es0' es':=by
 classical
 rcases h with rfl | ⟨hp,hik⟩
 ·exact⟨es',hg,.inl rfl⟩
 ·cases hes:es with
  | nil=>subst hes;rw[hp.eq_nil];exact⟨es',hg,.inl rfl⟩
  | cons p l=>
   have hk:ag=false∧ks=[1]∧∃m:Int,key= .val (.int .i64 m):=by
    obtain⟨r,hr⟩:=mset_mget hg
    obtain⟨n,hn⟩:=hik.1 p (by rw[hes];exact List.mem_cons_self)
    obtain⟨k,u⟩:=p
    dsimp only at hn
    subst hn
    rw[hes]at hr
    simp only[mget]at hr
    split at hr
    ·rename_i h;exact ik_key h
    ·rename_i h;exact ik_key h
    ·cases hr
   obtain⟨rfl,rfl,m,rfl⟩:=hk
   rw[ik_set hik]at hg
   refine⟨_,ik_set (hik.perm hp),?_⟩
   simp only[Option.some.injEq]at hg
   subst hg
   have hc:(∃p∈es0,p.1= .val (.int .i64 m))↔∃p∈es,p.1= .val (.int .i64 m):=by
    constructor
    ·rintro⟨p,h1,h2⟩;exact⟨p,hp.mem_iff.1 h1,h2⟩
    ·rintro⟨p,h1,h2⟩;exact⟨p,hp.mem_iff.2 h1,h2⟩
   simp only[hc]
   split
   ·refine .inr ⟨hp.map _,fun p h1=>?_,?_⟩
    ·obtain⟨q,h2,rfl⟩:=List.mem_map.1 h1
     rw[upd_key];exact hik.1 q h2
    ·rw[List.map_map]
     have:((fun x:AV×AV=>x.1) ∘ upd m v)=fun x=>x.1:=funext fun p=>upd_key m v p
     rw[this];exact hik.2
   ·rename_i hno
    refine .inr ⟨hp.append_right _,fun p h1=>?_,?_⟩
    ·rcases List.mem_append.1 h1 with h1 | h1
     ·exact hik.1 p h1
     ·simp at h1;subst h1;exact⟨m,rfl⟩
    ·rw[List.map_append]
     refine List.nodup_append.2 ⟨hik.2,by simp,fun a ha b hb=>?_⟩
     simp at hb
     subst hb
     rintro rfl
     obtain⟨p,h1,h2⟩:=List.mem_map.1 ha
     exact hno ⟨p,h1,h2⟩
theorem find_rel {ks:List Nat}{key:AV}{es:List (AV×AV)}{ces:Array MapEntry}{clk:Nat}{r:Option AV}(hf:flatT P 8 kt=some ks)(hm:MRel φ F H w es ces clk)(hk:VRel φ F H w key k)(h:mget (aggT P kt) ks key es=some r):
  (r=none∧(Instr.findKey kt k ces.toList).run P w= .ok none w)∨∃(j:Nat) (e:MapEntry) (u:AV),r=some u∧VRel φ F H w u e.val∧(Instr.findKey kt k ces.toList).run P w= .ok (some (j,e.val)) w:=by
 obtain⟨es0,hep,hm⟩:=hm
 rcases find_rel0 hf hm hk (ep_get hep h) with⟨h1,h2,_⟩ | ⟨j,e,u,_,h1,h2,_,_,h3,_⟩
 ·exact .inl ⟨h1,h2⟩
 ·exact .inr ⟨j,e,u,h1,h2,h3⟩

theorem map_shape (s:St φ F H w β env act T){x:Operand}{es:List (AV×AV)}(h:mapOf H (ev env (cO x))=some es):
  (act.eval x= .map none∧es=[])∨∃b ces clk,ev env (cO x)= .mp b∧H[b]?=some (.map es)∧act.eval x= .map (some (φ b).1)∧w.heap[(φ b).1]?=some (.map ces clk)∧MRel φ F H w es ces clk:=by
 have hr:=ev_rel s x
 unfold mapOf at h
 split at h
 ·rename_i hx
  simp only[Option.some.injEq]at h
  exact .inl ⟨ev_val s hx,h.symm⟩
 ·rename_i b hx
  rw[hx]at hr
  split at h
  case h_2=>simp at h
  rename_i es' hb
  simp only[Option.some.injEq]at h
  subst h
  have hr':VRel φ F H w (.mp b) (act.eval x):=hr
  generalize hv:act.eval x=v at hr'
  cases hr' with
  | one hr'=>
  cases hr' with
  | mp _ es2 hb2=>
  obtain⟨ces,clk,hk,hm⟩:=s.sr.mblk b es' hb
  exact .inr ⟨b,ces,clk,hx,hb,rfl,hk,hm⟩
 ·simp at h

theorem zVal_rel {e:TypeId}{z:AV}(h:zVal P e=some z):∃i zv,P.info? e=some i∧i.zero=some zv∧VRel φ F H w z zv:=by
 unfold zVal at h
 cases hi:P.info? e with
 | none=>rw[hi]at h;simp at h
 | some i=>
  rw[hi]at h
  simp only[Option.bind_some]at h
  cases hz:i.zero with
  | none=>rw[hz]at h;simp at h
  | some zv=>
   rw[hz]at h
   refine⟨i,zv,rfl,hz,?_⟩
   have one:∀v,of1 v=some z→VRel φ F H w z v:=fun v hv=>by
    have hcl:CL φ F H w [z] [v]:=of1s_rel (by simp[of1s,hv])
    exact .one (hcl.2 0 z v rfl rfl)
   cases zv with
   | agg cs=>
    simp only[Option.map_eq_some_iff]at h
    obtain⟨l,hl,rfl⟩:=h
    have:=VRel.agg (φ:=φ) (F:=F) (H:=H) (w:=w) l cs.toList (of1s_rel hl)
    simpa using this
   | _=>exact one _ h

theorem p_mlk (s:St φ F H w β env act T)(t:TypeId)(x i:Operand)(ok:Bool){kt et:TypeId}{ks:List Nat}{z v:AV}(hu:P.underlying t=some (.map kt et))(hf:flatT P 8 kt=some ks)(hz:zVal P et=some z)
  (h:rdOp (.mlk (aggT P kt) ks z ok (cO x) (cO i)) env H=some v):Pure P φ F H w β act (.lookup t x i ok) v:=by
 simp only[rdOp]at h
 split at h
 case h_2=>simp at h
 rename_i es hes
 split at h
 case isFalse=>simp at h
 rename_i hok
 have hik:VRel φ F H w (ev env (cO i)) (act.eval i):=by
  have hr:=ev_rel s i
  generalize hv:ev env (cO i)=a at hr hok
  cases a<;>first | exact hr | (simp[keyOk,eqKey]at hok)
 obtain⟨inf,zv,hi,hzv,hzr⟩:=zVal_rel (φ:=φ) (F:=F) (H:=H) (w:=w) hz
 have hzrun:=zeroValue_run (P:=P) hi hzv
 have fin:∀(u:AV) (cu:Value) (b:Bool),VRel φ F H w u cu→ORel φ F H w β (if ok=true then .tup [u,.val (.bool b)] else u) (if ok=true then .tuple #[cu,.bool b] else cu):=by
  intro u cu b hr
  cases ok with
  | false=>exact ORel.of hr
  | true=>
   have:=VRel.tup (φ:=φ) (F:=F) (H:=H) (w:=w) [u,.val (.bool b)] [cu,.bool b] rfl (fun i a v ha hv=>by
    match i with
    | 0=>simp at ha hv;subst ha;subst hv;exact hr
    | 1=>simp at ha hv;subst ha;subst hv;exact .one (.val _ rfl)
    | n+2=>simp at ha)
   exact this
 have core:∀(ces:Array MapEntry) (clk:Nat),MRel φ F H w es ces clk→(∀{w':World},w'=w→True)→
   (∃cv,((do
    Instr.checkKey ces.isEmpty 10000 kt (act.eval i)
    let (v,ok') ←match ←Instr.findKey kt (act.eval i) ces.toList with
     | some (_,v)=>pure (v,true)
     | none=>pure (←zeroValue et,false)
    pure (if ok then .tuple #[v,.bool ok'] else v):Sem Value)).run P w= .ok cv w∧ORel φ F H w β v cv):=by
  intro ces clk hm _
  have hc:=keyOk_check hf hok hik ces.isEmpty
  split at h
  ·rename_i u hg
   rcases find_rel hf hm hik hg with⟨h1,_⟩ | ⟨j,e,u',h2,h3,h4⟩
   ·cases h1
   ·cases h2
    refine⟨if ok=true then .tuple #[e.val,.bool true] else e.val,?_,?_⟩
    ·simp only[Sem.run_bind,hc,Result.andThen_ok,h4,Sem.run_pure]
    ·simp only[Option.some.injEq]at h
     rw[←h];exact fin _ _ true h3
  ·rename_i hg
   rcases find_rel hf hm hik hg with⟨_,h1⟩ | ⟨_,_,_,h2,_⟩
   ·refine⟨if ok=true then .tuple #[zv,.bool false] else zv,?_,?_⟩
    ·simp only[Sem.run_bind,hc,Result.andThen_ok,h1,hzrun,Sem.run_pure]
    ·simp only[Option.some.injEq]at h
     rw[←h];exact fin _ _ false hzr
   ·cases h2
  ·simp at h
 intro dst type pos after guard
 rcases map_shape s hes with⟨hx,rfl⟩ | ⟨b,ces,clk,_,_,hx,hk,hm⟩
 ·obtain⟨cv,h1,h2⟩:=core #[] 0 (MRel0.up ⟨rfl,fun i k v h=>by simp at h,MapKept.stamped_empty 0⟩) (fun _=>trivial)
  refine⟨cv,?_,h2⟩
  have:(Instr.lookup t (act.eval x) (act.eval i) ok).run P w= .ok cv w:=by
   rw[hx]
   simp only[Instr.lookup,Sem.run_bind,run_underlying hu,Result.andThen_ok,Sem.run_pure]at h1 ⊢
   exact h1
  simp only[execOp,Sem.run_bind,this];rfl
 ·obtain⟨cv,h1,h2⟩:=core ces clk hm (fun _=>trivial)
  refine⟨cv,?_,h2⟩
  have:(Instr.lookup t (act.eval x) (act.eval i) ok).run P w= .ok cv w:=by
   rw[hx]
   simp only[Instr.lookup,Sem.run_bind,run_underlying hu,Result.andThen_ok,Sem.run_pure,MapKept.run_getObj_map hk]at h1 ⊢
   exact h1
  simp only[execOp,Sem.run_bind,this];rfl

theorem p_mlen (s:St φ F H w β env act T)(t:TypeId)(x:Operand){v:AV}{kt et:TypeId}(hu:P.underlying t=some (.map kt et)){args:Array Operand}(hargs:args.toList=[x]){ats:Array TypeId}(hats:ats[0]?=some t)
  (h:rdOp (.mlen (cO x)) env H=some v):Pure P φ F H w β act (.call { callee:=.builtin .len,args,argTypes:=ats }) v:=by
 have ha:args=#[x]:=by apply Array.ext';simpa using hargs
 subst ha
 simp only[rdOp]at h
 split at h
 case h_2=>simp at h
 rename_i es hes
 simp only[Option.some.injEq]at h
 subst h
 intro dst type pos after guard
 rcases map_shape s hes with⟨hx,rfl⟩ | ⟨b,ces,clk,_,_,hx,hk,hm⟩
 ·exact⟨.int .i64 0,by simp[execOp,resolve,invoke,builtin,Builtin.len_,hats,run_underlying hu,hx,goInt],VRel.one (.val _ rfl)⟩
 ·refine⟨.int .i64 es.length,?_,VRel.one (.val _ rfl)⟩
  simp[execOp,resolve,invoke,builtin,Builtin.len_,hats,run_underlying hu,hx,goInt,MapKept.run_getObj_map hk,hm.size]
end
end Go.Hm

namespace Go.Hm
open Go Go.RowKit

section
variable {P:Program}{φ0:Phi}{F0:Nat→Nat→Prop}{H0:Heap}{w0:World}{φ:Phi}{F:Nat→Nat→Prop}{H:Heap}{w:World}{β:Nat→Nat}{env:Env}{act:Act}{T:TT}

theorem m_mkm (t:TypeId)(b:Nat):Makes P φ F H w β (Instr.makeMap t none) b (.mp b) (.map []):=by
 refine⟨.map (some w.heap.size),.map #[] 0,rfl,⟨#[],0,rfl,MRel0.up ⟨rfl,fun i k v h=>by simp at h,MapKept.stamped_empty 0⟩⟩,fun φ' F' H' w' h1 h2 _=>?_⟩
 have:=CRel.mp (φ:=φ') (F:=F') (H:=H') (w:=w') b [] h2
 rw[h1]at this
 exact VRel.one this

def setMap (w:World)(k:Nat)(ces:Array MapEntry)(clk:Nat):World:={ w with heap:=w.heap.setIfInBounds k (.map ces clk) }

theorem setMap_wr (w:World)(k:Nat)(ces:Array MapEntry)(clk:Nat):Wr w (setMap w k ces clk) k:=
 ⟨rfl,rfl,rfl,by simp[setMap],fun j hj=>by simp[setMap,Ne.symm hj]⟩

theorem kb_modify {ces:Array MapEntry}{j:Nat}{e:MapEntry}{k x:Value}(h:ces[j]?=some e)(hk:k=e.key):(ces.modify j fun e=>{ e with key:=k,val:=x }).toList.map (fun e=>(e.key,e.born))=ces.toList.map (fun e=>(e.key,e.born)):=by
 apply List.ext_getElem?
 intro i
 rw[List.getElem?_map,List.getElem?_map,Array.getElem?_toList,Array.getElem?_toList,Array.getElem?_modify]
 split
 ·rename_i hij
  subst hij
  rw[h,hk]
  rfl
 ·rfl

theorem f_wrM (f:Full φ0 F0 H0 w0 φ F H w β env act T){b:Nat}{es es':List (AV×AV)}{ces ces':Array MapEntry}{clk clk':Nat}(hb:H[b]?=some (.map es))(ha:w.heap[(φ b).1]?=some (.map ces clk))(hm:MRel φ F H w es' ces' clk')(hg:Grow ces clk ces' clk'):
  Post φ0 F0 H0 w0 (H.set b (.map es')) env T act (setMap w (φ b).1 ces' clk'):=by
 have hlb:live H b:=⟨.map es,hb,trivial⟩
 have hblt:b<H.length:=(List.getElem?_eq_some_iff.1 hb).1
 have hwr:=setMap_wr w (φ b).1 ces' clk'
 have hk':(setMap w (φ b).1 ces' clk').heap[(φ b).1]?=some (.map ces' clk'):=(MapKept.heap_set ha).1
 have hself:(H.set b (.map es'))[b]?=some (.map es'):=by simp[hblt]
 have hoth:∀b',b'≠b→(H.set b (.map es'))[b']?=H[b']?:=fun b' h=>by rw[List.getElem?_set_ne (fun e=>h e.symm)]
 have hwm:Wm w (setMap w (φ b).1 ces' clk'):=⟨Nat.le_of_eq hwr.size.symm,fun k arr ty fr hk=>by
  have hne:k≠(φ b).1:=fun e=>by subst e;rw[ha]at hk;cases hk
  exact⟨arr,by rw[hwr.block k hne];exact hk,rfl⟩,fun k c1 k1 hk=>by
  by_cases e:k=(φ b).1
  ·subst e
   rw[ha]at hk;cases hk
   exact⟨ces',clk',hk',hg⟩
  ·exact⟨c1,k1,by rw[hwr.block k e];exact hk,Grow.refl _ _⟩⟩
 have e:Ext φ F H w φ F (H.set b (.map es')) (setMap w (φ b).1 ces' clk'):=
  ⟨fun b' c2 h2=>by
   have hbb:b'≠b:=fun e=>by subst e;rw[hb]at h2;cases h2
   exact⟨c2,by rw[hoth b' hbb];exact h2,Nat.le_refl _,fun _=>rfl⟩,
   fun b' e2 h2=>by
   by_cases hbb:b'=b
   ·subst hbb;exact⟨⟨es',hself⟩,rfl⟩
   ·exact⟨⟨e2,by rw[hoth b' hbb];exact h2⟩,rfl⟩,
   fun j o hf=>⟨hf,hwr.block j (fun e=>by subst e;exact f.st.sr.phiF b o hlb hf)⟩,hwm⟩
 have lv:∀b',live (H.set b (.map es')) b'→live H b':=fun b' ⟨c2,h2,n2⟩=>by
  by_cases hbb:b'=b
  ·subst hbb;exact hlb
  ·exact⟨c2,by rw[←hoth b' hbb];exact h2,n2⟩
 have sr':SR φ F (H.set b (.map es')) (setMap w (φ b).1 ces' clk'):=by
  refine⟨fun b' c2 h2 n2=>?_,fun b' e2 h2=>?_,fun b1 b2 h1 h2 he=>f.st.sr.inj b1 b2 (lv b1 h1) (lv b2 h2) he,fun b' o hl2=>f.st.sr.phiF b' o (lv b' hl2),fun k o hf=>by rw[hwr.size];exact f.st.sr.fsz k o hf⟩
  ·have hbb:b'≠b:=fun e=>by subst e;rw[hself]at h2;cases h2
   rw[hoth b' hbb]at h2
   obtain⟨a2,ty2,h3,hc2⟩:=f.st.sr.blk b' c2 h2 n2
   have hne2:(φ b').1≠(φ b).1:=fun e=>hbb (f.st.sr.inj b' b ⟨_,h2,n2⟩ hlb e)
   refine⟨a2,ty2,by rw[hwr.block _ hne2];exact h3,fun i a hi=>?_⟩
   obtain⟨v,hv,hr⟩:=hc2 i a hi
   exact⟨v,hv,hr.mono e⟩
  ·by_cases hbb:b'=b
   ·subst hbb
    rw[hself]at h2;cases h2
    exact⟨ces',clk',hk',hm.mono e⟩
   ·rw[hoth b' hbb]at h2
    obtain⟨c3,k3,h3,hm3⟩:=f.st.sr.mblk b' e2 h2
    have hne2:(φ b').1≠(φ b).1:=fun e=>hbb (f.st.sr.inj b' b ⟨_,h2,trivial⟩ hlb e)
    exact⟨c3,k3,by rw[hwr.block _ hne2];exact h3,hm3.mono e⟩
 have st':=f.st.mono e sr' (fun t c2 ht=>⟨hwr.block _ (f.st.bphi t c2 b ht hlb),fun b' hl2=>f.st.bphi t c2 b' ht (lv b' hl2),fun o=>f.st.bF t c2 o ht⟩)
 exact⟨φ,F,β,f.next (S:=fun k=>k=(φ b).1) ⟨hwr.os,hwr.tape,hwr.output,Nat.le_of_eq hwr.size.symm,fun k _ hk=>hwr.block k hk⟩ (fun k hk=>.inl ⟨b,hlb,hk.symm⟩) st' e (fun b' hl2=>.inl ⟨lv b' hl2,rfl⟩) (fun t c2 ht=>.inl ⟨c2,ht,rfl⟩) rfl (fun _ _ h=>.inl h)⟩

theorem s_mup (f:Full φ0 F0 H0 w0 φ F H w β env act T){dst:Option Nat}{t kt et:TypeId}{m k x:Operand}{ks:List Nat}{lk lim base:Nat}{env':Env}{H':Heap}(hu:P.underlying t=some (.map kt et))(hf:flatT P 8 kt=some ks)
  (h:exOp lk lim base dst (.mup (aggT P kt) ks (cO m) (cO k) (cO x)) env H=some (env',H')):Sound P φ0 F0 H0 w0 T act w dst (.mapUpdate t m k x) H' env'∧Sound P φ0 F0 H0 w0 T act w dst (.insert t m k x) H' env':=by
 simp only[exOp]at h
 split at h
 case h_2=>simp at h
 rename_i b hmp
 split at h
 case h_2=>simp at h
 rename_i es hb
 split at h
 case isFalse=>simp at h
 rename_i hc
 obtain⟨_,hdst,hok,harg,hbel⟩:=hc
 split at h
 case h_2=>simp at h
 rename_i es' hset
 simp only[Option.some.injEq,Prod.mk.injEq]at h
 obtain⟨rfl,rfl⟩:=h
 subst hdst
 have hik:VRel φ F H w (ev env (cO k)) (act.eval k):=by
  have hr:=ev_rel f.st k
  generalize hv:ev env (cO k)=a at hr hok
  cases a<;>first | exact hr | (simp[keyOk,eqKey]at hok)
 have hkb:Hm.below 0 (ev env (cO k))=true:=by
  generalize hv:ev env (cO k)=a at hok hik
  simp only[keyOk,beq_iff_eq]at hok
  unfold eqKey at hok
  split at hok
  ·rfl
  ·split at hok
   ·rename_i xs ys _
    simp only[Hm.below]
    have:∀{ks:List Nat} {xs:List AV} {e:Bool},eqCells ks xs xs=some e→belowL 0 xs=true:=by
     intro ks
     induction ks with
     | nil=>
      intro xs e h
      cases xs with
      | nil=>rfl
      | cons a r=>simp[eqCells]at h
     | cons k0 ks ih=>
      intro xs e h
      cases xs with
      | nil=>simp[eqCells]at h
      | cons a r=>
       cases a<;>first | (simp[eqCells]at h;done) | skip
       simp only[eqCells]at h
       split at h
       ·split at h
        ·rename_i h2
         simp only[belowL,Hm.below,Bool.true_and]
         exact ih h2
        ·simp at h
       ·simp at h
    exact this hok
   ·simp at hok
  ·simp at hok
 have hiv:VRel φ F H w (ev env (cO x)) (act.eval x):=by
  have hr:=ev_rel f.st x
  generalize hv:ev env (cO x)=a at hr harg
  cases a<;>first | exact hr | (simp[argOk,one]at harg)
 rcases map_shape f.st (x:=m) (es:=es) (by rw[hmp];simp only[mapOf,hb]) with⟨hx,_⟩ | ⟨b',ces,clk,hmp',hb',hx,hk,hm⟩
 ·have hr:VRel φ F H w (.mp b) (act.eval m):=ev_of f.st hmp
  rw[hx]at hr
  exfalso
  cases hr with
  | one hr=>cases hr
 rw[hmp]at hmp'
 cases hmp'
 have hck:=keyOk_check hf hok hik false
 have hst:=keyOk_same (w:=w) (P:=P) hok hik
 obtain⟨es0,hep,hm⟩:=hm
 obtain⟨es0',hset0,hep'⟩:=ep_set hep hset
 suffices main0:∃ces' clk',(Instr.mapUpdate t (act.eval m) (act.eval k) (act.eval x)).run P w= .ok () (setMap w (φ b).1 ces' clk')∧MRel0 φ F H w es0' ces' clk'∧Grow ces clk ces' clk' from by
  obtain⟨ces',clk',hrun,hmr,hgr⟩:=main0
  have hmr:MRel φ F H w es' ces' clk':=⟨es0',hep',hmr⟩
  have hpost:=f_wrM f (clk':=clk') hb hk hmr hgr
  constructor
  ·intro type pos after guard next Q hk
   unfold Oper.wp
   have:(execOp act.eval { dst:=none,op:=.mapUpdate t m k x,type,pos,after,guard }).run P w= .ok .skip (setMap w (φ b).1 ces' clk'):=by
    simp only[execOp,Sem.run_bind,hrun];rfl
   rw[this]
   exact hk _ _ hpost
  ·intro type pos after guard next Q hk
   unfold Oper.wp
   have:(execOp act.eval { dst:=none,op:=.insert t m k x,type,pos,after,guard }).run P w= .ok .skip (setMap w (φ b).1 ces' clk'):=by
    simp only[execOp,Sem.run_bind,hrun];rfl
   rw[this]
   exact hk _ _ hpost
 obtain⟨r,hget⟩:=mset_mget hset0
 rcases find_rel0 hf hm hik hget with⟨h1,h2,hno⟩ | ⟨j,e,u,h1,h2,h3,h4,h5,h6,h7⟩
 ·subst h1
  rcases mget_cases hget with⟨_,_,h3⟩ | ⟨_,_,_,_,_,_,h3,_⟩
  ·rw[h3]at hset0
   simp only[Option.some.injEq]at hset0
   subst hset0
   refine⟨ces.push { key:=act.eval k,val:=act.eval x,born:=clk },clk+1,?_,⟨by simp[hm.1],fun i k' v' hi=>?_,MapKept.stamped_push hm.3 hno⟩,by simp,fun h=>by simp at h⟩
   ·rw[hx]
    simp only[Instr.mapUpdate,Sem.run_bind,run_underlying hu,Result.andThen_ok,MapKept.run_getObj_map hk,hck,h2,MapKept.run_setObj_map _ hk]
    rfl
   ·rw[List.getElem?_append]at hi
    split at hi
    ·obtain⟨g1,g2,e,g3,g4,g5⟩:=hm.2 i k' v' hi
     refine⟨g1,g2,e,?_,g4,g5⟩
     rw[Array.getElem?_push]
     have:=(Array.getElem?_eq_some_iff.1 g3).1
     rw[if_neg (by omega)]
     exact g3
    ·rename_i hge
     have h0:i-es0.length=0:=by
      have:=(List.getElem?_eq_some_iff.1 hi).1
      simpa using this
     rw[h0]at hi
     simp only[List.getElem?_cons_zero,Option.some.injEq,Prod.mk.injEq]at hi
     obtain⟨rfl,rfl⟩:=hi
     refine⟨hkb,hbel,{ key:=act.eval k,val:=act.eval x,born:=clk },?_,hik,hiv⟩
     rw[Array.getElem?_push,if_pos (by rw[hm.1];omega)]
  ·cases h3
 ·rw[h7]at hset0
  simp only[Option.some.injEq]at hset0
  subst hset0
  refine⟨ces.modify j fun e=>{ e with key:=act.eval k,val:=act.eval x },clk,?_,⟨by simp[hm.1],fun i k' v' hi=>?_,MapKept.stamped_modify hm.3 j _ (fun _ _=>rfl) (fun e' _ he=>by rw[h1]at he;cases he;exact h4.symm)⟩,by simp,fun _=>⟨rfl,kb_modify h1 h4.symm⟩⟩
  ·rw[hx]
   have hold:(((ces[j]?).map (·.key)).getD (act.eval k))=act.eval k:=by rw[h1];simpa using h4
   simp only[Instr.mapUpdate,Sem.run_bind,run_underlying hu,Result.andThen_ok,MapKept.run_getObj_map hk,hck,h6,hold,hst,MapKept.run_setObj_map _ hk]
   rfl
  ·by_cases hij:i=j
   ·subst hij
    rw[List.getElem?_set_self h5]at hi
    simp only[Option.some.injEq,Prod.mk.injEq]at hi
    obtain⟨rfl,rfl⟩:=hi
    exact⟨hkb,hbel,{ e with key:=act.eval k,val:=act.eval x },by rw[Array.getElem?_modify,if_pos rfl,h1];rfl,hik,hiv⟩
   ·rw[List.getElem?_set_ne (fun e=>hij e.symm)]at hi
    obtain⟨g1,g2,e',g3,g4,g5⟩:=hm.2 i k' v' hi
    exact⟨g1,g2,e',by rw[Array.getElem?_modify,if_neg (fun e=>hij e.symm)];exact g3,g4,g5⟩
end
end Go.Hm

namespace Go.Hm
open Go Go.RowKit

section
variable (P:Program)

inductive CompR:Op→AOp→Prop
 | mv (x:Operand):CompR (.move x) (.mv (cO x))
 | assign (x:Operand):CompR (.assign x) (.mv (cO x))
 | pick (c a b:Operand):CompR (.pick c a b) (.pick (cO c) (cO a) (cO b))
 | allocR (e:TypeId) (z:List AV) (hz:zOf P e=some z):CompR (.alloc e) (.allocR z)
 | allocH (e:TypeId) (z:List AV) (hz:zOf P e=some z):CompR (.alloc e) (.allocH z)
 | boxR (e:TypeId) (n:Nat) (x:Operand):CompR (.box e x) (.boxR n (cO x))
 | boxH (e:TypeId) (n:Nat) (x:Operand):CompR (.box e x) (.boxH n (cO x))
 | build1 (t:TypeId) (parts:Array (Nat×Operand)) (fs:Array Field) (z:List AV) (l:List (Nat×Nat×AO)) (hu:P.underlying t=some (.struct fs)) (hz:zOf P t=some z) (ha:fs.toList.all (fun (f:Field)=>(szOf P f.type).isSome)=true)
   (hl:partsC (fun (i:Nat)=>match (fs[i]?:Option Field) with
     | some (f:Field)=>(szOf P f.type).map fun n=>(f.offset,n)
     | none=>none) parts.toList=some l):CompR (.build t parts) (.build z l)
 | build2 (t:TypeId) (parts:Array (Nat×Operand)) (n:Nat) (e:TypeId) (k:Nat) (z:List AV) (l:List (Nat×Nat×AO)) (hu:P.underlying t=some (.array n e)) (hz:zOf P t=some z) (hk:szOf P e=some k)
   (hl:partsC (fun i=>some (i*k,k)) parts.toList=some l):CompR (.build t parts) (.build z l)
 | buildS (t:TypeId) (n:Nat) (parts:Array (Nat×Operand)) (e:TypeId) (k:Nat) (z:List AV) (l:List (Nat×Nat×AO)) (hu:P.underlying t=some (.slice e)) (hk:szOf P e=some k) (hz:zOf P e=some z) (hn:n*k≤65536) (hzl:z.length=k) (hk0:0<k)
   (hl:partsC (fun i=>some (i*k,k)) parts.toList=some l):CompR (.buildSlice t n parts) (.buildS n (repl n z) l)
 | buildH (t:TypeId) (n:Nat) (parts:Array (Nat×Operand)) (e:TypeId) (k:Nat) (z:List AV) (l:List (Nat×Nat×AO)) (hu:P.underlying t=some (.slice e)) (hk:szOf P e=some k) (hz:zOf P e=some z) (hn:n*k≤65536) (hzl:z.length=k) (hk0:0<k)
   (hl:partsC (fun i=>some (i*k,k)) parts.toList=some l):CompR (.buildSlice t n parts) (.buildH n k (repl n z) l)
 | ldA (t:TypeId) (a:Operand) (l:Option Nat) (n:Nat) (ha:aggT P t=true) (hn:szOf P t=some n):CompR (.load t a) (.ldA l n (cO a))
 | ld1 (t:TypeId) (a:Operand) (l:Option Nat) (ha:aggT P t=false) (hu:(P.underlying t).isSome=true):CompR (.load t a) (.ld1 l (cO a))
 | st (t:TypeId) (a x:Operand) (l:Option Nat) (n:Nat) (hn:szOf P t=some n):CompR (.store t a x) (.st l n (cO a) (cO x))
 | nilc (x:Operand):CompR (.nilCheck x) (.nilc (cO x))
 | bini (op:BinOp) (t:TypeId) (x y:Operand) (yt:TypeId):CompR (.binOp op t x y yt) (.bini op (cO x) (cO y))
 | bins (op:BinOp) (t:TypeId) (x y:Operand) (yt:TypeId):CompR (.binOp op t x y yt) (.bins op (cO x) (cO y))
 | eqb (neg:Bool) (t:TypeId) (x y:Operand) (yt:TypeId) (hu:P.underlying t=some .bool):CompR (.binOp (if neg then .neq else .eql) t x y yt) (.eqb neg (cO x) (cO y))
 | eqp (neg:Bool) (t:TypeId) (x y:Operand) (yt el:TypeId) (hu:P.underlying t=some (.pointer el)):CompR (.binOp (if neg then .neq else .eql) t x y yt) (.eqp neg (cO x) (cO y))
 | eqf (neg:Bool) (t:TypeId) (x y:Operand) (yt:TypeId) (a b:Array TypeId) (c:Bool) (hu:P.underlying t=some (.func a b c)):CompR (.binOp (if neg then .neq else .eql) t x y yt) (.eqf neg (cO x) (cO y))
 | eqa (neg:Bool) (t:TypeId) (x y:Operand) (yt:TypeId) (ks:List Nat) (ha:aggT P t=true) (hk:flatT P 8 t=some ks) (hg:P.eqGuardType P.depth t=false):CompR (.binOp (if neg then .neq else .eql) t x y yt) (.eqa neg ks (cO x) (cO y))
 | not (t:TypeId) (x:Operand):CompR (.unOp .not t x) (.not (cO x))
 | negi (t:TypeId) (x:Operand):CompR (.unOp .neg t x) (.negi (cO x))
 | xori (t:TypeId) (x:Operand):CompR (.unOp .xor t x) (.xori (cO x))
 | cvi (s d:TypeId) (x:Operand) (k k':IntKind) (hs:P.underlying s=some (.int k')) (hd:P.underlying d=some (.int k)):CompR (.convert s d x) (.cvi k (cO x))
 | cvs (s d:TypeId) (x:Operand) (hs:P.underlying s=some .string) (hd:P.underlying d=some .string):CompR (.convert s d x) (.slS (cO x) none none)
 | b2s (s d:TypeId) (x:Operand) (e:TypeId) (hs:P.underlying s=some (.slice e)) (he:P.underlying e=some (.int .u8)) (hd:P.underlying d=some .string):CompR (.convert s d x) (.b2s (cO x))
 | s2b (s d:TypeId) (x:Operand) (e:TypeId) (hs:P.underlying s=some .string) (hd:P.underlying d=some (.slice e)) (he:P.underlying e=some (.int .u8)):CompR (.convert s d x) (.s2b (cO x))
 | mkf (f:FuncId) (first caps:Array Operand) (h0:first.size=0) (hf:f<1000):CompR (.makeFunc (.func f) first caps) (.mkf f (caps.toList.map cO))
 | mks (t:TypeId) (l c:Operand) (e:TypeId) (k by':Nat) (z:List AV) (hlc:c=l) (hu:P.underlying t=some (.slice e)) (hk:szOf P e=some k) (hb:byOf P e=some by') (hz:zOf P e=some z) (hk0:0<k) (hb0:0<by'):CompR (.makeSlice t l c) (.mks k by' z (cO l))
 | slS (t:TypeId) (x:Operand) (lo hi:Option Operand) (hu:P.underlying t=some .string):CompR (.slice t x lo hi none) (.slS (cO x) (lo.map cO) (hi.map cO))
 | slC (t:TypeId) (x:Operand) (lo hi:Option Operand) (e:TypeId) (k:Nat) (hu:P.underlying t=some (.slice e)) (hk:szOf P e=some k):CompR (.slice t x lo hi none) (.slC k (cO x) (lo.map cO) (hi.map cO))
 | sl00 (t:TypeId) (x:Operand) (lo hi mx:Option Operand) (e:TypeId) (k:Nat) (hu:P.underlying t=some (.slice e)) (hk:szOf P e=some k) (h0:isZero mx=true∧isZero hi=true∧(isZero lo=true∨lo=none)):CompR (.slice t x lo hi mx) (.sl00 (cO x))
 | fldA (s:TypeId) (x:Operand) (f:Nat) (fs:Array Field) (fd:Field) (n:Nat) (hu:P.underlying s=some (.struct fs)) (hf:fs[f]?=some fd) (hn:szOf P fd.type=some n) (h0:n≠0):CompR (.fieldAddr s x f) (.fldA fd.offset (cO x))
 | fld (t:TypeId) (x:Operand) (f:Nat) (fs:Array Field) (fd:Field) (n:Nat) (hu:P.underlying t=some (.struct fs)) (hf:fs[f]?=some fd) (hn:szOf P fd.type=some n) (hs:(P.underlying fd.type).isSome=true):CompR (.field t x f) (.fld fd.offset n (aggT P fd.type) (cO x))
 | ixA (t:TypeId) (x i:Operand) (e:TypeId) (k:Nat) (hu:P.underlying t=some (.slice e)) (hk:szOf P e=some k):CompR (.indexAddr t x i) (.ixA k (cO x) (cO i))
 | ixR (t:TypeId) (x i:Operand) (n:Nat) (e:TypeId) (k:Nat) (hu:P.underlying t=some (.array n e)) (hk:szOf P e=some k):CompR (.indexAddr t x i) (.ixR n k (cO x) (cO i))
 | ixS (t:TypeId) (x i:Operand) (hu:P.underlying t=some .string):CompR (.index t x i) (.ixS (cO x) (cO i))
 | ixG (t:TypeId) (x i:Operand) (n:Nat) (e:TypeId) (k:Nat) (hu:P.underlying t=some (.array n e)) (hk:szOf P e=some k) (hs:(P.underlying e).isSome=true):CompR (.index t x i) (.ixG n k (aggT P e) (cO x) (cO i))
 | ext (x:Operand) (i:Nat):CompR (.extract x i) (.ext (cO x) i)
 | call (c:Call) (f g:FuncId) (hc:c.callee= .value (.func f)) (hg:g % 1000=f):CompR (.call c) (.call g (c.args.toList.map cO))
 | callv (c:Call) (x:Operand) (hc:c.callee= .value x):CompR (.call c) (.callv (cO x) (c.args.toList.map cO))
 | lenS (c:Call) (t:TypeId) (x:Operand) (hc:c.callee= .builtin .len) (ht:c.argTypes[0]?=some t) (hx:c.args.toList=[x]) (hu:P.underlying t=some .string):CompR (.call c) (.len true (cO x))
 | lenC (c:Call) (t:TypeId) (x:Operand) (e:TypeId) (hc:c.callee= .builtin .len) (ht:c.argTypes[0]?=some t) (hx:c.args.toList=[x]) (hu:P.underlying t=some (.slice e)):CompR (.call c) (.len false (cO x))
 | lenK (c:Call) (t:TypeId) (x:Operand) (n:Nat) (hc:c.callee= .builtin .len) (ht:c.argTypes[0]?=some t) (hx:c.args.toList=[x]) (hu:(∃e,P.underlying t=some (.array n e))∨(∃a e,P.underlying t=some (.pointer a)∧P.underlying a=some (.array n e))):CompR (.call c) (.lenK n)
 | app (c:Call) (t tx:TypeId) (x y:Operand) (e:TypeId) (k by':Nat) (hc:c.callee= .builtin .append) (ht:c.argTypes.toList=[t,tx]) (hx:c.args.toList=[x,y]) (hu:P.underlying t=some (.slice e)) (hk:(∃e',P.underlying tx=some (.slice e'))∨P.underlying tx=some .string)
   (hs:szOf P e=some k) (hb:byOf P e=some by') (hk0:0<k) (hb0:0<by') (hz:(zOf P e).map (·.length)=some k):CompR (.call c) (.app k by' (cO x) (cO y))
 | mkm (t:TypeId) (kt et:TypeId) (hu:P.underlying t=some (.map kt et)):CompR (.makeMap t none) .mkm
 | mlk (t:TypeId) (x i:Operand) (ok:Bool) (kt et:TypeId) (ks:List Nat) (z:AV) (hu:P.underlying t=some (.map kt et)) (hf:flatT P 8 kt=some ks) (hz:zVal P et=some z):CompR (.lookup t x i ok) (.mlk (aggT P kt) ks z ok (cO x) (cO i))
 | mup (t:TypeId) (m k x:Operand) (kt et:TypeId) (ks:List Nat) (hu:P.underlying t=some (.map kt et)) (hf:flatT P 8 kt=some ks):CompR (.mapUpdate t m k x) (.mup (aggT P kt) ks (cO m) (cO k) (cO x))
 | ins (t:TypeId) (m k x:Operand) (kt et:TypeId) (ks:List Nat) (hu:P.underlying t=some (.map kt et)) (hf:flatT P 8 kt=some ks):CompR (.insert t m k x) (.mup (aggT P kt) ks (cO m) (cO k) (cO x))
 | mlen (c:Call) (t:TypeId) (x:Operand) (kt et:TypeId) (hc:c.callee= .builtin .len) (ht:c.argTypes[0]?=some t) (hx:c.args.toList=[x]) (hu:P.underlying t=some (.map kt et)):CompR (.call c) (.mlen (cO x))
 | mm (c:Call) (mx:Bool) (hc:c.callee= .builtin (if mx then .max else .min)):CompR (.call c) (.mm mx (c.args.toList.map cO))

variable {P}

theorem compOp_rel (pm:Pm)(o:Oper):compOp P pm o= .bad∨CompR P o.op (compOp P pm o):=by
 obtain⟨dst,op,type,pos,after,guard⟩:=o
 cases op
 case move x=>exact .inr (.mv x)
 case assign x=>exact .inr (.assign x)
 case pick c a b=>exact .inr (.pick c a b)
 case alloc e=>
  rcases dst with _ | d<;>simp only[compOp]
  all_goals
   split
   ·split
    ·exact .inr (.allocH e _ ‹_›)
    ·exact .inr (.allocR e _ ‹_›)
   ·exact .inl rfl
 case box e x=>
  rcases dst with _ | d<;>simp only[compOp]
  all_goals
   split
   ·split
    ·exact .inr (.boxH e _ x)
    ·exact .inr (.boxR e _ x)
   ·exact .inl rfl
 case build t parts=>
  simp only[compOp]
  split
  ·split
   ·split
    ·exact .inr (.build1 t parts _ _ _ ‹_› ‹_› ‹_› ‹_›)
    ·exact .inl rfl
   ·exact .inl rfl
  ·split
   ·split
    ·exact .inr (.build2 t parts _ _ _ _ _ ‹_› ‹_› ‹_› ‹_›)
    ·exact .inl rfl
   ·exact .inl rfl
  ·exact .inl rfl
 case buildSlice t n parts=>
  rcases dst with _ | d<;>simp only[compOp]
  all_goals
   split
   ·split
    ·split
     ·rename_i hc
      split
      ·split
       ·exact .inr (.buildH t n parts _ _ _ _ ‹_› ‹_› ‹_› hc.1 hc.2.1 hc.2.2 ‹_›)
       ·exact .inr (.buildS t n parts _ _ _ _ ‹_› ‹_› ‹_› hc.1 hc.2.1 hc.2.2 ‹_›)
      ·exact .inl rfl
     ·exact .inl rfl
    ·exact .inl rfl
   ·exact .inl rfl
 case load t a=>
  simp only[compOp]
  split
  ·split
   ·exact .inr (.ldA t a _ _ ‹_› ‹_›)
   ·exact .inl rfl
  ·rename_i h
   split
   ·exact .inr (.ld1 t a _ (by simpa using h) ‹_›)
   ·exact .inl rfl
 case store t a x=>
  simp only[compOp]
  split
  ·exact .inr (.st t a x _ _ ‹_›)
  ·exact .inl rfl
 case nilCheck x=>exact .inr (.nilc x)
 case binOp op t x y yt=>
  simp only[compOp]
  split
  ·exact .inr (.bini op t x y yt)
  ·exact .inr (.bins op t x y yt)
  ·split
   ·exact .inr (.eqb false t x y yt ‹_›)
   ·exact .inr (.eqb true t x y yt ‹_›)
   ·exact .inl rfl
  ·split
   ·exact .inr (.eqp false t x y yt _ ‹_›)
   ·exact .inr (.eqp true t x y yt _ ‹_›)
   ·exact .inl rfl
  ·split
   ·exact .inr (.eqf false t x y yt _ _ _ ‹_›)
   ·exact .inr (.eqf true t x y yt _ _ _ ‹_›)
   ·exact .inl rfl
  ·rename_i hu
   have ha:aggT P t=true:=by unfold aggT;rw[hu]
   split
   ·split
    ·exact .inl rfl
    ·rename_i hg
     split
     ·exact .inr (.eqa false t x y yt _ ha ‹_› (by simpa using hg))
     ·exact .inr (.eqa true t x y yt _ ha ‹_› (by simpa using hg))
     ·exact .inl rfl
   ·exact .inl rfl
  ·rename_i hu
   have ha:aggT P t=true:=by unfold aggT;rw[hu]
   split
   ·split
    ·exact .inl rfl
    ·rename_i hg
     split
     ·exact .inr (.eqa false t x y yt _ ha ‹_› (by simpa using hg))
     ·exact .inr (.eqa true t x y yt _ ha ‹_› (by simpa using hg))
     ·exact .inl rfl
   ·exact .inl rfl
  ·exact .inl rfl
 case unOp op t x=>
  cases op<;>first | exact .inr (.not t x) | exact .inr (.negi t x) | exact .inr (.xori t x) | exact .inl rfl
 case convert s d x=>
  simp only[compOp]
  split
  ·exact .inr (.cvi s d x _ _ ‹_› ‹_›)
  ·exact .inr (.cvs s d x ‹_› ‹_›)
  ·split
   ·exact .inr (.b2s s d x _ ‹_› ‹_› ‹_›)
   ·exact .inl rfl
  ·split
   ·exact .inr (.s2b s d x _ ‹_› ‹_› ‹_›)
   ·exact .inl rfl
  ·exact .inl rfl
 case makeFunc f first caps=>
  cases f
  case func f=>
   simp only[compOp]
   split
   ·rename_i h;exact .inr (.mkf f first caps h.1 h.2)
   ·exact .inl rfl
  all_goals exact .inl rfl
 case makeSlice t l c=>
  rcases dst with _ | d<;>simp only[compOp]
  all_goals
   split
   ·split
    ·split
     ·rename_i h
      obtain⟨h1,_,h3,h4⟩:=h
      exact .inr (.mks t _ _ _ _ _ _ (by rw[h1]) ‹_› ‹_› ‹_› ‹_› h3 h4)
     ·exact .inl rfl
    ·exact .inl rfl
   ·split
    ·split
     ·rename_i h
      obtain⟨h1,_,h3,h4⟩:=h
      exact .inr (.mks t _ _ _ _ _ _ (by rw[h1]) ‹_› ‹_› ‹_› ‹_› h3 h4)
     ·exact .inl rfl
    ·exact .inl rfl
   ·exact .inl rfl
 case slice t x lo hi mx=>
  simp only[compOp]
  split
  ·split
   ·exact .inr (.slS t x lo hi ‹_›)
   ·exact .inl rfl
  ·split
   ·exact .inr (.slC t x lo hi _ _ ‹_› ‹_›)
   ·split
    ·rename_i h
     simp only[Bool.and_eq_true,Bool.or_eq_true,Option.isNone_iff_eq_none]at h
     exact .inr (.sl00 t x lo hi _ _ _ ‹_› ‹_› ⟨h.1.1,h.1.2,h.2⟩)
    ·exact .inl rfl
   ·exact .inl rfl
  ·exact .inl rfl
 case fieldAddr s x f=>
  simp only[compOp]
  split
  ·split
   ·split
    ·split
     ·exact .inl rfl
     ·exact .inr (.fldA s x f _ _ _ ‹_› ‹_› ‹_› ‹_›)
    ·exact .inl rfl
   ·exact .inl rfl
  ·exact .inl rfl
 case field t x f=>
  simp only[compOp]
  split
  ·split
   ·split
    ·split
     ·exact .inr (.fld t x f _ _ _ ‹_› ‹_› ‹_› ‹_›)
     ·exact .inl rfl
    ·exact .inl rfl
   ·exact .inl rfl
  ·exact .inl rfl
 case indexAddr t x i=>
  simp only[compOp]
  split
  ·split
   ·exact .inr (.ixA t x i _ _ ‹_› ‹_›)
   ·exact .inl rfl
  ·split
   ·exact .inr (.ixR t x i _ _ _ ‹_› ‹_›)
   ·exact .inl rfl
  ·exact .inl rfl
 case index t x i=>
  simp only[compOp]
  split
  ·exact .inr (.ixS t x i ‹_›)
  ·split
   ·split
    ·exact .inr (.ixG t x i _ _ _ ‹_› ‹_› ‹_›)
    ·exact .inl rfl
   ·exact .inl rfl
  ·exact .inl rfl
 case makeMap t r=>
  cases r with
  | some r=>exact .inl rfl
  | none=>
   rcases dst with _ | d<;>simp only[compOp]
   all_goals
    split
    ·split
     ·exact .inr (.mkm t _ _ ‹_›)
     ·exact .inl rfl
    ·exact .inl rfl
 case lookup t x i ok=>
  simp only[compOp]
  split
  ·split
   ·exact .inr (.mlk t x i ok _ _ _ _ ‹_› ‹_› ‹_›)
   ·exact .inl rfl
  ·exact .inl rfl
 case mapUpdate t m k x=>
  simp only[compOp]
  split
  ·split
   ·exact .inr (.mup t m k x _ _ _ ‹_› ‹_›)
   ·exact .inl rfl
  ·exact .inl rfl
 case insert t m k x=>
  simp only[compOp]
  split
  ·split
   ·exact .inr (.ins t m k x _ _ _ ‹_› ‹_›)
   ·exact .inl rfl
  ·exact .inl rfl
 case extract x i=>exact .inr (.ext x i)
 case call c=>
  simp only[compOp]
  split
  ·rename_i f hc
   split
   ·rename_i hf
    cases dst with
    | none=>exact .inr (.call c f f hc (Nat.mod_eq_of_lt hf))
    | some d=>
     dsimp only
     split
     ·exact .inr (.call c f (f+1000) hc ((Nat.add_mod_right f 1000).trans (Nat.mod_eq_of_lt hf)))
     ·exact .inr (.call c f f hc (Nat.mod_eq_of_lt hf))
   ·exact .inl rfl
  ·rename_i x _ hc;exact .inr (.callv c x hc)
  ·split
   ·split
    ·exact .inr (.lenS c _ _ ‹_› ‹_› ‹_› ‹_›)
    ·exact .inr (.lenC c _ _ _ ‹_› ‹_› ‹_› ‹_›)
    ·exact .inr (.mlen c _ _ _ _ ‹_› ‹_› ‹_› ‹_›)
    ·exact .inr (.lenK c _ _ _ ‹_› ‹_› ‹_› (.inl ⟨_,‹_›⟩))
    ·split
     ·exact .inr (.lenK c _ _ _ ‹_› ‹_› ‹_› (.inr ⟨_,_,‹_›,‹_›⟩))
     ·exact .inl rfl
    ·exact .inl rfl
   ·exact .inl rfl
  ·split
   ·split
    ·split
     ·split
      ·rename_i h
       exact .inr (.app c _ _ _ _ _ _ _ ‹_› ‹_› ‹_› ‹_› (.inl ⟨_,‹_›⟩) ‹_› ‹_› h.1 h.2.1 h.2.2)
      ·exact .inl rfl
     ·exact .inl rfl
    ·split
     ·split
      ·rename_i h
       exact .inr (.app c _ _ _ _ _ _ _ ‹_› ‹_› ‹_› ‹_› (.inr ‹_›) ‹_› ‹_› Nat.one_pos h.1 h.2)
      ·exact .inl rfl
     ·exact .inl rfl
    ·exact .inl rfl
   ·exact .inl rfl
  ·exact .inr (.mm c true ‹_›)
  ·exact .inr (.mm c false ‹_›)
  ·exact .inl rfl
 all_goals exact .inl rfl
end
end Go.Hm

namespace Go.Hm
open Go Go.RowKit

def CallR (φ:Phi)(F:Nat→Nat→Prop)(H:Heap)(w:World)(r:AV)(H':Heap)(v:Value)(w':World):Prop:=
 ∃φ' F',VRel φ' F' H' w' r v∧SR φ' F' H' w'∧Ext φ F H w φ' F' H' w'∧Chg w w' (fun k=>∃b,live H b∧(φ b).1=k)∧
  (∀b,live H' b→(live H b∧φ b=φ' b)∨w.heap.size≤(φ' b).1)∧(∀k o,F' k o→F k o∨w.heap.size≤k)

def Enters (P : Program) (f : FuncId) : Prop := ∃ fn, P.funcs[f]? = some fn ∧ fn.name ≠ "runtime.NumGoroutine" ∧ fn.body.isSome = true

def ARel (φ:Phi)(F:Nat→Nat→Prop)(H:Heap)(w:World)(as:List AV)(vs:List Value):Prop:=
 vs.length=as.length∧∀(i:Nat) a v,as[i]?=some a→vs[i]?=some v→VRel φ F H w a v

def OrcOk (P:Program)(C:Orc):Prop:=∀lk lim f as H r H',C lk lim f as H=some (r,H')→Enters P (f % 1000)∧
 ∀φ F w vs,SR φ F H w→ARel φ F H w as vs→Calls P (f % 1000) vs.toArray w (fun e w'=>∃v,e= .returned v∧CallR φ F H w r H' v w')

section
variable {P:Program}{φ0:Phi}{F0:Nat→Nat→Prop}{H0:Heap}{w0:World}{φ:Phi}{F:Nat→Nat→Prop}{H:Heap}{w:World}{β:Nat→Nat}{env:Env}{act:Act}{T:TT}

theorem s_rd (f:Full φ0 F0 H0 w0 φ F H w β env act T){dst:Option Nat}{op:Op}{aop:AOp}{v:AV}{env':Env}(h:CompR P op aop)(hd:∀d,dst=some d→d<T)(hr:rdOp aop env H=some v)(hp:put dst v env=some env'):
  Sound P φ0 F0 H0 w0 T act w dst op H env':=by
 cases h with
 | mv x=>simp only[rdOp,Option.some.injEq]at hr;subst hr;exact s_pure f hd hp (p_mv f.st x)
 | assign x=>simp only[rdOp,Option.some.injEq]at hr;subst hr;exact s_pure f hd hp (p_assign f.st x)
 | pick c a b=>exact s_pure f hd hp (p_pick f.st c a b hr)
 | allocR e z hz=>
  simp only[rdOp,Option.some.injEq]at hr;subst hr
  obtain⟨zv,hof,hrun⟩:=run_allocI hz w
  intro type pos after guard next Q hk
  unfold Oper.wp
  have hrun':(execOp act.eval { dst,op:=.alloc e,type,pos,after,guard }).run P w= .ok (.value (.pointer (some ⟨w.heap.size,0,none⟩))) (w.alloc (.cells zv.cells e)):=by
   simp only[execOp,Sem.run_bind,hrun];rfl
  rw[hrun']
  cases dst with
  | none=>
   simp only[put,Option.some.injEq]at hp;subst hp
   exact hk _ _ (f_grow f (dst:=none) (v:=.und) (cv:=undef) hd rfl ((Below.refl _ _).alloc (Nat.le_refl _) _) (fun _ _ h=>h) (fun _ _ h=>.inl h) rfl)
  | some d=>exact hk _ _ (f_box f (hd d rfl) hp (of1s_rel hof))
 | boxR e n x=>
  simp only[rdOp]at hr
  split at hr
  case h_2=>simp at hr
  rename_i cs hcs
  split at hr
  case isFalse=>simp at hr
  simp only[Option.some.injEq]at hr;subst hr
  obtain⟨hcl,_⟩:=cellsV_rel (ev_rel f.st x) hcs
  intro type pos after guard next Q hk
  unfold Oper.wp
  have hrun':(execOp act.eval { dst,op:=.box e x,type,pos,after,guard }).run P w= .ok (.value (.pointer (some ⟨w.heap.size,0,none⟩))) (w.alloc (.cells (act.eval x).cells e)):=by
   simp only[execOp,Sem.run_bind,run_boxI];rfl
  rw[hrun']
  cases dst with
  | none=>
   simp only[put,Option.some.injEq]at hp;subst hp
   exact hk _ _ (f_grow f (dst:=none) (v:=.und) (cv:=undef) hd rfl ((Below.refl _ _).alloc (Nat.le_refl _) _) (fun _ _ h=>h) (fun _ _ h=>.inl h) rfl)
  | some d=>exact hk _ _ (f_box f (hd d rfl) hp hcl)
 | build1 t parts fs z l hu hz ha hl=>exact s_pure f hd hp (p_build_struct f.st t parts hu hz ha hl hr)
 | build2 t parts n e k z l hu hz hk hl=>exact s_pure f hd hp (p_build_array f.st t parts hu hz hk hl hr)
 | buildS t n parts e k z l hu hk hz hn hzl hk0 hl=>exact s_buildS f hd hu hk hz hn hzl hl hr hp
 | ldA t a l n ha hn=>
  obtain⟨d,hu,hrow⟩:=aggT_run ha
  exact s_pure f hd hp (p_ldA f.st t a hu hrow hn hr)
 | ld1 t a l ha hu=>
  obtain⟨d,hu⟩:=Option.isSome_iff_exists.1 hu
  exact s_pure f hd hp (p_ld1 f.st t a hu (by rw[←aggT_eq hu];exact ha) hr)
 | nilc x=>exact s_pure f hd hp (p_nilc f.st x hr)
 | bini op t x y yt=>exact s_pure f hd hp (p_bini f.st op t x y yt hr)
 | bins op t x y yt=>exact s_pure f hd hp (p_bins f.st op t x y yt hr)
 | eqb neg t x y yt hu=>exact s_pure f hd hp (p_eqb f.st neg t x y yt hu hr)
 | eqp neg t x y yt el hu=>exact s_pure f hd hp (p_eqp f.st neg t x y yt hu hr)
 | eqf neg t x y yt a b c hu=>exact s_pure f hd hp (p_eqf f.st neg t x y yt hu hr)
 | eqa neg t x y yt ks ha hk hg=>exact s_pure f hd hp (p_eqa f.st neg t x y yt ha hk hg hr)
 | not t x=>exact s_pure f hd hp (p_not f.st t x hr)
 | negi t x=>exact s_pure f hd hp (p_negi f.st t x hr)
 | xori t x=>exact s_pure f hd hp (p_xori f.st t x hr)
 | cvi s d x k k' hs hdd=>exact s_pure f hd hp (p_cvi f.st s d x hs hdd hr)
 | cvs s d x hs hdd=>
  simp only[rdOp]at hr
  split at hr
  ·rename_i str hx
   simp only[bnd,Option.some.injEq]at hr
   have hv:v= .val (.string str):=by
    rw[←hr]
    congr 2
    simp
   subst hv
   exact s_pure f hd hp (p_cvs f.st s d x hs hdd hx)
  ·simp at hr
 | b2s s d x e hs he hdd=>exact s_pure f hd hp (p_b2s f.st s d x hs he hdd hr)
 | s2b s d x e hs hdd he=>exact s_s2b f hd hs hdd he hr hp
 | mkf g first caps h0 hf=>exact s_pure f hd hp (p_mkf f.st g first caps hf h0 hr)
 | slS t x lo hi hu=>exact s_pure f hd hp (p_slS f.st t x lo hi hu hr)
 | slC t x lo hi e k hu hk=>exact s_pure f hd hp (p_slC f.st t x lo hi hu hk hr)
 | sl00 t x lo hi mx e k hu hk h0=>exact s_pure f hd hp (p_sl00 f.st t x lo hi mx hu hk h0 hr)
 | fldA s x g fs fd n hu hf hn h0=>exact s_pure f hd hp (p_fldA f.st s x g hu hf hn h0 hr)
 | fld t x g fs fd n hu hf hn hs=>
  obtain⟨d,hs⟩:=Option.isSome_iff_exists.1 hs
  exact s_pure f hd hp (p_fld f.st t x g hu hf hn hs hr)
 | ixA t x i e k hu hk=>exact s_pure f hd hp (p_ixA f.st t x i hu hk hr)
 | ixR t x i n e k hu hk=>exact s_pure f hd hp (p_ixR f.st t x i hu hk hr)
 | ixS t x i hu=>exact s_pure f hd hp (p_ixS f.st t x i hu hr)
 | ixG t x i n e k hu hk hs=>
  obtain⟨d,hs⟩:=Option.isSome_iff_exists.1 hs
  exact s_pure f hd hp (p_ixG f.st t x i hu hk hs hr)
 | ext x i=>exact s_pure f hd hp (p_ext f.st x i hr)
 | lenS c t x hc ht hx hu=>obtain⟨_,_,_⟩:=c;dsimp only at hc ht hx;subst hc;exact s_pure f hd hp (p_lenS f.st t x hu hx ht hr)
 | lenC c t x e hc ht hx hu=>obtain⟨_,_,_⟩:=c;dsimp only at hc ht hx;subst hc;exact s_pure f hd hp (p_lenC f.st t x hu hx ht hr)
 | lenK c t x n hc ht hx hu=>
  obtain⟨_,_,_⟩:=c;dsimp only at hc ht hx;subst hc
  simp only[rdOp,Option.some.injEq]at hr;subst hr
  exact s_pure f hd hp (p_lenK t x n hu hx ht)
 | mlk t x i ok kt et ks z hu hf hz=>exact s_pure f hd hp (p_mlk f.st t x i ok hu hf hz hr)
 | mlen c t x kt et hc ht hx hu=>obtain⟨_,_,_⟩:=c;dsimp only at hc ht hx;subst hc;exact s_pure f hd hp (p_mlen f.st t x hu hx ht hr)
 | mm c mx hc=>obtain⟨_,_,_⟩:=c;dsimp only at hc hr;subst hc;exact s_pure f hd hp (p_mm f.st mx hr)
 | _=>simp[rdOp]at hr

theorem s_mk (f:Full φ0 F0 H0 w0 φ F H w β env act T){op:Op}{aop:AOp}{v:AV}{x:HB}{b:Nat}(h:CompR P op aop)(hm:mkOp aop env b=some (v,x)):
  ∃m:Sem Value,(∀dst type pos after guard,execOp act.eval { dst,op,type,pos,after,guard }=(do pure (.value (←m))))∧Makes P φ F H w β m b v x:=by
 cases h with
 | allocH e z hz=>
  simp only[mkOp,Option.some.injEq,Prod.mk.injEq]at hm
  obtain⟨rfl,rfl⟩:=hm
  exact⟨_,fun _ _ _ _ _=>rfl,(m_alloc hz b).mk⟩
 | boxH e n x=>
  simp only[mkOp]at hm
  split at hm
  case h_2=>simp at hm
  rename_i cs' hcs
  split at hm
  case isFalse=>simp at hm
  rename_i hn
  simp only[Option.some.injEq,Prod.mk.injEq]at hm
  obtain⟨rfl,rfl⟩:=hm
  exact⟨_,fun _ _ _ _ _=>rfl,(m_box f.st e x hcs hn b).mk⟩
 | buildH t n parts e k z l hu hk hz hn hzl hk0 hl=>
  simp only[mkOp]at hm
  split at hm
  case h_2=>simp at hm
  rename_i cs' hcs
  split at hm
  case isFalse=>simp at hm
  rename_i hlen
  simp only[Option.some.injEq,Prod.mk.injEq]at hm
  obtain⟨rfl,rfl⟩:=hm
  exact⟨_,fun _ _ _ _ _=>rfl,(m_build f.st hu hk hz hn hzl hk0 hl hcs hlen b).mk⟩
 | mks t l c e k by' z hlc hu hk hb hz hk0 hb0=>
  simp only[mkOp]at hm
  split at hm
  case h_2=>simp at hm
  rename_i n hx
  split at hm
  case isFalse=>simp at hm
  rename_i hc
  simp only[Option.some.injEq,Prod.mk.injEq]at hm
  obtain⟨rfl,rfl⟩:=hm
  subst hlc
  have hv:=ev_val f.st hx
  exact⟨_,fun _ _ _ _ _=>rfl,(m_mks hu hk hb hz hv hv hc.1 hc.2.1 hc.2.2 hk0 hb0 b).mk⟩
 | mkm t kt et hu=>
  simp only[mkOp,Option.some.injEq,Prod.mk.injEq]at hm
  obtain⟨rfl,rfl⟩:=hm
  exact⟨_,fun _ _ _ _ _=>rfl,m_mkm t b⟩
 | _=>simp[mkOp]at hm

theorem s_ex (f:Full φ0 F0 H0 w0 φ F H w β env act T){dst:Option Nat}{op:Op}{aop:AOp}{lk lim base:Nat}{env':Env}{H':Heap}(h:CompR P op aop)(hd:∀d,dst=some d→d<T)(he:exOp lk lim base dst aop env H=some (env',H')):
  Sound P φ0 F0 H0 w0 T act w dst op H' env':=by
 cases h with
 | st t a x l n hn=>exact s_st f hn he
 | app c t tx x y e k by' hc ht hx hu hk hs hb hk0 hb0 hz=>
  obtain⟨z,hz,hzl⟩:=Option.map_eq_some_iff.1 hz
  exact s_app f hd hc ht hx hu hk hs hb hk0 hb0 (by rw[hz];rfl) (fun z' hz'=>by rw[hz]at hz';cases hz';exact hzl) he
 | mup t m k x kt et ks hu hf=>exact(s_mup f hu hf he).1
 | ins t m k x kt et ks hu hf=>exact(s_mup f hu hf he).2
 | _=>simp[exOp]at he

theorem ORel.arg {a:AV}{v:Value}(h:ORel φ F H w β a v)(ha:argOk a=true):VRel φ F H w a v:=by
 cases a<;>first | exact h | simp[argOk,one]at ha

theorem run_callFunc {f:FuncId}(h:Enters P f)(args:Array Value)(w:World):(callFunc f args).run P w= .ok (.enter f args) w:=by
 obtain⟨fn,h1,h2,h3⟩:=h
 simp only[callFunc,Sem.run_bind,run_program,Result.andThen_ok,h1]
 have hb:fn.body.isNone=false:=by cases hb:fn.body<;>simp_all
 have hn : (fn.name == "runtime.NumGoroutine") = false := by simpa using h2
 simp only[hn,hb]
 rfl

theorem s_args (f:Full φ0 F0 H0 w0 φ F H w β env act T){op:Op}{aop:AOp}{g:FuncId}{as:List AV}(h:CompR P op aop)(hc:clArgs aop env=some (g,as))(ha:as.all argOk=true)(hE:Enters P (g % 1000)):
  ∃vs,ARel φ F H w as vs∧∀dst type pos after guard,(execOp act.eval { dst,op,type,pos,after,guard }).run P w= .ok (.enter (g % 1000) vs.toArray) w:=by
 have row:∀(l:List Operand),(l.map fun x=>ev env (cO x)).all argOk=true→ARel φ F H w (l.map fun x=>ev env (cO x)) (l.map act.eval):=fun l hl=>
  ⟨by simp,fun i a v hi hv=>by
   simp only[List.getElem?_map]at hi hv
   cases hx:l[i]? with
   | none=>rw[hx]at hi;simp at hi
   | some x=>
    rw[hx]at hi hv
    simp at hi hv
    subst hi;subst hv
    refine(ev_rel f.st x).arg ?_
    rw[List.all_eq_true]at hl
    exact hl _ (List.mem_map.2 ⟨x,List.mem_of_getElem? hx,rfl⟩)⟩
 have mm:∀(l:List Operand),(l.map cO).map (ev env)=l.map fun x=>ev env (cO x):=fun l=>by simp[List.map_map,Function.comp_def]
 cases h with
 | call c f' g' hcc hg=>
  simp only[clArgs,Option.some.injEq,Prod.mk.injEq]at hc
  obtain⟨rfl,rfl⟩:=hc
  rw[mm]at ha ⊢
  refine⟨_,row _ ha,fun dst type pos after guard=>?_⟩
  subst hg
  have hr:=run_callFunc hE (c.args.map act.eval) w
  have hm:(c.args.toList.map act.eval).toArray=c.args.map act.eval:=by apply Array.ext';simp
  rw[hm]
  simp only[execOp,resolve,hcc,Deferred.ofValue,Act.eval,Sem.run_bind,Sem.run_pure,Result.andThen_ok,invoke]
  simpa using hr
 | callv c x hcc=>
  simp only[clArgs]at hc
  split at hc
  case h_2=>simp at hc
  rename_i f' cap hx
  simp only[Option.some.injEq,Prod.mk.injEq]at hc
  obtain⟨rfl,rfl⟩:=hc
  rw[mm]at ha ⊢
  rw[List.all_append,Bool.and_eq_true]at ha
  have hfn:VRel φ F H w (.fn f' cap) (act.eval x):=ev_of f.st hx
  generalize hfv:act.eval x=fv at hfn
  cases hfn with
  | one hfn=>
  cases hfn with
  | fn _ _ cvs hl hrel=>
  have hrow:=row _ ha.1
  refine⟨c.args.toList.map act.eval++cvs,⟨by simp[hl],fun i a v hi hv=>?_⟩,fun dst type pos after guard=>?_⟩
  ·rw[List.getElem?_append]at hi hv
   simp only[List.length_map]at hi hv
   split at hi
   ·rename_i hlt
    rw[if_pos hlt]at hv
    exact hrow.2 i a v hi hv
   ·rename_i hlt
    rw[if_neg hlt]at hv
    exact .one (hrel _ a v hi hv)
  ·have hr:=run_callFunc hE (c.args.map act.eval++cvs.toArray) w
   have hm:(c.args.toList.map act.eval++cvs).toArray=c.args.map act.eval++cvs.toArray:=by apply Array.ext';simp
   rw[hm]
   simp only[execOp,resolve,hcc,hfv,Deferred.ofValue,Sem.run_bind,Sem.run_pure,Result.andThen_ok,invoke]
   simpa using hr
 | _=>simp[clArgs]at hc

theorem f_call (f:Full φ0 F0 H0 w0 φ F H w β env act T){dst:Option Nat}{r:AV}{H':Heap}{v:Value}{w':World}{env':Env}(hd:∀d,dst=some d→d<T)(hp:put dst r env=some env')(h:CallR φ F H w r H' v w'):
  Post φ0 F0 H0 w0 H' env' T (act.put dst v) w':=by
 obtain⟨φ',F',hv,sr,e,chg,hphi,hF⟩:=h
 have st':=f.st.mono e sr (fun t cs ht=>⟨chg.block _ (box_lt f.st ht) (fun⟨b,hl,hb⟩=>f.st.bphi t cs b ht hl hb.symm),fun b hl=>by
  rcases hphi b hl with⟨hl0,he⟩ | h
  ·rw[←he];exact f.st.bphi t cs b ht hl0
  ·have:=box_lt f.st ht;omega,fun o ho=>by
  rcases hF _ o ho with h | h
  ·exact f.st.bF t cs o ht h
  ·have:=box_lt f.st ht;omega⟩)
 have hv':ORel φ' F' H' w' β r v:=ORel.of hv
 exact⟨φ',F',β,f.next chg (fun k hk=>.inl hk) (st'.put1 hd hp hv') e hphi (fun t cs ht=>.inl ⟨cs,find_put hp hv'.notBox ht,rfl⟩) (by cases dst<;>rfl) hF⟩

theorem callR_lift {base:Nat}{r:AV}{H1:Heap}{v:Value}{w':World}(sr0:SR φ F H w)(hlen:H1.length=base∨H.length=base)(hpre:∀b,b<base→H1[b]?=H[b]?)(h:CallR φ F (H.take base) w r H1 v w'):
  CallR φ F H w r (H++H1.drop base) v w':=by
 by_cases hl:H.length=base
 ·have h1:H.take base=H:=by rw[←hl,List.take_length]
  have h2:H++H1.drop base=H1:=by
   have:H1.take base=H:=by
    apply List.ext_getElem?
    intro j
    rw[List.getElem?_take]
    split
    ·rename_i hj;exact hpre j hj
    ·rw[List.getElem?_eq_none (by omega)]
   rw[←this,List.take_append_drop]
  rw[h1]at h
  rw[h2]
  exact h
 ·have hl1:H1.length=base:=hlen.resolve_right hl
  have h1:H1=H.take base:=by
   apply List.ext_getElem?
   intro j
   rw[List.getElem?_take]
   split
   ·rename_i hj;exact hpre j hj
   ·rw[List.getElem?_eq_none (by omega)]
  subst h1
  have h2:H++(H.take base).drop base=H:=by simp
  rw[h2]
  obtain⟨φ',F',hv,sr,e,chg,hphi,hF⟩:=h
  have tk:∀(b:Nat) x,b<base→(H[b]?=some x↔(H.take base)[b]?=some x):=fun b x hb=>by rw[List.getElem?_take,if_pos hb]
  have tk':∀(b:Nat) x,(H.take base)[b]?=some x→b<base∧H[b]?=some x:=fun b x hx=>by
   rw[List.getElem?_take]at hx
   split at hx
   ·exact⟨‹_›,hx⟩
   ·simp at hx
  obtain⟨φ2,hφ1,hφ2⟩:∃φ2:Phi,(∀b,b<base→φ2 b=φ' b)∧∀b,¬b<base→φ2 b=φ b:=
   ⟨fun b=>if b<base then φ' b else φ b,fun b h=>if_pos h,fun b h=>if_neg h⟩
  have same:∀(b:Nat) cs,H[b]?=some (.cells cs)→φ2 b=φ b:=fun b cs hc=>by
   by_cases hlt:b<base
   ·obtain⟨cs',h3,_,h5⟩:=e.len b cs ((tk b _ hlt).1 hc)
    rw[(tk b _ hlt).1 hc]at h3
    cases h3
    rw[hφ1 b hlt,h5 rfl]
   ·exact hφ2 b hlt
  have sameM:∀(b:Nat) es,H[b]?=some (.map es)→φ2 b=φ b:=fun b es hc=>by
   by_cases hlt:b<base
   ·rw[hφ1 b hlt,(e.map b es ((tk b _ hlt).1 hc)).2]
   ·exact hφ2 b hlt
  have E1:Ext φ' F' (H.take base) w' φ2 F' H w':=⟨fun b cs hc=>⟨cs,(tk' b _ hc).2,Nat.le_refl _,fun _=>hφ1 b (tk' b _ hc).1⟩,fun b es hc=>⟨⟨es,(tk' b _ hc).2⟩,hφ1 b (tk' b _ hc).1⟩,fun k o hk=>⟨hk,rfl⟩,Wm.refl _⟩
  have E2:Ext φ F H w φ2 F' H w':=⟨fun b cs hc=>⟨cs,hc,Nat.le_refl _,fun _=>same b cs hc⟩,fun b es hc=>⟨⟨es,hc⟩,sameM b es hc⟩,e.frz,e.wm⟩
  have lvt:∀b,b<base→live H b→live (H.take base) b:=fun b hb ⟨cs,h1,h2⟩=>⟨cs,(tk b _ hb).1 h1,h2⟩
  have lvo:∀b,live (H.take base) b→live H b:=fun b ⟨cs,h1,h2⟩=>⟨cs,(tk' b _ h1).2,h2⟩
  have sm:∀b,live H b→φ2 b=φ b:=fun b ⟨x,h1,h2⟩=>by
   cases x with
   | hole=>exact h2.elim
   | cells cs=>exact same b cs h1
   | map es=>exact sameM b es h1
  refine⟨φ2,F',hv.mono E1,⟨fun b cs hc hne=>?_,fun b es hc=>?_,fun b b' l1 l2 he=>?_,fun b o hlv hf=>?_,sr.fsz⟩,E2,⟨chg.os,chg.tape,chg.output,chg.size,fun k hk hn=>chg.block k hk (fun⟨b,h1,h2⟩=>hn ⟨b,lvo b h1,h2⟩)⟩,fun b hlv=>.inl ⟨hlv,(sm b hlv).symm⟩,hF⟩
  ·by_cases hlt:b<base
   ·obtain⟨arr,ty,ha,hcc⟩:=sr.blk b cs ((tk b _ hlt).1 hc) hne
    refine⟨arr,ty,by rw[hφ1 b hlt];exact ha,fun i a hi=>?_⟩
    rw[hφ1 b hlt]
    obtain⟨u,hu,hr⟩:=hcc i a hi
    exact⟨u,hu,hr.mono E1⟩
   ·obtain⟨arr,ty,ha,hcc⟩:=sr0.blk b cs hc hne
    refine⟨arr,ty,?_,fun i a hi=>?_⟩
    ·rw[hφ2 b hlt,chg.block _ (live_lt sr0 ⟨_,hc,hne⟩) (fun⟨b',h1,h3⟩=>?_)]
     ·exact ha
     ·have:=sr0.inj b' b (lvo b' h1) ⟨_,hc,hne⟩ h3
      obtain⟨cs',h4,_⟩:=h1
      have:=(tk' b' _ h4).1
      omega
    ·rw[hφ2 b hlt]
     obtain⟨u,hu,hr⟩:=hcc i a hi
     exact⟨u,hu,hr.mono E2⟩
  ·by_cases hlt:b<base
   ·obtain⟨ces,clk,ha,hm⟩:=sr.mblk b es ((tk b _ hlt).1 hc)
    exact⟨ces,clk,by rw[hφ1 b hlt];exact ha,hm.mono E1⟩
   ·obtain⟨ces,clk,ha,hm⟩:=sr0.mblk b es hc
    refine⟨ces,clk,?_,hm.mono E2⟩
    rw[hφ2 b hlt,chg.block _ (live_lt sr0 ⟨_,hc,trivial⟩) (fun⟨b',h1,h3⟩=>?_)]
    ·exact ha
    ·have:=sr0.inj b' b (lvo b' h1) ⟨_,hc,trivial⟩ h3
     obtain⟨cs',h4,_⟩:=h1
     have:=(tk' b' _ h4).1
     omega
  ·rw[sm b l1,sm b' l2]at he
   exact sr0.inj b b' l1 l2 he
  ·rw[sm b hlv]at hf
   rcases hF _ o hf with h | h
   ·exact sr0.phiF b o hlv h
   ·have:=live_lt sr0 hlv;omega

theorem s_call {g:FuncId}{vs:List Value}{dst:Option Nat}{op:Op}{env':Env}{H':Heap}(hrun:∀dst type pos after guard,(execOp act.eval { dst,op,type,pos,after,guard }).run P w= .ok (.enter (g % 1000) vs.toArray) w)
  (hcall:Calls P (g % 1000) vs.toArray w (fun e w'=>∃v,e= .returned v∧Post φ0 F0 H0 w0 H' env' T (act.put dst v) w')):Sound P φ0 F0 H0 w0 T act w dst op H' env':=by
 intro type pos after guard next Q hk
 unfold Oper.wp
 rw[hrun]
 exact Calls.mono hcall (fun e w' ⟨v,he,hpost⟩=>by subst he;exact hk _ _ hpost)
end
end Go.Hm

namespace Go.Hm
open Go Go.RowKit

theorem find_restrict (keep:List Nat)(env:Env)(t:Nat):find (restrict keep env) t=find env t∨find (restrict keep env) t= .dead:=by
 induction keep with
 | nil=>exact .inr rfl
 | cons k r ih=>
  simp only[restrict,List.map_cons,find]
  by_cases h:k=t
  ·subst h;exact .inl (if_pos rfl)
  ·rw[if_neg h];exact ih

section
variable {P:Program}{φ0:Phi}{F0:Nat→Nat→Prop}{H0:Heap}{w0:World}{φ:Phi}{F:Nat→Nat→Prop}{H:Heap}{w:World}{β:Nat→Nat}{env:Env}{act:Act}{T:TT}{C:Orc}{lk lim:Nat}{pm:Pm}{ops:Array Oper}{Q:Exit→Act→World→Prop}

theorem Full.sub (f:Full φ0 F0 H0 w0 φ F H w β env act T){env':Env}(h:∀t,find env' t=find env t∨find env' t= .dead):Full φ0 F0 H0 w0 φ F H w β env' act T:=by
 have bx:∀{t cs},find env' t= .box cs→find env t= .box cs:=fun {t cs} ht=>by
  rcases h t with h | h
  ·rw[←h];exact ht
  ·rw[h]at ht;cases ht
 refine⟨⟨f.st.sr,f.st.size,fun t=>?_,fun t cs b ht=>f.st.bphi t cs b (bx ht),fun t t' cs cs' h1 h2=>f.st.binj t t' cs cs' (bx h1) (bx h2),fun t cs o ht=>f.st.bF t cs o (bx ht)⟩,f.ext,f.chg,f.phi,fun t cs ht=>f.beta t cs (bx ht),f.dfr,f.frn⟩
 rcases h t with h | h
 ·rw[h];exact f.st.slot t
 ·rw[h];trivial

theorem compI_ok (o:Oper):compI P pm ops o=badI∨((compI P pm ops o).dst=o.dst∧(compI P pm ops o).op=compOp P pm o∧(∀d,o.dst=some d→d<pm.T)∧grdOf ops o.guard=some (compI P pm ops o).grd):=by
 unfold compI
 split
 ·exact .inl rfl
 ·rename_i h
  have hd:∀d,o.dst=some d→d<pm.T:=fun d hd=>by
   rw[hd]at h
   simp only[bigDst,decide_eq_true_eq]at h
   exact Nat.lt_of_not_le h
  split
  ·rename_i g hg;exact .inr ⟨rfl,rfl,hd,hg⟩
  ·exact .inl rfl

theorem guard_ok (s:St φ F H w β env act T){o:Oper}{i:AI}{b:Bool}(hg:grdOf ops o.guard=some i.grd)(hb:guardI i env=some b):Region.wanted o (yielded ops act.tmps)=b:=by
 unfold Region.wanted
 unfold guardI at hb
 cases ho:o.guard with
 | none=>
  rw[ho]at hg
  simp only[grdOf,Option.some.injEq]at hg
  rw[←hg]at hb
  simpa using hb
 | some p=>
  obtain⟨j,want⟩:=p
  rw[ho]at hg
  simp only[grdOf]at hg
  split at hg
  case h_2=>simp at hg
  rename_i t ht
  simp only[Option.some.injEq]at hg
  rw[←hg]at hb
  have hy:yielded ops act.tmps j=match act.tmps[t]? with
   | some (.bool b)=>some b
   | _=>none:=by
   unfold yielded
   rw[ht];rfl
  have hs:=s.slot t
  dsimp only at hb ⊢
  rw[hy]
  split at hb
  ·rename_i b' hf
   rw[hf]at hs
   have hv:=(VRel.inv_val (show VRel φ F H w _ _ from hs)).1
   simp only[Option.some.injEq]at hb
   have:act.tmps[t]?=some (.bool b'):=by
    rw[Array.getD_eq_getD_getElem?]at hv
    cases h1:act.tmps[t]? with
    | none=>rw[h1]at hv;simp[undef]at hv
    | some x=>rw[h1]at hv;simpa using hv
   rw[this]
   simp[←hb]
  ·rename_i hf
   rw[hf]at hs
   have hv:act.tmps.getD t undef=undef:=hs
   simp only[Option.some.injEq]at hb
   rw[Array.getD_eq_getD_getElem?]at hv
   cases h1:act.tmps[t]? with
   | none=>simp[←hb]
   | some x=>
    rw[h1]at hv
    simp only[Option.getD_some]at hv
    subst hv
    simp[undef,←hb]
  ·simp at hb

theorem wpOp_of (f:Full φ0 F0 H0 w0 φ F H w β env act T){o:Oper}{idx:Nat}{i:AI}{b:Bool}{env':Env}{H':Heap}{K:Act→World→Prop}(ho:ops[idx]?=some o)(hd:∀d,o.dst=some d→d<T)(hg:grdOf ops o.guard=some i.grd)(hb:guardI i env=some b)
  (h1:b=true→Sound P φ0 F0 H0 w0 T act w o.dst o.op H' env') (h2:b=false→put o.dst .und env=some env'∧H'=H) (hK:∀act' w',Post φ0 F0 H0 w0 H' env' T act' w'→K act' w'):wpOp P ops Q idx K act w:=by
 have hw:=guard_ok f.st hg hb
 unfold wpOp
 rw[ho]
 dsimp only
 rw[hw]
 cases b with
 | true=>
  rw[if_pos rfl]
  exact .inl (h1 rfl o.type o.pos o.after o.guard K Q hK)
 | false=>
  rw[if_neg (by simp)]
  obtain⟨hp,rfl⟩:=h2 rfl
  exact hK _ _ (f_pure f hd hp rfl)

theorem act_sound (hC:OrcOk P C)(f:Full φ0 F0 H0 w0 φ F H w β env act T){o:Oper}{env':Env}{H':Heap}(hd:∀d,o.dst=some d→d<T)(h:actOp C lk lim o.dst (compOp P pm o) env H=some (env',H')):
  Sound P φ0 F0 H0 w0 T act w o.dst o.op H' env':=by
 rcases compOp_rel (P:=P) pm o with hbad | hrel
 ·rw[hbad]at h
  simp[actOp,cls,rdOp]at h
 ·unfold actOp at h
  split at h
  ·exact s_ex f hrel hd h
  ·exact s_ex f hrel hd h
  ·split at h
   case h_2=>simp at h
   rename_i v cs hm
   split at h
   case h_2=>simp at h
   rename_i env2 hp
   simp only[Option.some.injEq,Prod.mk.injEq]at h
   obtain⟨rfl,rfl⟩:=h
   obtain⟨m,hop,hmk⟩:=s_mk f hrel hm
   refine s_make f hd hp (hop _) hmk ⟨fun cs=>by simp,fun es=>by simp⟩ (by simp) (fun b' hb'=>?_)
   by_cases hlt:b'<H.length
   ·rw[List.getElem?_append_left hlt]
   ·rw[List.getElem?_eq_none (by simp;omega),List.getElem?_eq_none (by omega)]
  ·split at h
   case h_2=>simp at h
   rename_i g as hca
   split at h
   case isFalse=>simp at h
   rename_i hok
   split at h
   case h_2=>simp at h
   rename_i v H2 hcc
   split at h
   case h_2=>simp at h
   rename_i env2 hp
   simp only[Option.some.injEq,Prod.mk.injEq]at h
   obtain⟨rfl,rfl⟩:=h
   obtain⟨hE,hcon⟩:=hC _ _ _ _ _ _ _ hcc
   obtain⟨vs,harel,hrun⟩:=s_args f hrel hca hok hE
   exact s_call hrun (Calls.mono (hcon φ F w vs f.st.sr harel) (fun e w' ⟨v,he,hr⟩=>⟨v,he,f_call f hd hp hr⟩))
  ·split at h
   case h_2=>simp at h
   rename_i v hr
   split at h
   case h_2=>simp at h
   rename_i env2 hp
   simp only[Option.some.injEq,Prod.mk.injEq]at h
   obtain⟨rfl,rfl⟩:=h
   exact s_rd f hrel hd hr hp

theorem stepI_sound (hC:OrcOk P C)(f:Full φ0 F0 H0 w0 φ F H w β env act T){o:Oper}{idx:Nat}{env':Env}{H':Heap}{K:Act→World→Prop}(ho:ops[idx]?=some o)(hT:pm.T=T)(h:stepI C lk lim (compI P pm ops o) env H=some (env',H'))
  (hK:∀act' w',Post φ0 F0 H0 w0 H' env' T act' w'→K act' w'):wpOp P ops Q idx K act w:=by
 rcases compI_ok (P:=P) (pm:=pm) (ops:=ops) o with hbad | ⟨h1,h2,hd,hg⟩
 ·rw[hbad]at h
  simp[stepI,badI,guardI,actOp,cls,rdOp]at h
 unfold stepI at h
 rw[h1,h2]at h
 split at h
 ·rename_i hb
  exact wpOp_of f ho (fun d hh=>hT▸hd d hh) hg hb (fun _=>act_sound hC f (fun d hh=>hT▸hd d hh) h) (fun e=>by cases e) hK
 ·rename_i hb
  split at h
  case h_2=>simp at h
  rename_i env2 hp
  simp only[Option.some.injEq,Prod.mk.injEq]at h
  obtain⟨rfl,rfl⟩:=h
  exact wpOp_of f ho (fun d hh=>hT▸hd d hh) hg hb (fun e=>by cases e) (fun _=>⟨hp,rfl⟩) hK
 ·simp at h

theorem runOps_sound (hC:OrcOk P C)(hT:pm.T=T):∀(l:List Oper) (k:Nat),ops.toList.drop k=l→∀{φ:Phi} {F:Nat→Nat→Prop} {H:Heap} {w:World} {β:Nat→Nat} {env:Env} {act:Act} {env':Env} {H':Heap},
  Full φ0 F0 H0 w0 φ F H w β env act T→runOps C lk lim (l.map (compI P pm ops)) env H=some (env',H')→
  (∀act' w',Post φ0 F0 H0 w0 H' env' T act' w'→Q .normal act' w')→wpOps P ops Q (List.range' k (ops.size-k)) act w
 | [],k,hk,φ,F,H,w,β,env,act,env',H',f,h,hQ=>by
  have hlen:ops.size≤k:=by
   have:=congrArg List.length hk
   simp at this
   omega
  rw[show ops.size-k=0 from by omega]
  simp only[List.map_nil,runOps,Option.some.injEq,Prod.mk.injEq]at h
  obtain⟨rfl,rfl⟩:=h
  exact hQ _ _ ⟨_,_,_,f⟩
 | o::r,k,hk,φ,F,H,w,β,env,act,env',H',f,h,hQ=>by
  have hlt:k<ops.size:=by
   have:=congrArg List.length hk
   simp at this
   omega
  have ho:ops[k]?=some o:=by
   have:=congrArg (·[0]?) hk
   simpa[List.getElem?_drop] using this
  have hr:ops.toList.drop (k+1)=r:=by
   rw[←List.drop_drop,hk];rfl
  rw[show ops.size-k=(ops.size-(k+1))+1 from by omega,List.range'_succ,wpOps_cons]
  simp only[List.map_cons,runOps]at h
  split at h
  case h_2=>simp at h
  rename_i env1 H1 hs
  exact stepI_sound hC f ho hT hs (fun act' w' ⟨φ1,F1,β1,f1⟩=>runOps_sound hC hT r (k+1) hr f1 h hQ)
end
end Go.Hm

