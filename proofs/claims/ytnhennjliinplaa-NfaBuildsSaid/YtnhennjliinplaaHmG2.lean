/- The machine HM, part 2. -/
import Derived.Test.YtnhennjliinplaaHmG1
import Derived.Deep.MidRow
import Derived.Laws.CopyRow
import Derived.Laws.StructEq
import Derived.DeepKeys
import Derived.Laws.BytesArg
import Derived.Great.BuildSlice
import Derived.Deep.AppendSrc
set_option linter.all false
namespace Go.Hm
open Go

section
variable {φ:Phi}{F:Nat→Nat→Prop}{H:Heap}{w:World}{β:Nat→Nat}

def ORel (φ:Phi)(F:Nat→Nat→Prop)(H:Heap)(w:World)(β:Nat→Nat):AV→Value→Prop
 | .rp t off,v=>v= .pointer (some ⟨β t,off,none⟩)
 | .und,v=>v=undef
 | .dead,_=>True
 | .box _,_=>False
 | a,v=>VRel φ F H w a v

def SRel (φ:Phi)(F:Nat→Nat→Prop)(H:Heap)(w:World)(β:Nat→Nat)(t:Nat):AV→Value→Prop
 | .box cs,v=>v= .pointer (some ⟨β t,0,none⟩)∧Blk φ F H w (β t,0) cs
 | a,v=>ORel φ F H w β a v

structure St (φ:Phi)(F:Nat→Nat→Prop)(H:Heap)(w:World)(β:Nat→Nat)(env:Env)(act:Act)(T:Nat):Prop where
 sr:SR φ F H w
 size:act.tmps.size=T
 slot:∀t,SRel φ F H w β t (find env t) (act.tmps.getD t undef)
 bphi:∀t cs b,find env t= .box cs→live H b→β t≠(φ b).1
 binj:∀t t' cs cs',find env t= .box cs→find env t'= .box cs'→β t=β t'→t=t'
 bF:∀t cs o,find env t= .box cs→¬F (β t) o

theorem CRel.inv_val {x v:Value}(h:CRel φ F H w (.val x) v):v=x∧scal x=true:=by
 cases h with
 | val _ h=>exact⟨rfl,h⟩
theorem VRel.inv_val {x v:Value}(h:VRel φ F H w (.val x) v):v=x∧scal x=true:=by
 cases h with
 | one h=>exact h.inv_val
theorem VRel.inv_e0 {v:Value}(h:VRel φ F H w .e0 v):∃x,v= .slice x 0 0:=by
 cases h with
 | one h=>cases h;exact⟨_,rfl⟩
theorem VRel.inv_agg {cs:List AV}{v:Value}(h:VRel φ F H w (.agg cs) v):∃vs,v= .agg vs.toArray∧CL φ F H w cs vs:=by
 cases h with
 | one h=>cases h
 | agg cs vs h=>exact⟨vs,rfl,h⟩
theorem VRel.inv_tup {as:List AV}{v:Value}(h:VRel φ F H w (.tup as) v):∃vs:List Value,v= .tuple vs.toArray∧vs.length=as.length∧∀(i:Nat) a v,as[i]?=some a→vs[i]?=some v→VRel φ F H w a v:=by
 cases h with
 | one h=>cases h
 | tup as vs hl h=>exact⟨vs,rfl,hl,h⟩
theorem VRel.cell {a:AV}{v:Value}(h:VRel φ F H w a v)(h1:Hm.one a=true):CRel φ F H w a v:=by
 cases h with
 | one h=>exact h
 | agg=>simp[Hm.one]at h1
 | tup=>simp[Hm.one]at h1
theorem CRel.oneCell {a:AV}{v:Value}(h:CRel φ F H w a v):v.oneCell'=true:=by
 cases h with
 | val v h=>cases v<;>simp_all [scal,Value.oneCell']
 | _=>rfl
theorem ORel.of {a:AV}{v:Value}(h:VRel φ F H w a v):ORel φ F H w β a v:=by
 cases a<;>first | exact h | (cases h with | one h=>cases h)
theorem ORel.mono {φ':Phi}{F':Nat→Nat→Prop}{H':Heap}{w':World}(e:Ext φ F H w φ' F' H' w'){a:AV}{v:Value}(h:ORel φ F H w β a v):ORel φ' F' H' w' β a v:=by
 cases a<;>first | exact VRel.mono e h | exact h

theorem of1_rel {v:Value}{a:AV}(h:of1 v=some a):CRel φ F H w a v:=by
 unfold of1 at h
 split at h<;>simp at h<;>subst h
 ·exact .e0 none
 all_goals exact .val _ rfl
theorem of1s_rel:∀{vs:List Value} {l:List AV},of1s vs=some l→CL φ F H w l vs
 | [],l,h=>by simp[of1s]at h;subst h;exact⟨rfl,fun i a v ha=>by simp at ha⟩
 | v::r,l,h=>by
  simp only[of1s]at h
  split at h
  ·rename_i a ha
   split at h
   ·rename_i l' hl'
    simp at h;subst h
    have ih:=of1s_rel hl'
    refine⟨by simp[ih.1],fun i b u hb hu=>?_⟩
    cases i with
    | zero=>simp at hb hu;subst hb;subst hu;exact of1_rel ha
    | succ i=>simp at hb hu;exact ih.2 i b u hb hu
   ·simp at h
  ·simp at h
theorem ofVal_rel (v:Value):ORel φ F H w β (ofVal v) v:=by
 unfold ofVal
 split
 ·rename_i cs
  split
  ·rename_i l hl
   have:=VRel.agg (φ:=φ) (F:=F) (H:=H) (w:=w) l cs.toList (of1s_rel hl)
   exact ORel.of (by simpa using this)
  ·trivial
 ·cases h:of1 v with
  | none=>trivial
  | some a=>exact ORel.of (.one (of1_rel h))

variable {env:Env}{act:Act}{T:Nat}

theorem ev_rel (s:St φ F H w β env act T)(x:Operand):ORel φ F H w β (ev env (cO x)) (act.eval x):=by
 cases x with
 | tmp t=>
  have h:=s.slot t
  simp only[cO,ev,Act.eval]
  generalize find env t=a at h
  cases a<;>first | exact h | exact h.1
 | const v=>exact ofVal_rel v
 | global g=>trivial
 | func f=>
  simp only[cO,ev,Act.eval]
  split
  ·rename_i hf
   have:=CRel.fn (φ:=φ) (F:=F) (H:=H) (w:=w) f [] [] rfl (fun i a v ha=>by simp at ha)
   rw[Nat.mod_eq_of_lt hf]at this
   exact .one this
  ·trivial

theorem ev_val (s:St φ F H w β env act T){x:Operand}{v:Value}(h:ev env (cO x)= .val v):act.eval x=v:=by
 have:=ev_rel s x
 rw[h]at this
 exact(VRel.inv_val this).1
theorem ev_of (s:St φ F H w β env act T){x:Operand}{a:AV}(h:ev env (cO x)=a):ORel φ F H w β a (act.eval x):=h▸ev_rel s x

theorem cellsV_rel {a:AV}{v:Value}{cs:List AV}(h:ORel φ F H w β a v)(hc:cellsV a=some cs):
  CL φ F H w cs v.cells.toList∧v.cells.all (·.oneCell')=true:=by
 have single:∀{a:AV} {v:Value},CRel φ F H w a v→CL φ F H w [a] v.cells.toList∧v.cells.all (·.oneCell')=true:=fun {a v} h=>by
  have h1:=h.oneCell
  have e:v.cells=#[v]:=by cases v<;>simp_all [Value.cells,Value.oneCell']
  rw[e]
  refine⟨⟨rfl,fun i b u hb hu=>?_⟩,by simp[h1]⟩
  cases i with
  | zero=>simp at hb hu;subst hb;subst hu;exact h
  | succ i=>simp at hb
 cases a<;>simp[cellsV]at hc<;>subst hc
 case agg cs=>
  obtain⟨vs,rfl,hcl⟩:=VRel.inv_agg h
  refine⟨by simpa[Value.cells] using hcl,?_⟩
  simp only[Value.cells,List.all_toArray,List.all_eq_true]
  intro v hv
  obtain⟨i,hi⟩:=List.getElem?_of_mem hv
  have hlt:i<vs.length:=(List.getElem?_eq_some_iff.1 hi).1
  have hlt':i<cs.length:=by rw[←hcl.1];exact hlt
  exact(hcl.2 i cs[i] v (by simp[hlt']) hi).oneCell
 all_goals exact single (VRel.cell h rfl)

theorem CL.get {as:List AV}{vs:List Value}(h:CL φ F H w as vs){i:Nat}{a:AV}(ha:as[i]?=some a):∃v,vs[i]?=some v∧CRel φ F H w a v:=by
 have hi:i<vs.length:=by rw[h.1];exact(List.getElem?_eq_some_iff.1 ha).1
 exact⟨vs[i],by simp[hi],h.2 i a vs[i] ha (by simp[hi])⟩
theorem CL.take {as:List AV}{vs:List Value}(h:CL φ F H w as vs)(n:Nat):CL φ F H w (as.take n) (vs.take n):=
 ⟨by simp[h.1],fun i a v ha hv=>by
  rw[List.getElem?_take]at ha hv
  split at ha<;>simp_all
  exact h.2 i a v ha hv⟩
theorem CL.drop {as:List AV}{vs:List Value}(h:CL φ F H w as vs)(n:Nat):CL φ F H w (as.drop n) (vs.drop n):=
 ⟨by simp[h.1],fun i a v ha hv=>by
  rw[List.getElem?_drop]at ha hv
  exact h.2 _ a v ha hv⟩
theorem CL.append {as bs:List AV}{vs us:List Value}(h:CL φ F H w as vs)(k:CL φ F H w bs us):CL φ F H w (as++bs) (vs++us):=
 ⟨by simp[h.1,k.1],fun i a v ha hv=>by
  rw[List.getElem?_append]at ha hv
  have e:=h.1
  by_cases hi:i<as.length
  ·rw[if_pos hi]at ha;rw[if_pos (by omega)]at hv
   exact h.2 i a v ha hv
  ·rw[if_neg hi]at ha;rw[if_neg (by omega)]at hv
   exact k.2 _ a v ha (by rwa [e]at hv)⟩

def RowAt (φ:Phi)(F:Nat→Nat→Prop)(H:Heap)(w:World)(k o:Nat)(cs:List AV):Prop:=
 ∀(i:Nat) a,cs[i]?=some a→∃v,w.cell? ⟨k,o+i,none⟩=some v∧CRel φ F H w a v

theorem Blk.row {p:Nat×Nat}{cs:List AV}(h:Blk φ F H w p cs):RowAt φ F H w p.1 0 (cs.drop p.2):=by
 obtain⟨arr,ty,ha,hc⟩:=h
 intro i a hi
 rw[List.getElem?_drop]at hi
 obtain⟨v,hv,hr⟩:=hc _ a hi
 have hv:=hv (Nat.le_add_right ..)
 rw[Nat.add_sub_cancel_left]at hv
 exact⟨v,by simp[World.cell?,ha,hv],hr⟩

theorem ptr_rel (s:St φ F H w β env act T){l:Option Nat}{a:AV}{v:Value}{cs:List AV}{off:Nat}(h:ORel φ F H w β a v)(hp:ptrCells l env H a=some (cs,off)):
  ∃k o d,d≤off∧v= .pointer (some ⟨k,o+(off-d),none⟩)∧RowAt φ F H w k o (cs.drop d):=by
 unfold ptrCells at hp
 split at hp
 ·rename_i t
  split at hp
  ·rename_i t' off'
   split at hp
   ·rename_i ht
    subst ht
    split at hp
    ·rename_i cs' hf
     simp at hp
     obtain⟨rfl,rfl⟩:=hp
     have hs:=s.slot t'
     rw[hf]at hs
     exact⟨β t',0,0,Nat.zero_le _,by rw[Nat.zero_add];exact h,hs.2.row⟩
    ·simp at hp
   ·simp at hp
  ·simp at hp
 ·split at hp
  ·rename_i cs' off'
   simp at hp
   obtain⟨rfl,rfl⟩:=hp
   have h':VRel φ F H w (.rop cs' off') v:=h
   cases h' with
   | one h'=>
    cases h' with
    | rop b o off cells vs hl hF hc hr=>
     refine⟨b,o,0,Nat.zero_le _,rfl,fun i a ha=>?_⟩
     have hi:i<vs.length:=by rw[hl];exact(List.getElem?_eq_some_iff.1 ha).1
     exact⟨vs[i],hc i _ (by simp[hi]),hr i a _ ha (by simp[hi])⟩
  ·rename_i b g off'
   split at hp
   ·rename_i cs' hb
    split at hp
    ·rename_i hg
     simp at hp
     obtain⟨rfl,rfl⟩:=hp
     have h':VRel φ F H w (.hp b g off') v:=h
     cases h' with
     | one h'=>
      cases h' with
      | hp b g off cs2 ad hb2 hg2 h2=>
       rw[hb]at hb2
       cases hb2
       obtain⟨hd,this⟩:=h2 hg
       subst this
       by_cases hne:cs'=[]
       ·subst hne
        exact⟨(φ b).1,0,(φ b).2,hd,by simp,fun i a ha=>by simp at ha⟩
       ·exact⟨(φ b).1,0,(φ b).2,hd,by simp,(s.sr.blk b cs' hb hne).row⟩
    ·simp at hp
   ·simp at hp
  ·simp at hp
end
end Go.Hm

namespace Go.Hm
open Go

def Pure (P:Program)(φ:Phi)(F:Nat→Nat→Prop)(H:Heap)(w:World)(β:Nat→Nat)(act:Act)(op:Op)(v:AV):Prop:=
 ∀(dst:Option Tmp) (type:TypeId) (pos:String) (after:Array Edge) (guard:Option (Nat×Bool)),
  ∃cv,(execOp act.eval { dst,op,type,pos,after,guard }).run P w= .ok (.value cv) w∧ORel φ F H w β v cv

section
variable {P:Program}{φ:Phi}{F:Nat→Nat→Prop}{H:Heap}{w:World}{β:Nat→Nat}{env:Env}{act:Act}{T:Nat}

theorem szOf_run {t:TypeId}{n:Nat}(h:szOf P t=some n)(w:World):(sizeOf t).run P w= .ok n w:=by
 unfold szOf at h
 cases hi:P.info? t with
 | none=>simp[hi]at h
 | some i=>
  simp[hi]at h
  simp[sizeOf,typeInfo,hi,h]
theorem aggT_run {t:TypeId}(h:aggT P t=true):∃d,P.underlying t=some d∧d.isRow=true:=by
 unfold aggT at h
 split at h
 ·rename_i fs hu;exact⟨_,hu,rfl⟩
 ·rename_i n e hu;exact⟨_,hu,rfl⟩
 ·simp at h
theorem isAgg_run {t:TypeId}{d:TypeDesc}(hu:P.underlying t=some d)(w:World):(isAgg t).run P w= .ok d.isRow w:=by
 unfold isAgg
 rw[Sem.run_bind,run_underlying hu w]
 cases d<;>rfl
theorem aggT_eq {t:TypeId}{d:TypeDesc}(hu:P.underlying t=some d):aggT P t=d.isRow:=by
 unfold aggT
 rw[hu]
 cases d<;>rfl

theorem add_none (k o n:Nat):(⟨k,o,none⟩:Addr).add n=⟨k,o+n,none⟩:=Addr.add_mid k o n

theorem p_mv (s:St φ F H w β env act T)(x:Operand):Pure P φ F H w β act (.move x) (ev env (cO x)):=fun _ _ _ _ _=>⟨_,rfl,ev_rel s x⟩
theorem p_assign (s:St φ F H w β env act T)(x:Operand):Pure P φ F H w β act (.assign x) (ev env (cO x)):=fun _ _ _ _ _=>⟨_,rfl,ev_rel s x⟩
theorem p_pick (s:St φ F H w β env act T)(c x y:Operand){v:AV}(h:rdOp (.pick (cO c) (cO x) (cO y)) env H=some v):Pure P φ F H w β act (.pick c x y) v:=by
 simp only[rdOp]at h
 split at h
 ·rename_i b hb
  simp at h;subst h
  intro dst type pos after guard
  refine⟨if b=true then act.eval x else act.eval y,?_,?_⟩
  ·simp[execOp,ev_val s hb,asBool]
  ·cases b
   ·exact ev_rel s y
   ·exact ev_rel s x
 ·simp at h

theorem p_ld1 (s:St φ F H w β env act T)(t:TypeId)(x:Operand){l:Option Nat}{v:AV}{d:TypeDesc}(hu:P.underlying t=some d)(ha:d.isRow=false)(h:rdOp (.ld1 l (cO x)) env H=some v):Pure P φ F H w β act (.load t x) v:=by
 simp only[rdOp]at h
 split at h
 ·rename_i cs off hp
  split at h
  ·rename_i a hcs
   split at h
   ·rename_i h1
    simp at h;subst h
    obtain⟨k,o,d0,hd0,hv,hrow⟩:=ptr_rel s (ev_rel s x) hp
    obtain⟨cv,hcv,hr⟩:=hrow (off-d0) _ (by rw[List.getElem?_drop,show d0+(off-d0)=off from by omega];exact hcs)
    intro dst type pos after guard
    refine⟨cv,?_,ORel.of (.one hr)⟩
    simp[execOp,Instr.loadAt,Instr.sureAddr,hv,loadVar,isAgg_run hu,ha,hcv]
   ·simp at h
  ·simp at h
 ·simp at h
theorem RowAt.range {k o:Nat}{cs:List AV}(h:RowAt φ F H w k o cs){off n:Nat}(hl:off+n≤cs.length):
  ∃vs,CL φ F H w ((cs.drop off).take n) vs∧w.rangeAt k (o+off) vs∧vs.length=n:=by
 refine⟨(List.range n).map fun i=>(w.cell? ⟨k,o+(off+i),none⟩).getD undef,⟨by simp;omega,fun i a v ha hv=>?_⟩,fun i v hv=>?_,by simp⟩
 ·rw[List.getElem?_take]at ha
  split at ha
  ·rename_i hi
   rw[List.getElem?_drop]at ha
   obtain⟨u,hu,hr⟩:=h (off+i) a ha
   simp[hi,hu]at hv
   exact hv▸hr
  ·simp at ha
 ·have hi:i<n:=by
   have:=(List.getElem?_eq_some_iff.1 hv).1
   simpa using this
  simp[hi]at hv
  have hlt:off+i<cs.length:=by omega
  obtain⟨u,hu,_⟩:=h (off+i) cs[off+i] (by simp[hlt])
  rw[hu]at hv
  simp at hv
  rw[←hv,show o+off+i=o+(off+i) from by omega]
  exact hu
theorem p_ldA (s:St φ F H w β env act T)(t:TypeId)(x:Operand){l:Option Nat}{n:Nat}{v:AV}{d:TypeDesc}(hu:P.underlying t=some d)(ha:d.isRow=true)(hn:szOf P t=some n)(h:rdOp (.ldA l n (cO x)) env H=some v):Pure P φ F H w β act (.load t x) v:=by
 simp only[rdOp]at h
 split at h
 ·rename_i cs off hp
  split at h
  ·rename_i hl
   simp at h;subst h
   obtain⟨k,o,d0,hd0,hv,hrow⟩:=ptr_rel s (ev_rel s x) hp
   obtain⟨vs,hcl,hra,hlen⟩:=hrow.range (off:=off-d0) (n:=n) (by rw[List.length_drop];omega)
   rw[List.drop_drop,show d0+(off-d0)=off from by omega]at hcl
   intro dst type pos after guard
   refine⟨.agg vs.toArray,?_,ORel.of (.agg _ _ hcl)⟩
   simp only[execOp,hv,Sem.run_bind,run_loadAt_mid w k (o+(off-d0)) t vs d hra hu ha (by rw[hlen];exact hn),Result.andThen_ok,Sem.run_pure]
  ·simp at h
 ·simp at h

theorem p_nilc (s:St φ F H w β env act T)(x:Operand){v:AV}(h:rdOp (.nilc (cO x)) env H=some v):Pure P φ F H w β act (.nilCheck x) v:=by
 simp only[rdOp]at h
 split at h<;>simp at h<;>subst h
 ·rename_i t o hx
  have:=ev_of s hx
  intro dst type pos after guard
  exact⟨act.eval x,by simp[execOp,show act.eval x=_ from this],this⟩
 ·rename_i b g o hx
  have hr:=ev_of s hx
  intro dst type pos after guard
  refine⟨act.eval x,?_,hr⟩
  have h':VRel φ F H w (.hp b g o) (act.eval x):=hr
  generalize hcv:act.eval x=cv at *
  cases h' with
  | one h'=>cases h';simp[execOp,hcv]
 ·rename_i cs o hx
  have hr:=ev_of s hx
  intro dst type pos after guard
  refine⟨act.eval x,?_,hr⟩
  have h':VRel φ F H w (.rop cs o) (act.eval x):=hr
  generalize hcv:act.eval x=cv at *
  cases h' with
  | one h'=>cases h';simp[execOp,hcv]
 ·rename_i f c hx
  have hr:=ev_of s hx
  intro dst type pos after guard
  refine⟨act.eval x,?_,hr⟩
  have h':VRel φ F H w (.fn f c) (act.eval x):=hr
  generalize hcv:act.eval x=cv at *
  cases h' with
  | one h'=>cases h';simp[execOp,hcv]
theorem ptr_add {a:AV}{v:Value}{f:Nat}{r:AV}(h:ORel φ F H w β a v)
  (hr:(∃t o,a= .rp t o∧r= .rp t (o+f))∨(∃b g o,a= .hp b g o∧r= .hp b g (o+f))∨(∃cs o,a= .rop cs o∧r= .rop cs (o+f))):
  ∃ad,v= .pointer (some ad)∧ORel φ F H w β r (.pointer (some (ad.add f))):=by
 rcases hr with⟨t,o,rfl,rfl⟩ | ⟨b,g,o,rfl,rfl⟩ | ⟨cs,o,rfl,rfl⟩
 ·exact⟨⟨β t,o,none⟩,h,by rw[add_none];exact rfl⟩
 ·have h':VRel φ F H w (.hp b g o) v:=h
  cases h' with
  | one h'=>
   cases h' with
   | hp b g off cs a hb hg h2=>exact⟨a,rfl,VRel.one (.hp b g (o+f) cs _ hb hg (fun e=>by
    obtain⟨hd,he⟩:=h2 e
    refine⟨by omega,?_⟩
    rw[he,add_none,show o-(φ b).2+f=o+f-(φ b).2 from by omega]))⟩
 ·have h':VRel φ F H w (.rop cs o) v:=h
  cases h' with
  | one h'=>
   cases h' with
   | rop b o' off cells vs hl hF hc hr=>
    refine⟨_,rfl,?_⟩
    rw[add_none,Nat.add_assoc]
    exact VRel.one (.rop b o' (o+f) cs vs hl hF hc hr)

theorem p_fldA (s:St φ F H w β env act T)(t:TypeId)(x:Operand)(f:Nat){fs:Array Field}{fd:Field}{n:Nat}{v:AV}(hu:P.underlying t=some (.struct fs))(hf:fs[f]?=some fd)(hn:szOf P fd.type=some n)(h0:n≠0)
  (h:rdOp (.fldA fd.offset (cO x)) env H=some v):Pure P φ F H w β act (.fieldAddr t x f) v:=by
 have key:∃ad,act.eval x= .pointer (some ad)∧ORel φ F H w β v (.pointer (some (ad.add fd.offset))):=by
  simp only[rdOp]at h
  refine ptr_add (ev_rel s x) ?_
  split at h<;>simp at h
  ·rename_i hx;exact .inl ⟨_,_,hx,h.symm⟩
  ·rename_i hx;exact .inr (.inl ⟨_,_,_,hx,h.symm⟩)
  ·rename_i hx;exact .inr (.inr ⟨_,_,hx,h.symm⟩)
 obtain⟨ad,hx,hr⟩:=key
 intro dst type pos after guard
 refine⟨_,?_,hr⟩
 simp[execOp,hx,Instr.fieldAt,run_underlying hu,hf,Instr.sureAddr,fieldPlace,szOf_run hn,h0]

theorem p_ixR (s:St φ F H w β env act T)(t:TypeId)(x i:Operand){len:Nat}{e:TypeId}{k:Nat}{v:AV}(hu:P.underlying t=some (.array len e))(hk:szOf P e=some k)
  (h:rdOp (.ixR len k (cO x) (cO i)) env H=some v):Pure P φ F H w β act (.indexAddr t x i) v:=by
 simp only[rdOp]at h
 split at h
 ·rename_i q n hi
  split at h
  ·rename_i hr
   have key:∃ad,act.eval x= .pointer (some ad)∧ORel φ F H w β v (.pointer (some (ad.add (n.toNat*k)))):=by
    refine ptr_add (ev_rel s x) ?_
    split at h<;>simp at h
    ·rename_i hx;exact .inl ⟨_,_,hx,h.symm⟩
    ·rename_i hx;exact .inr (.inl ⟨_,_,_,hx,h.symm⟩)
    ·rename_i hx;exact .inr (.inr ⟨_,_,hx,h.symm⟩)
   obtain⟨ad,hx,hor⟩:=key
   intro dst type pos after guard
   refine⟨_,?_,hor⟩
   simp[execOp,hx,ev_val s hi,Instr.indexAt,asIntOf,run_underlying hu,Instr.sureAddr,hr.1,hr.2,szOf_run hk]
  ·simp at h
 ·simp at h

theorem p_ixA (s:St φ F H w β env act T)(t:TypeId)(x i:Operand){e:TypeId}{k:Nat}{v:AV}(hu:P.underlying t=some (.slice e))(hk:szOf P e=some k)
  (h:rdOp (.ixA k (cO x) (cO i)) env H=some v):Pure P φ F H w β act (.indexAddr t x i) v:=by
 simp only[rdOp]at h
 split at h
 ·rename_i q n hi
  have hiv:=ev_val s hi
  split at h
  ·rename_i len cs hx
   split at h
   ·rename_i hr
    simp at h;subst h
    have h':VRel φ F H w (.sl len cs) (act.eval x):=ev_of s hx
    intro dst type pos after guard
    generalize hcv:act.eval x=cv at *
    cases h' with
    | one h'=>
     cases h' with
     | sl b o n' cap cells vs hn hl hF hc hrr=>
      refine⟨.pointer (some ⟨b,o+n.toNat*k,none⟩),?_,VRel.one (.rop b o _ cs vs hl hF hc hrr)⟩
      simp[execOp,hcv,hiv,Instr.indexAt,asIntOf,run_underlying hu,hr.1,hr.2,szOf_run hk,add_none]
     | slnil=>have:=hr.2;have:=hr.1;omega
   ·simp at h
  ·rename_i b g off len es hx
   split at h
   ·rename_i hr
    simp at h;subst h
    have h':VRel φ F H w (.hs b g off len es) (act.eval x):=ev_of s hx
    intro dst type pos after guard
    generalize hcv:act.eval x=cv at *
    cases h' with
    | one h'=>
     cases h' with
     | hs b g off n' es cs xx cap hb hg hn hxn h2=>
      by_cases hsome:∃ad,xx=some ad
      ·obtain⟨ad,rfl⟩:=hsome
       refine⟨.pointer (some (ad.add (n.toNat*k))),?_,VRel.one (.hp b g _ cs _ hb hg fun eg=>?_)⟩
       ·simp[execOp,hcv,hiv,Instr.indexAt,asIntOf,run_underlying hu,hr.1,hr.2,szOf_run hk]
       ·rcases h2 eg with⟨_,hd,hx2,_⟩ | ⟨h0,_⟩
        ·rw[Option.some.inj hx2,add_none]
         refine⟨by omega,?_⟩
         rw[show off-(φ b).2+n.toNat*k=off+n.toNat*k-(φ b).2 from by omega]
        ·have:=hr.1;have:=hr.2;omega
      ·exfalso
       have hnone:xx=none:=by
        cases xx with
        | none=>rfl
        | some ad=>exact absurd ⟨ad,rfl⟩ hsome
       have:=hxn hnone
       have:=hr.1
       have:=hr.2
       omega
   ·simp at h
  ·simp at h
 ·simp at h
end
end Go.Hm

namespace Go.Hm
open Go

section
variable {P:Program}{φ:Phi}{F:Nat→Nat→Prop}{H:Heap}{w:World}{β:Nat→Nat}{env:Env}{act:Act}{T:Nat}

theorem run_bini (op:BinOp)(t:TypeId)(x y:Operand)(k k':IntKind)(a b:Int){r:AV}(h:abin op k a k' b=some r)(w:World):
  ∃v,r= .val v∧scal v=true∧(do eqGuard op t x y (.int k a) (.int k' b);binOp op t (.int k a) (.int k' b)).run P w= .ok v w:=by
 cases op<;>simp only[abin]at h
 case shl | shr=>
  split at h
  ·simp at h
  ·rename_i hb
   simp at h;subst h
   exact⟨_,rfl,rfl,by simp[eqGuard,binOp,Op.shift,hb]⟩
 case quo | rem=>
  split at h
  ·split at h
   ·simp at h
   ·rename_i hk hb
    simp at h;subst h
    exact⟨_,rfl,rfl,by simp[eqGuard,binOp,Op.intDiv,hk,hb]⟩
  ·simp at h
 all_goals
  split at h
  ·rename_i hk
   simp at h;subst h
   exact⟨_,rfl,rfl,by simp[eqGuard,binOp,Op.intArith,Op.intBits,Op.intCmp,hk]⟩
  ·simp at h

theorem p_bini (s:St φ F H w β env act T)(op:BinOp)(t:TypeId)(x y:Operand)(yt:TypeId){v:AV}(h:rdOp (.bini op (cO x) (cO y)) env H=some v):Pure P φ F H w β act (.binOp op t x y yt) v:=by
 simp only[rdOp]at h
 split at h
 ·rename_i k a k' b hx hy
  obtain⟨u,rfl,hs,hrun⟩:=run_bini (P:=P) op t x y k k' a b h w
  intro dst type pos after guard
  refine⟨u,?_,VRel.one (.val u hs)⟩
  simp only[execOp,ev_val s hx,ev_val s hy,Sem.run_bind]at hrun ⊢
  rw[hrun]
  rfl
 ·simp at h

theorem run_bins (op:BinOp)(t:TypeId)(x y:Operand)(a b:ByteArray){r:AV}(h:abins op a b=some r)(w:World):
  ∃v,r= .val v∧scal v=true∧(do eqGuard op t x y (.string a) (.string b);binOp op t (.string a) (.string b)).run P w= .ok v w:=by
 cases op<;>simp only[abins]at h
 case add=>
  split at h
  ·simp at h
  ·rename_i hb
   simp only[Option.some.injEq]at h;subst h
   exact⟨_,rfl,rfl,by simp only[eqGuard,binOp,Op.stringOp,Sem.run_bind,if_neg hb];simp⟩
 all_goals first
  | (simp at h;done)
  | (simp only[Option.some.injEq]at h;subst h;exact⟨_,rfl,rfl,by simp[eqGuard,binOp,Op.stringOp]⟩)

theorem p_bins (s:St φ F H w β env act T)(op:BinOp)(t:TypeId)(x y:Operand)(yt:TypeId){v:AV}(h:rdOp (.bins op (cO x) (cO y)) env H=some v):Pure P φ F H w β act (.binOp op t x y yt) v:=by
 simp only[rdOp]at h
 split at h
 ·rename_i a b hx hy
  obtain⟨u,rfl,hs,hrun⟩:=run_bins (P:=P) op t x y a b h w
  intro dst type pos after guard
  refine⟨u,?_,VRel.one (.val u hs)⟩
  simp only[execOp,ev_val s hx,ev_val s hy,Sem.run_bind]at hrun ⊢
  rw[hrun]
  rfl
 ·simp at h

theorem p_eqb (s:St φ F H w β env act T)(neg:Bool)(t:TypeId)(x y:Operand)(yt:TypeId){v:AV}(hu:P.underlying t=some .bool)(h:rdOp (.eqb neg (cO x) (cO y)) env H=some v):
  Pure P φ F H w β act (.binOp (if neg then .neq else .eql) t x y yt) v:=by
 simp only[rdOp]at h
 split at h
 ·rename_i a b hx hy
  simp only[Option.some.injEq]at h;subst h
  intro dst type pos after guard
  refine⟨.bool (if neg then !(a==b) else a==b),?_,VRel.one (.val _ rfl)⟩
  cases neg<;>simp[execOp,ev_val s hx,ev_val s hy,eqGuard,binOp,Op.equal,Op.maxDepth,run_equalIn_bool' w 9999 t a b hu]
 ·simp at h

theorem ptr_some {a:AV}{v:Value}(h:ORel φ F H w β a v)(ha:(∃t o,a= .rp t o)∨(∃b g o,a= .hp b g o)∨(∃cs o,a= .rop cs o)):∃ad,v= .pointer (some ad):=by
 rcases ha with⟨t,o,rfl⟩ | ⟨b,g,o,rfl⟩ | ⟨cs,o,rfl⟩
 ·exact⟨_,h⟩
 ·have h':VRel φ F H w (.hp b g o) v:=h
  cases h' with
  | one h'=>cases h';exact⟨_,rfl⟩
 ·have h':VRel φ F H w (.rop cs o) v:=h
  cases h' with
  | one h'=>cases h';exact⟨_,rfl⟩
theorem fn_some {f:FuncId}{c:List AV}{v:Value}(h:ORel φ F H w β (.fn f c) v):∃vs:Array Value,v= .func (.func (f % 1000)) #[] vs:=by
 have h':VRel φ F H w (.fn f c) v:=h
 cases h' with
 | one h'=>cases h';exact⟨_,rfl⟩

theorem equal_eq (t:TypeId)(a b:Value):Op.equal t a b=Op.equalIn (9999+1) t a b:=rfl

theorem eq_ptr1 {t el:TypeId}(hu:P.underlying t=some (.pointer el))(d:Nat)(b:Option Addr)(w:World):(Op.equalIn (d+1) t (.pointer none) (.pointer b)).run P w= .ok b.isNone w:=by
 simp only[Op.equalIn,Sem.run_bind,run_underlying hu,Result.andThen_ok]
 rfl
theorem eq_ptr2 {t el:TypeId}(hu:P.underlying t=some (.pointer el))(d:Nat)(a:Addr)(w:World):(Op.equalIn (d+1) t (.pointer (some a)) (.pointer none)).run P w= .ok false w:=by
 simp only[Op.equalIn,Sem.run_bind,run_underlying hu,Result.andThen_ok]
 rfl
theorem eq_fn1 {t:TypeId}{a b:Array TypeId}{c:Bool}(hu:P.underlying t=some (.func a b c))(d:Nat)(w:World):(Op.equalIn (d+1) t .nilFunc .nilFunc).run P w= .ok true w:=by
 simp only[Op.equalIn,Sem.run_bind,run_underlying hu,Result.andThen_ok]
 rfl
theorem eq_fn2 {t:TypeId}{a b:Array TypeId}{c:Bool}(hu:P.underlying t=some (.func a b c))(d:Nat)(f:Fn)(x y:Array Value)(w:World):(Op.equalIn (d+1) t .nilFunc (.func f x y)).run P w= .ok false w:=by
 simp only[Op.equalIn,Sem.run_bind,run_underlying hu,Result.andThen_ok]
 rfl
theorem eq_fn3 {t:TypeId}{a b:Array TypeId}{c:Bool}(hu:P.underlying t=some (.func a b c))(d:Nat)(f:Fn)(x y:Array Value)(w:World):(Op.equalIn (d+1) t (.func f x y) .nilFunc).run P w= .ok false w:=by
 simp only[Op.equalIn,Sem.run_bind,run_underlying hu,Result.andThen_ok]
 rfl

theorem p_cmp (neg e:Bool)(t:TypeId)(x y:Operand)(yt:TypeId){a b:Value}(hx:act.eval x=a)(hy:act.eval y=b)(hg:∀op,eqGuard op t x y a b=pure ())(he:(Op.equal t a b).run P w= .ok e w)
  (h1:binOp .eql t a b=(do pure (.bool (←Op.equal t a b)))) (h2:binOp .neq t a b=(do pure (.bool (!(←Op.equal t a b))))):
  Pure P φ F H w β act (.binOp (if neg then .neq else .eql) t x y yt) (.val (.bool (if neg then !e else e))):=by
 intro dst type pos after guard
 refine⟨.bool (if neg then !e else e),?_,VRel.one (.val _ rfl)⟩
 cases neg
 ·simp[execOp,hx,hy,hg,h1,he]
 ·simp[execOp,hx,hy,hg,h2,he]

theorem isPtr_some {a:AV}{v:Value}(h:ORel φ F H w β a v)(ha:isPtr a=true):∃ad,v= .pointer (some ad):=by
 cases a<;>simp[isPtr]at ha
 ·rename_i cs o;exact ptr_some h (.inr (.inr ⟨_,_,rfl⟩))
 ·exact ptr_some h (.inl ⟨_,_,rfl⟩)
 ·exact ptr_some h (.inr (.inl ⟨_,_,_,rfl⟩))

theorem p_eqp (s:St φ F H w β env act T)(neg:Bool)(t:TypeId)(x y:Operand)(yt:TypeId){v:AV}{el:TypeId}(hu:P.underlying t=some (.pointer el))(h:rdOp (.eqp neg (cO x) (cO y)) env H=some v):
  Pure P φ F H w β act (.binOp (if neg then .neq else .eql) t x y yt) v:=by
 simp only[rdOp]at h
 split at h
 ·rename_i e he
  simp only[Option.some.injEq]at h
  subst h
  unfold eqPtr at he
  split at he
  ·rename_i hx
   split at he
   ·rename_i hy
    simp at he;subst he
    refine p_cmp neg true t x y yt (ev_val s hx) (ev_val s hy) (fun op=>by cases op<;>simp[eqGuard]) ?_ rfl rfl
    exact eq_ptr1 hu 9999 none w
   ·rename_i b hb
    split at he
    ·rename_i hp
     simp at he;subst he
     obtain⟨ad,hy⟩:=isPtr_some (ev_of s rfl) hp
     refine p_cmp neg false t x y yt (ev_val s hx) hy (fun op=>by cases op<;>simp[eqGuard]) ?_ rfl rfl
     exact eq_ptr1 hu 9999 (some ad) w
    ·simp at he
  ·split at he
   ·rename_i hy
    split at he
    ·rename_i hp
     simp at he;subst he
     obtain⟨ad,hx⟩:=isPtr_some (ev_of s rfl) hp
     refine p_cmp neg false t x y yt hx (ev_val s hy) (fun op=>by cases op<;>simp[eqGuard]) ?_ rfl rfl
     exact eq_ptr2 hu 9999 ad w
    ·simp at he
   ·simp at he
 ·simp at h

theorem isFn_some {a:AV}{v:Value}(h:ORel φ F H w β a v)(ha:isFn a=true):∃f vs,v= .func (.func f) #[] vs:=by
 cases a<;>simp[isFn]at ha
 rename_i f c
 obtain⟨vs,hv⟩:=fn_some h
 exact⟨_,vs,hv⟩

theorem p_eqf (s:St φ F H w β env act T)(neg:Bool)(t:TypeId)(x y:Operand)(yt:TypeId){v:AV}{a b:Array TypeId}{c:Bool}(hu:P.underlying t=some (.func a b c))(h:rdOp (.eqf neg (cO x) (cO y)) env H=some v):
  Pure P φ F H w β act (.binOp (if neg then .neq else .eql) t x y yt) v:=by
 simp only[rdOp]at h
 split at h
 ·rename_i e he
  simp only[Option.some.injEq]at h
  subst h
  unfold eqFn at he
  split at he
  ·rename_i hx
   split at he
   ·rename_i hy
    simp at he;subst he
    refine p_cmp neg true t x y yt (ev_val s hx) (ev_val s hy) (fun op=>by cases op<;>simp[eqGuard]) ?_ rfl rfl
    exact eq_fn1 hu 9999 w
   ·split at he
    ·rename_i hp
     simp at he;subst he
     obtain⟨f,vs,hy⟩:=isFn_some (ev_of s rfl) hp
     refine p_cmp neg false t x y yt (ev_val s hx) hy (fun op=>by cases op<;>simp[eqGuard]) ?_ rfl rfl
     exact eq_fn2 hu 9999 _ _ _ w
    ·simp at he
  ·split at he
   ·rename_i hy
    split at he
    ·rename_i hp
     simp at he;subst he
     obtain⟨f,vs,hx⟩:=isFn_some (ev_of s rfl) hp
     refine p_cmp neg false t x y yt hx (ev_val s hy) (fun op=>by cases op<;>simp[eqGuard]) ?_ rfl rfl
     exact eq_fn3 hu 9999 _ _ _ w
    ·simp at he
   ·simp at he
 ·simp at h

theorem p_not (s:St φ F H w β env act T)(t:TypeId)(x:Operand){v:AV}(h:rdOp (.not (cO x)) env H=some v):Pure P φ F H w β act (.unOp .not t x) v:=by
 simp only[rdOp]at h
 split at h
 ·rename_i b hx
  simp at h;subst h
  intro dst type pos after guard
  exact⟨.bool (!b),by simp[execOp,ev_val s hx,Op.unary],VRel.one (.val _ rfl)⟩
 ·simp at h
theorem p_negi (s:St φ F H w β env act T)(t:TypeId)(x:Operand){v:AV}(h:rdOp (.negi (cO x)) env H=some v):Pure P φ F H w β act (.unOp .neg t x) v:=by
 simp only[rdOp]at h
 split at h
 ·rename_i k n hx
  simp only[Option.some.injEq]at h;subst h
  intro dst type pos after guard
  exact⟨.int k (k.wrap (0-n)),by simp[execOp,ev_val s hx,Op.unary,Op.intArith],VRel.one (.val _ rfl)⟩
 ·simp at h
theorem p_xori (s:St φ F H w β env act T)(t:TypeId)(x:Operand){v:AV}(h:rdOp (.xori (cO x)) env H=some v):Pure P φ F H w β act (.unOp .xor t x) v:=by
 simp only[rdOp]at h
 split at h
 ·rename_i k n hx
  simp only[Option.some.injEq]at h;subst h
  intro dst type pos after guard
  exact⟨_,by simp[execOp,ev_val s hx,Op.unary,Op.intBits],VRel.one (.val _ rfl)⟩
 ·simp at h
theorem p_cvi (s:St φ F H w β env act T)(src dt:TypeId)(x:Operand){k k':IntKind}{v:AV}(hs:P.underlying src=some (.int k'))(hd:P.underlying dt=some (.int k))(h:rdOp (.cvi k (cO x)) env H=some v):Pure P φ F H w β act (.convert src dt x) v:=by
 simp only[rdOp]at h
 split at h
 ·rename_i q n hx
  simp only[Option.some.injEq]at h;subst h
  intro dst type pos after guard
  exact⟨.int k (k.wrap n),by simp[execOp,ev_val s hx,convert,run_underlying hs,run_underlying hd,Conv.intToInt],VRel.one (.val _ rfl)⟩
 ·simp at h
theorem p_cvs (s:St φ F H w β env act T)(src dt:TypeId)(x:Operand){a:ByteArray}(hs:P.underlying src=some .string)(hd:P.underlying dt=some .string)(hx:ev env (cO x)= .val (.string a)):Pure P φ F H w β act (.convert src dt x) (.val (.string a)):=by
 intro dst type pos after guard
 exact⟨.string a,by simp[execOp,ev_val s hx,convert,run_underlying hs,run_underlying hd],VRel.one (.val _ rfl)⟩
end
end Go.Hm

namespace Go.Hm
open Go

def eqVals:List Nat→List Value→List Value→Option Bool
 | [],[],[]=>some true
 | k::ks,a::r,b::s=>
  match eqScalar k a b with
  | some e=>match eqVals ks r s with
   | some e'=>some (e&&e')
   | none=>none
  | none=>none
 | _,_,_=>none

theorem eqVals_len:∀{ks:List Nat} {a b:List Value} {e:Bool},eqVals ks a b=some e→a.length=ks.length∧b.length=ks.length
 | [],[],[],_,_=>⟨rfl,rfl⟩
 | k::ks,x::a,y::b,e,h=>by
  simp only[eqVals]at h
  split at h
  ·split at h
   ·rename_i h'
    have:=eqVals_len h'
    simp[this.1,this.2]
   ·simp at h
  ·simp at h
 | [],_::_,_,_,h=>by simp[eqVals]at h
 | [],[],_::_,_,h=>by simp[eqVals]at h
 | _::_,[],_,_,h=>by simp[eqVals]at h
 | _::_,_::_,[],_,h=>by simp[eqVals]at h

theorem eqVals_append:∀{ks ls:List Nat} {a c:List Value} {e:Bool},eqVals (ks++ls) a c=some e→
  ∃e1 e2,eqVals ks (a.take ks.length) (c.take ks.length)=some e1∧eqVals ls (a.drop ks.length) (c.drop ks.length)=some e2∧e=(e1&&e2)
 | [],ls,a,c,e,h=>⟨true,e,by simp[eqVals],by simpa using h,by simp⟩
 | k::ks,ls,x::a,y::c,e,h=>by
  simp only[List.cons_append,eqVals]at h
  split at h
  ·rename_i e0 h0
   split at h
   ·rename_i e' h'
    simp at h;subst h
    obtain⟨e1,e2,h1,h2,rfl⟩:=eqVals_append h'
    exact⟨e0&&e1,e2,by simp[eqVals,h0,h1],by simpa using h2,by simp[Bool.and_assoc]⟩
   ·simp at h
  ·simp at h
 | _::_,_,[],_,_,h=>by simp[eqVals]at h
 | _::_,_,_::_,[],_,h=>by simp[eqVals]at h

section
variable {P:Program}

def Packs (P:Program)(t:TypeId)(v:Value)(cs:List Value):Prop:=if aggT P t=true then v= .agg cs.toArray else cs=[v]

theorem part_packs {t:TypeId}{n o:Nat}{xs:List Value}(hn:szOf P t=some n)(hl:o+n≤xs.length)(h1:aggT P t=false→n=1){d:TypeDesc}(hu:P.underlying t=some d)(w:World):
  ∃v,(part t xs.toArray o).run P w= .ok v w∧Packs P t v ((xs.drop o).take n):=by
 have hagg:=isAgg_run (P:=P) hu w
 have hre:=aggT_eq (P:=P) hu
 cases hd:d.isRow with
 | true=>
  refine⟨.agg (xs.toArray.extract o (o+n)),?_,?_⟩
  ·simp[part,hagg,hd,szOf_run hn]
  ·unfold Packs
   rw[hre,hd,if_pos rfl]
   congr 1
   apply Array.ext'
   simp[List.extract]
 | false=>
  have e1:=h1 (by rw[hre,hd])
  subst e1
  have hlt:o<xs.length:=by omega
  refine⟨xs[o],?_,?_⟩
  ·simp[part,hagg,hd,hlt]
  ·unfold Packs
   rw[hre,hd,if_neg (by simp)]
   rw[List.drop_eq_getElem_cons hlt]
   rfl

theorem flatT_sz {d:Nat}{t:TypeId}{ks:List Nat}(h:flatT P d t=some ks):∃u,P.underlying t=some u∧(aggT P t=false→ks.length=1):=by
 cases d with
 | zero=>simp[flatT]at h
 | succ d=>
  unfold flatT at h
  split at h
  case h_1 hu | h_2 _ hu | h_3 hu=>simp at h;subst h;exact⟨_,hu,fun _=>rfl⟩
  case h_4 fs hu=>exact⟨_,hu,fun ha=>by simp[aggT,hu]at ha⟩
  case h_5 n e hu=>exact⟨_,hu,fun ha=>by simp[aggT,hu]at ha⟩
  case h_6=>simp at h

def EqF (P:Program)(D:Nat)(t:TypeId)(ks:List Nat):Prop:=
 ∀(w:World) (x y:Value) (xs ys:List Value) (e:Bool),Packs P t x xs→Packs P t y ys→eqVals ks xs ys=some e→(Op.equalIn D t x y).run P w= .ok e w

theorem eqFields_flat {flat:TypeId→Option (List Nat)}{D:Nat}(hflat:∀t ks,flat t=some ks→EqF P D t ks∧∃u,P.underlying t=some u∧(aggT P t=false→ks.length=1))(w:World):
  ∀(fs:List Field) (o:Nat) (ks:List Nat) (xs ys:List Value) (e:Bool),flatFs P flat fs o=some ks→o≤xs.length→o≤ys.length→eqVals ks (xs.drop o) (ys.drop o)=some e→
   (Op.eqFields D xs.toArray ys.toArray fs).run P w= .ok e w
 | [],o,ks,xs,ys,e,h,hx,hy,he=>by
  simp only[flatFs,Option.some.injEq]at h
  subst h
  have hl:=eqVals_len he
  rw[List.eq_nil_of_length_eq_zero hl.1,List.eq_nil_of_length_eq_zero hl.2]at he
  simp[eqVals]at he
  subst he
  simp[Op.eqFields]
 | f::fs,o,ks,xs,ys,e,h,hx,hy,he=>by
  simp only[flatFs]at h
  split at h
  ·rename_i hc
   obtain⟨hname,hoff⟩:=hc
   split at h
   ·rename_i k1 n hfl hn
    split at h
    ·rename_i hkn
     split at h
     ·rename_i l hl
      simp at h;subst h
      obtain⟨hEq,u,hu,h1⟩:=hflat _ _ hfl
      have hlen:=eqVals_len he
      simp only[List.length_drop,List.length_append]at hlen
      have hone:aggT P f.type=false→n=1:=fun ha=>by rw[←hkn];exact h1 ha
      obtain⟨a,pa,ka⟩:=part_packs hn (xs:=xs) (o:=o) (by omega) hone hu w
      obtain⟨b,pb,kb⟩:=part_packs hn (xs:=ys) (o:=o) (by omega) hone hu w
      obtain⟨e1,e2,h1',h2',rfl⟩:=eqVals_append he
      rw[hkn]at h1' h2'
      have hr:=hEq w a b _ _ e1 ka kb h1'
      have ih:=eqFields_flat hflat w fs (o+n) l xs ys e2 hl (by omega) (by omega) (by rw[←List.drop_drop,←List.drop_drop];exact h2')
      subst hoff
      simp only[Op.eqFields,hname,ne_eq,not_false_eq_true,if_true,Sem.run_bind,pa,pb,Result.andThen_ok,hr,Sem.run_ite]
      cases e1
      ·simp
      ·simpa using ih
     ·simp at h
    ·simp at h
   ·simp at h
  ·simp at h

theorem eqItems_flat {D:Nat}{e:TypeId}{k:Nat}{ks:List Nat}(hEq:EqF P D e ks)(hk:szOf P e=some k)(hks:ks.length=k){u:TypeDesc}(hu:P.underlying e=some u)(h1:aggT P e=false→k=1)(w:World):
  ∀(m i:Nat) (xs ys:List Value) (r:Bool),i*k≤xs.length→i*k≤ys.length→eqVals (List.replicate m ks).flatten (xs.drop (i*k)) (ys.drop (i*k))=some r→
   (Op.eqItems D e k xs.toArray ys.toArray (List.range' i m)).run P w= .ok r w
 | 0,i,xs,ys,r,hx,hy,he=>by
  have hl:=eqVals_len he
  simp only[List.replicate_zero,List.flatten_nil,List.length_nil]at hl
  rw[List.eq_nil_of_length_eq_zero hl.1,List.eq_nil_of_length_eq_zero hl.2]at he
  simp[eqVals]at he
  subst he
  simp[Op.eqItems]
 | m+1,i,xs,ys,r,hx,hy,he=>by
  rw[List.replicate_succ,List.flatten_cons]at he
  have hlen:=eqVals_len he
  simp only[List.length_drop,List.length_append]at hlen
  obtain⟨a,pa,ka⟩:=part_packs hk (xs:=xs) (o:=i*k) (by omega) h1 hu w
  obtain⟨b,pb,kb⟩:=part_packs hk (xs:=ys) (o:=i*k) (by omega) h1 hu w
  obtain⟨e1,e2,h1',h2',rfl⟩:=eqVals_append he
  rw[hks]at h1' h2'
  have hr:=hEq w a b _ _ e1 ka kb h1'
  have e3:(i+1)*k=i*k+k:=by rw[Nat.add_mul,Nat.one_mul]
  have ih:=eqItems_flat hEq hk hks hu h1 w m (i+1) xs ys e2 (by omega) (by omega) (by rw[e3,←List.drop_drop,←List.drop_drop];exact h2')
  simp only[List.range'_succ,Op.eqItems,Sem.run_bind,pa,pb,Result.andThen_ok,hr,Sem.run_ite]
  cases e1
  ·simp
  ·simpa using ih

theorem eqVals_one {k:Nat}{x y:Value}{xs ys:List Value}{e:Bool}(hx:xs=[x])(hy:ys=[y])(h:eqVals [k] xs ys=some e):eqScalar k x y=some e:=by
 subst hx;subst hy
 simp only[eqVals]at h
 split at h
 ·rename_i e0 h0
  simp at h;subst h;exact h0
 ·simp at h

theorem flat_eq:∀(d D:Nat) (t:TypeId) (ks:List Nat),flatT P d t=some ks→EqF P (D+d) t ks
 | 0,_,_,_,h=>by simp[flatT]at h
 | d+1,D,t,ks,h=>by
  intro w x y xs ys e px py he
  unfold flatT at h
  split at h
  case h_1 hu=>
   simp at h;subst h
   have hag:aggT P t=false:=by simp[aggT,hu]
   simp only[Packs,hag,Bool.false_eq_true,if_false]at px py
   have hs:=eqVals_one px py he
   unfold eqScalar at hs
   split at hs<;>simp_all
   subst hs
   rw[←Nat.add_assoc]
   simp[Op.equalIn,run_underlying hu]
  case h_2 k hu=>
   simp at h;subst h
   have hag:aggT P t=false:=by simp[aggT,hu]
   simp only[Packs,hag,Bool.false_eq_true,if_false]at px py
   have hs:=eqVals_one px py he
   unfold eqScalar at hs
   split at hs<;>simp_all
   obtain⟨rfl,rfl⟩:=hs
   rw[←Nat.add_assoc]
   simp[Op.equalIn,run_underlying hu]
  case h_3 hu=>
   simp at h;subst h
   have hag:aggT P t=false:=by simp[aggT,hu]
   simp only[Packs,hag,Bool.false_eq_true,if_false]at px py
   have hs:=eqVals_one px py he
   unfold eqScalar at hs
   split at hs<;>simp_all
   subst hs
   rw[←Nat.add_assoc]
   exact run_equalIn_string w _ t _ _ hu
  case h_4 fs hu=>
   have hag:aggT P t=true:=by simp[aggT,hu]
   simp only[Packs,hag,if_true]at px py
   subst px;subst py
   split at h
   ·simp at h
   ·rename_i hst
    have hfs:P.fieldsOf t=fs:=by simp[Program.fieldsOf,hu]
    rw[←Nat.add_assoc,run_equalIn_struct w (D+d) t xs.toArray ys.toArray (by rw[hfs];exact hu) (by simpa using hst),hfs]
    exact eqFields_flat (fun t ks ht=>⟨flat_eq d D t ks ht,flatT_sz ht⟩) w fs.toList 0 ks xs ys e h (Nat.zero_le _) (Nat.zero_le _) (by simpa using he)
  case h_5 m el hu=>
   have hag:aggT P t=true:=by simp[aggT,hu]
   simp only[Packs,hag,if_true]at px py
   subst px;subst py
   split at h
   ·rename_i k1 k hfl hk
    split at h
    ·rename_i hkl
     simp at h;subst h
     obtain⟨u,hu',h1⟩:=flatT_sz hfl
     cases hi:P.info? el with
     | none=>simp[szOf,hi]at hk
     | some i=>
      have hc:P.cellsOf el=k:=by
       have e1:=run_sizeOf w hi
       rw[szOf_run hk w]at e1
       cases e1;rfl
      rw[←Nat.add_assoc,run_equalIn_array w (D+d) xs.toArray ys.toArray hu hi,hc,List.range_eq_range']
      exact eqItems_flat (flat_eq d D el k1 hfl) hk hkl hu' (fun ha=>by rw[←hkl];exact h1 ha) w m 0 xs ys e (by omega) (by omega) (by simpa using he)
    ·simp at h
   ·simp at h
  case h_6=>simp at h

variable {φ:Phi}{F:Nat→Nat→Prop}{H:Heap}{w:World}{β:Nat→Nat}{env:Env}{act:Act}{T:Nat}

theorem eqCells_vals {ks:List Nat}:∀{as bs:List AV} {e:Bool} {xs ys:List Value},eqCells ks as bs=some e→CL φ F H w as xs→CL φ F H w bs ys→eqVals ks xs ys=some e:=by
 induction ks with
 | nil=>
  intro as bs e xs ys h hx hy
  unfold eqCells at h
  split at h
  ·rw[List.eq_nil_of_length_eq_zero hx.1,List.eq_nil_of_length_eq_zero hy.1]
   simpa[eqVals] using h
  ·rename_i hh;cases hh
  ·simp at h
 | cons k0 ks0 ih=>
  intro as bs e xs ys h hx hy
  unfold eqCells at h
  split at h
  ·rename_i hh;cases hh
  ·rename_i k ks u as v bs hh
   cases hh
   cases xs with
   | nil=>have:=hx.1;simp at this
   | cons x xs=>
    cases ys with
    | nil=>have:=hy.1;simp at this
    | cons y ys=>
     have e1:=(hx.2 0 _ x rfl rfl).inv_val.1
     have e2:=(hy.2 0 _ y rfl rfl).inv_val.1
     subst e1;subst e2
     have hx':CL φ F H w as xs:=⟨by have:=hx.1;simpa using this,fun i c z hc hz=>hx.2 (i+1) c z hc hz⟩
     have hy':CL φ F H w bs ys:=⟨by have:=hy.1;simpa using this,fun i c z hc hz=>hy.2 (i+1) c z hc hz⟩
     split at h
     ·rename_i e0 h0
      split at h
      ·rename_i e' h'
       simp at h;subst h
       simp[eqVals,h0,ih h' hx' hy']
      ·simp at h
     ·simp at h
  ·simp at h

theorem p_eqa (s:St φ F H w β env act T)(neg:Bool)(t:TypeId)(x y:Operand)(yt:TypeId){v:AV}{ks:List Nat}(ha:aggT P t=true)(hk:flatT P 8 t=some ks)(hg:P.eqGuardType P.depth t=false)
  (h:rdOp (.eqa neg ks (cO x) (cO y)) env H=some v):Pure P φ F H w β act (.binOp (if neg then .neq else .eql) t x y yt) v:=by
 simp only[rdOp]at h
 split at h
 ·rename_i as bs hx hy
  split at h
  ·rename_i e he
   simp only[Option.some.injEq]at h;subst h
   obtain⟨xs,hxv,hxc⟩:=VRel.inv_agg (ev_of s hx)
   obtain⟨ys,hyv,hyc⟩:=VRel.inv_agg (ev_of s hy)
   have hrun:(Op.equal t (.agg xs.toArray) (.agg ys.toArray)).run P w= .ok e w:=by
    rw[equal_eq]
    exact flat_eq 8 9992 t ks hk w _ _ xs ys e (by simp[Packs,ha]) (by simp[Packs,ha]) (eqCells_vals he hxc hyc)
   have hguard:∀op,(eqGuard op t x y (.agg xs.toArray) (.agg ys.toArray)).run P w= .ok () w:=fun op=>by
    cases op<;>simp[eqGuard,hg]
   intro dst type pos after guard
   refine⟨.bool (if neg then !e else e),?_,VRel.one (.val _ rfl)⟩
   have b1:∀a b,binOp .eql t (.agg a) (.agg b)=(do pure (.bool (←Op.equal t (.agg a) (.agg b)))):=fun _ _=>rfl
   have b2:∀a b,binOp .neq t (.agg a) (.agg b)=(do pure (.bool (!(←Op.equal t (.agg a) (.agg b))))):=fun _ _=>rfl
   cases neg
   ·simp[execOp,hxv,hyv,hguard,b1,hrun]
   ·simp[execOp,hxv,hyv,hguard,b2,hrun]
  ·simp at h
 ·simp at h
end
end Go.Hm

namespace Go.Hm
open Go

section
variable {P:Program}{φ:Phi}{F:Nat→Nat→Prop}{H:Heap}{w:World}{β:Nat→Nat}{env:Env}{act:Act}{T:Nat}

theorem p_lenK (t:TypeId)(x:Operand)(n:Nat)(hu:(∃e,P.underlying t=some (.array n e))∨(∃a e,P.underlying t=some (.pointer a)∧P.underlying a=some (.array n e))){args:Array Operand}(hargs:args.toList=[x]){ats:Array TypeId}(hats:ats[0]?=some t):
  Pure P φ F H w β act (.call { callee:=.builtin .len,args,argTypes:=ats }) (.val (.int .i64 n)):=by
 intro dst type pos after guard
 have ha:args=#[x]:=by apply Array.ext';simpa using hargs
 subst ha
 refine⟨.int .i64 n,?_,VRel.one (.val _ rfl)⟩
 rcases hu with⟨e,hu⟩ | ⟨a,e,hu,hu'⟩
 ·simp[execOp,resolve,invoke,builtin,Builtin.len_,hats,run_underlying hu,goInt]
 ·simp[execOp,resolve,invoke,builtin,Builtin.len_,hats,run_underlying hu,run_underlying hu',goInt]

theorem slice_shape {a:AV}{v:Value}(h:ORel φ F H w β a v){n:Nat}(ha:(a= .e0∧n=0)∨(∃cs,a= .sl n cs)∨(∃b g off es,a= .hs b g off n es)):∃x cap,v= .slice x n cap∧n≤cap∧(x=none→n=0):=by
 rcases ha with⟨rfl,rfl⟩ | ⟨cs,rfl⟩ | ⟨b,g,off,es,rfl⟩
 ·obtain⟨x,rfl⟩:=VRel.inv_e0 h
  exact⟨x,0,rfl,Nat.le_refl _,fun _=>rfl⟩
 ·have h':VRel φ F H w (.sl n cs) v:=h
  cases h' with
  | one h'=>
   cases h' with
   | sl b o n' cap cells vs hn=>exact⟨_,_,rfl,hn,fun h=>by cases h⟩
   | slnil xx=>exact⟨_,_,rfl,Nat.le_refl _,fun _=>rfl⟩
 ·have h':VRel φ F H w (.hs b g off n es) v:=h
  cases h' with
  | one h'=>
   cases h' with
   | hs b g off n' es cs xx cap hb hg hn hx h2=>exact⟨_,_,rfl,hn,hx⟩

theorem p_lenC (s:St φ F H w β env act T)(t:TypeId)(x:Operand){v:AV}{e:TypeId}(hu:P.underlying t=some (.slice e)){args:Array Operand}(hargs:args.toList=[x]){ats:Array TypeId}(hats:ats[0]?=some t)
  (h:rdOp (.len false (cO x)) env H=some v):Pure P φ F H w β act (.call { callee:=.builtin .len,args,argTypes:=ats }) v:=by
 have ha:args=#[x]:=by apply Array.ext';simpa using hargs
 subst ha
 have sl:∀{n:Nat},(ev env (cO x)= .e0∧n=0)∨(∃cs,ev env (cO x)= .sl n cs)∨(∃b g off es,ev env (cO x)= .hs b g off n es)→v= .val (.int .i64 n)→
   Pure P φ F H w β act (.call { callee:=.builtin .len,args:=#[x],argTypes:=ats }) v:=by
  intro n hn hv
  subst hv
  obtain⟨xx,cap,hc,_,_⟩:=slice_shape (ev_rel s x) hn
  intro dst type pos after guard
  exact⟨.int .i64 n,by simp[execOp,resolve,invoke,builtin,Builtin.len_,hats,run_underlying hu,hc,goInt],VRel.one (.val _ rfl)⟩
 simp only[rdOp]at h
 split at h
 ·rename_i hx;exact sl (.inl ⟨hx,rfl⟩) (by simpa using h.symm)
 ·rename_i n cs hx;exact sl (.inr (.inl ⟨_,hx⟩)) (by simpa using h.symm)
 ·rename_i b g off n es hx;exact sl (.inr (.inr ⟨_,_,_,_,hx⟩)) (by simpa using h.symm)
 ·simp at h

theorem p_lenS (s:St φ F H w β env act T)(t:TypeId)(x:Operand){v:AV}(hu:P.underlying t=some .string){args:Array Operand}(hargs:args.toList=[x]){ats:Array TypeId}(hats:ats[0]?=some t)
  (h:rdOp (.len true (cO x)) env H=some v):Pure P φ F H w β act (.call { callee:=.builtin .len,args,argTypes:=ats }) v:=by
 have ha:args=#[x]:=by apply Array.ext';simpa using hargs
 subst ha
 simp only[rdOp]at h
 split at h
 ·rename_i str hx
  simp only[Option.some.injEq]at h
  subst h
  intro dst type pos after guard
  exact⟨.int .i64 str.size,by simp[execOp,resolve,invoke,builtin,Builtin.len_,hats,run_underlying hu,ev_val s hx,goInt],VRel.one (.val _ rfl)⟩
 ·simp at h

theorem p_ext (s:St φ F H w β env act T)(x:Operand)(i:Nat){v:AV}(h:rdOp (.ext (cO x) i) env H=some v):Pure P φ F H w β act (.extract x i) v:=by
 simp only[rdOp]at h
 split at h
 ·rename_i vs hx
  obtain⟨us,hu,hl,hr⟩:=VRel.inv_tup (ev_of s hx)
  have hi:i<us.length:=by rw[hl];exact(List.getElem?_eq_some_iff.1 h).1
  intro dst type pos after guard
  refine⟨us[i],by simp[execOp,hu,Instr.extract,hi],ORel.of (hr i v us[i] h (by simp[hi]))⟩
 ·simp at h

theorem p_fld (s:St φ F H w β env act T)(t:TypeId)(x:Operand)(f:Nat){fs:Array Field}{fd:Field}{n:Nat}{v:AV}{d:TypeDesc}(hu:P.underlying t=some (.struct fs))(hf:fs[f]?=some fd)(hn:szOf P fd.type=some n)(hd:P.underlying fd.type=some d)
  (h:rdOp (.fld fd.offset n (aggT P fd.type) (cO x)) env H=some v):Pure P φ F H w β act (.field t x f) v:=by
 have hre:=aggT_eq (P:=P) hd
 simp only[rdOp]at h
 split at h
 ·rename_i cs hx
  obtain⟨us,hu',hcl⟩:=VRel.inv_agg (ev_of s hx)
  intro dst type pos after guard
  cases hr:d.isRow with
  | true=>
   rw[hre,hr,if_pos rfl]at h
   split at h
   ·simp at h;subst h
    refine⟨.agg ((us.drop fd.offset).take n).toArray,?_,ORel.of (.agg _ _ ((hcl.drop _).take _))⟩
    simp[execOp,hu',Instr.field,run_underlying hu,hf,asAgg,part,isAgg_run hd,hr,szOf_run hn,List.extract]
   ·simp at h
  | false=>
   rw[hre,hr]at h
   simp at h
   obtain⟨cv,hcv,hrel⟩:=hcl.get h
   refine⟨cv,?_,ORel.of (.one hrel)⟩
   simp[execOp,hu',Instr.field,run_underlying hu,hf,asAgg,part,isAgg_run hd,hr,hcv]
 ·simp at h

theorem p_ixG (s:St φ F H w β env act T)(t:TypeId)(x i:Operand){len:Nat}{e:TypeId}{k:Nat}{v:AV}{d:TypeDesc}(hu:P.underlying t=some (.array len e))(hk:szOf P e=some k)(hd:P.underlying e=some d)
  (h:rdOp (.ixG len k (aggT P e) (cO x) (cO i)) env H=some v):Pure P φ F H w β act (.index t x i) v:=by
 have hre:=aggT_eq (P:=P) hd
 simp only[rdOp]at h
 split at h
 ·rename_i q n hi
  have hiv:=ev_val s hi
  split at h
  ·rename_i cs hx
   obtain⟨us,hu',hcl⟩:=VRel.inv_agg (ev_of s hx)
   split at h
   ·rename_i hr
    intro dst type pos after guard
    cases hrow:d.isRow with
    | true=>
     rw[hre,hrow,if_pos rfl]at h
     split at h
     ·simp at h;subst h
      refine⟨.agg ((us.drop (n.toNat*k)).take k).toArray,?_,ORel.of (.agg _ _ ((hcl.drop _).take _))⟩
      simp[execOp,hu',hiv,Instr.index,asIntOf,run_underlying hu,hr.1,hr.2,part,isAgg_run hd,hrow,szOf_run hk,List.extract]
     ·simp at h
    | false=>
     rw[hre,hrow]at h
     simp at h
     obtain⟨cv,hcv,hrel⟩:=hcl.get h
     refine⟨cv,?_,ORel.of (.one hrel)⟩
     simp[execOp,hu',hiv,Instr.index,asIntOf,run_underlying hu,hr.1,hr.2,part,isAgg_run hd,hrow,szOf_run hk,hcv]
   ·simp at h
  ·simp at h
 ·simp at h

theorem p_ixS (s:St φ F H w β env act T)(t:TypeId)(x i:Operand){v:AV}(hu:P.underlying t=some .string)(h:rdOp (.ixS (cO x) (cO i)) env H=some v):Pure P φ F H w β act (.index t x i) v:=by
 simp only[rdOp]at h
 split at h
 ·rename_i q n hi
  have hiv:=ev_val s hi
  split at h
  ·rename_i str hx
   split at h
   ·rename_i h0
    split at h
    ·rename_i b hb
     simp only[Option.some.injEq]at h;subst h
     intro dst type pos after guard
     exact⟨.int .u8 b.toNat,by simp[execOp,ev_val s hx,hiv,Instr.index,asIntOf,run_underlying hu,h0,hb],VRel.one (.val _ rfl)⟩
    ·simp at h
   ·simp at h
  ·simp at h
 ·simp at h

theorem bnd_run (s:St φ F H w β env act T){x:Option Operand}{dflt y n:Nat}(h:bnd env (x.map cO) dflt y=some n)(code:BoundsCode)(w:World):
  (match x.map act.eval with | some v=>Instr.sliceBound v y code | none=>Pure.pure dflt).run P w= .ok n w∧(x=none→n=dflt)∧(x≠none→n≤y):=by
 cases x with
 | none=>
  simp[bnd]at h
  exact⟨by simp[h],fun _=>h.symm,fun hh=>absurd rfl hh⟩
 | some o=>
  simp only[bnd,Option.map_some]at h
  split at h
  ·rename_i q i hi
   split at h
   ·rename_i hr
    simp at h;subst h
    refine⟨?_,(fun hh=>by cases hh),(fun _=>by omega)⟩
    simp[Instr.sliceBound,ev_val s hi,asIntOf,hr.1,hr.2]
   ·simp at h
  ·simp at h

theorem bounds_run (s:St φ F H w β env act T){lo hi:Option Operand}{isS:Bool}{len cap l h:Nat}(hlc:len≤cap)(hh:bnd env (hi.map cO) len len=some h)(hl:bnd env (lo.map cO) 0 h=some l)(w:World):
  (Instr.sliceBounds isS len cap (lo.map act.eval) (hi.map act.eval) none).run P w= .ok (l,h,cap) w∧h≤len∧l≤h:=by
 have hhle:h≤len:=by
  have:=bnd_run (P:=P) s hh .sliceB w
  by_cases e:hi=none
  ·rw[this.2.1 e];exact Nat.le_refl _
  ·exact this.2.2 e
 have hlle:l≤h:=by
  have:=bnd_run (P:=P) s hl .sliceB w
  by_cases e:lo=none
  ·rw[this.2.1 e];exact Nat.zero_le _
  ·exact this.2.2 e
 have hh2:bnd env (hi.map cO) len cap=some h:=by
  cases hi with
  | none=>simpa[bnd] using hh
  | some o=>
   simp only[bnd,Option.map_some]at hh ⊢
   split at hh
   ·rename_i q i hi
    split at hh
    ·rename_i hr
     have e:(0≤i∧i≤(cap:Int)):=⟨hr.1,by omega⟩
     rw[if_pos e];exact hh
    ·simp at hh
   ·simp at hh
 have r1:=(bnd_run (P:=P) s hh2 (if isS=true then .sliceAcap else .sliceAlen) w).1
 have r2:=(bnd_run (P:=P) s hl .sliceB w).1
 refine⟨?_,hhle,hlle⟩
 unfold Instr.sliceBounds
 cases hi with
 | none=>
  cases lo with
  | none=>simp at r1 r2 ⊢;omega
  | some o=>simp at r1 r2 ⊢;simp[r1,r2]
 | some o'=>
  cases lo with
  | none=>simp at r1 r2 ⊢;simp[r1,r2]
  | some o=>simp at r1 r2 ⊢;simp[r1,r2]

theorem p_slS (s:St φ F H w β env act T)(t:TypeId)(x:Operand)(lo hi:Option Operand){v:AV}(hu:P.underlying t=some .string)(h:rdOp (.slS (cO x) (lo.map cO) (hi.map cO)) env H=some v):Pure P φ F H w β act (.slice t x lo hi none) v:=by
 simp only[rdOp]at h
 split at h
 ·rename_i str hx
  split at h
  ·rename_i hb hhb
   split at h
   ·rename_i lb hlb
    simp only[Option.some.injEq]at h;subst h
    have hr:=(bounds_run (P:=P) s (isS:=false) (Nat.le_refl _) hhb hlb w).1
    intro dst type pos after guard
    refine⟨.string (str.extract lb hb),?_,VRel.one (.val _ rfl)⟩
    simp only[execOp,ev_val s hx,Instr.sliceAt,Instr.slice,Sem.run_bind,run_underlying hu,Result.andThen_ok,Option.map_none]
    simp[hr]
   ·simp at h
  ·simp at h
 ·simp at h

theorem p_slC (s:St φ F H w β env act T)(t:TypeId)(x:Operand)(lo hi:Option Operand){v:AV}{e:TypeId}{k:Nat}(hu:P.underlying t=some (.slice e))(hk:szOf P e=some k)(h:rdOp (.slC k (cO x) (lo.map cO) (hi.map cO)) env H=some v):Pure P φ F H w β act (.slice t x lo hi none) v:=by
 have fin:∀{n cap l hh:Nat} {xx:Option Addr} {r:AV},act.eval x= .slice xx n cap→n≤cap→bnd env (hi.map cO) n n=some hh→bnd env (lo.map cO) 0 hh=some l→
   ORel φ F H w β r (.slice (if cap=l then xx else xx.map (·.add (l*k))) (hh-l) (cap-l))→Pure P φ F H w β act (.slice t x lo hi none) r:=by
  intro n cap l hh xx r hx hnc hhb hlb hr
  have hb:=(bounds_run (P:=P) s (isS:=true) hnc hhb hlb w).1
  intro dst type pos after guard
  refine⟨_,?_,hr⟩
  simp only[execOp,hx,Instr.sliceAt,Instr.slice,Sem.run_bind,run_underlying hu,Result.andThen_ok,Option.map_none]
  simp[hb,szOf_run hk]
 simp only[rdOp]at h
 split at h
 ·rename_i hx
  split at h
  ·rename_i hh hhb
   split at h
   ·rename_i l hlb
    simp at h;subst h
    obtain⟨xx,hc⟩:=VRel.inv_e0 (ev_of s hx)
    have hb:=bounds_run (P:=P) s (isS:=true) (Nat.le_refl 0) hhb hlb w
    refine fin hc (Nat.le_refl _) hhb hlb ?_
    have e1:hh=0:=by omega
    have e2:l=0:=by omega
    subst e1;subst e2
    exact VRel.one (.e0 _)
   ·simp at h
  ·simp at h
 ·rename_i n cs hx
  split at h
  ·rename_i hh hhb
   split at h
   ·rename_i l hlb
    simp at h;subst h
    have h':VRel φ F H w (.sl n cs) (act.eval x):=ev_of s hx
    generalize hcv:act.eval x=cv at h'
    cases h' with
    | one h'=>
     cases h' with
     | sl b o n' cap cells vs hn hl hF hc hr=>
      have hb':=bounds_run (P:=P) s (isS:=true) hn hhb hlb w
      refine fin hcv hn hhb hlb ?_
      have hcl:CL φ F H w cs vs:=⟨hl,hr⟩
      by_cases ec:cap=l
      ·rw[if_pos ec]
       have e1:hh-l=0:=by omega
       rw[e1]
       simp only[Nat.zero_mul,List.take_zero]
       exact VRel.one (.sl b o 0 _ [] [] (Nat.zero_le _) rfl (fun i hi=>by simp at hi) (fun i v hv=>by simp at hv) (fun i a v ha=>by simp at ha))
      ·rw[if_neg ec]
       have hcl':=(hcl.drop (l*k)).take ((hh-l)*k)
       simp only[Option.map_some,add_none]
       refine VRel.one (.sl b (o+l*k) (hh-l) _ _ _ (by omega) hcl'.1 ?_ ?_ hcl'.2)
       ·intro i hi
        have:l*k+i<cs.length:=by simp at hi;omega
        rw[Nat.add_assoc];exact hF _ this
       ·intro i v hv
        rw[List.getElem?_take]at hv
        split at hv
        ·rw[List.getElem?_drop]at hv
         rw[Nat.add_assoc];exact hc _ v hv
        ·simp at hv
     | slnil xx=>
      have hb':=bounds_run (P:=P) s (isS:=true) (Nat.le_refl 0) hhb hlb w
      refine fin hcv (Nat.le_refl _) hhb hlb ?_
      have e1:hh=0:=by omega
      have e2:l=0:=by omega
      subst e1;subst e2
      have e3:ORel φ F H w β (.sl 0 []) (.slice xx 0 0):=VRel.one (.slnil xx)
      simpa using e3
   ·simp at h
  ·simp at h
 ·rename_i b g off n es hx
  split at h
  ·rename_i hes
   subst hes
   split at h
   ·rename_i hh hhb
    split at h
    ·rename_i l hlb
     simp at h;subst h
     have h':VRel φ F H w (.hs b g off n es) (act.eval x):=ev_of s hx
     generalize hcv:act.eval x=cv at h'
     cases h' with
     | one h'=>
      cases h' with
      | hs b g off n' es cs xx cap hb hg hn hxn h2=>
       have hb':=bounds_run (P:=P) s (isS:=true) hn hhb hlb w
       refine fin hcv hn hhb hlb (VRel.one ?_)
       refine .hs b g (off+l*es) (hh-l) es cs _ (cap-l) hb hg (by omega) ?_ (fun eg=>?_)
       ·intro hnone
        by_cases ec:cap=l
        ·omega
        ·rw[if_neg ec]at hnone
         have:xx=none:=by cases xx<;>simp_all
         have:=hxn this
         omega
       ·rcases h2 eg with⟨h0g,hd,hx2,hgc,arr,ty,ha,hsz⟩ | ⟨h0,hc0,hgo⟩
        ·by_cases ec:cap=l
         ·subst ec
          exact .inr ⟨by omega,by omega,hgc⟩
         ·rw[if_neg ec,hx2]
          have e4:cap*es=l*es+(cap-l)*es:=by rw[←Nat.add_mul];congr 1;omega
          refine .inl ⟨h0g,by omega,by simp[add_none];omega,by omega,arr,ty,ha,by omega⟩
        ·exact .inr ⟨by omega,by omega,by omega⟩
    ·simp at h
   ·simp at h
  ·simp at h
 ·simp at h
end
end Go.Hm

namespace Go.Hm
open Go

section
variable {P:Program}{φ:Phi}{F:Nat→Nat→Prop}{H:Heap}{w:World}{β:Nat→Nat}{env:Env}{act:Act}{T:Nat}

theorem p_sl00 (s:St φ F H w β env act T)(t:TypeId)(x:Operand)(lo hi mx:Option Operand){v:AV}{e:TypeId}{k:Nat}(hu:P.underlying t=some (.slice e))(hk:szOf P e=some k)(h0:isZero mx=true∧isZero hi=true∧(isZero lo=true∨lo=none))
  (h:rdOp (.sl00 (cO x)) env H=some v):Pure P φ F H w β act (.slice t x lo hi mx) v:=by
 have zero:∀{o:Option Operand},isZero o=true→∃k,o=some (.const (.int k 0)):=by
  intro o ho
  unfold isZero at ho
  split at ho
  ·exact⟨_,rfl⟩
  ·simp at ho
 obtain⟨k1,rfl⟩:=zero h0.1
 obtain⟨k2,rfl⟩:=zero h0.2.1
 have key:∃xx n cap,act.eval x= .slice xx n cap∧v= .e0:=by
  simp only[rdOp]at h
  split at h<;>simp at h
  ·rename_i hx;obtain⟨xx,cap,hc,_⟩:=slice_shape (ev_of s hx) (.inl ⟨rfl,rfl⟩);exact⟨_,_,_,hc,h.symm⟩
  ·rename_i hx;obtain⟨xx,cap,hc,_⟩:=slice_shape (ev_of s hx) (.inr (.inl ⟨_,rfl⟩));exact⟨_,_,_,hc,h.symm⟩
  ·rename_i hx;obtain⟨xx,cap,hc,_⟩:=slice_shape (ev_of s hx) (.inr (.inr ⟨_,_,_,_,rfl⟩));exact⟨_,_,_,hc,h.symm⟩
 obtain⟨xx,n,cap,hx,rfl⟩:=key
 intro dst type pos after guard
 refine⟨.slice xx 0 0,?_,VRel.one (.e0 _)⟩
 have c1:act.eval (.const (.int k1 0))= .int k1 0:=rfl
 have c2:act.eval (.const (.int k2 0))= .int k2 0:=rfl
 rcases h0.2.2 with hlo | rfl
 ·obtain⟨k3,rfl⟩:=zero hlo
  have c3:act.eval (.const (.int k3 0))= .int k3 0:=rfl
  simp[execOp,hx,Instr.sliceAt,Instr.slice,run_underlying hu,Instr.sliceBounds,Instr.sliceBound,c1,c2,c3,asIntOf,szOf_run hk]
 ·simp[execOp,hx,Instr.sliceAt,Instr.slice,run_underlying hu,Instr.sliceBounds,Instr.sliceBound,c1,c2,asIntOf,szOf_run hk]

theorem p_mkf (s:St φ F H w β env act T)(f:FuncId)(first caps:Array Operand){v:AV}(hf:f<1000)(h0:first.size=0)(h:rdOp (.mkf f (caps.toList.map cO)) env H=some v):Pure P φ F H w β act (.makeFunc (.func f) first caps) v:=by
 have hfirst:first=#[]:=Array.eq_empty_of_size_eq_zero h0
 subst hfirst
 simp only[rdOp]at h
 split at h
 ·rename_i hall
  simp only[Option.some.injEq]at h;subst h
  intro dst type pos after guard
  refine⟨.func (.func f) #[] (caps.map act.eval),by simp[execOp,Instr.makeFunc],VRel.one ?_⟩
  have:=CRel.fn (φ:=φ) (F:=F) (H:=H) (w:=w) f (caps.toList.map cO |>.map (ev env)) (caps.toList.map act.eval) (by simp) (fun i a u ha hu=>by
   simp only[List.map_map,List.getElem?_map,Option.map_eq_some_iff,Function.comp]at ha hu
   obtain⟨o,ho,rfl⟩:=ha
   obtain⟨o',ho',rfl⟩:=hu
   rw[ho]at ho';cases ho'
   have h1:one (ev env (cO o))=true:=by
    rw[List.all_eq_true]at hall
    exact hall _ (by
     simp only[List.map_map,List.mem_map,Function.comp]
     exact⟨o,List.mem_of_getElem? ho,rfl⟩)
   have hr:=ev_rel s o
   generalize ev env (cO o)=a at hr h1
   cases a<;>simp[one]at h1
   all_goals exact VRel.cell hr rfl)
  rw[Nat.mod_eq_of_lt hf]at this
  have e:(caps.toList.map act.eval).toArray=caps.map act.eval:=by
   apply Array.ext';simp
  rw[e]at this
  exact this
 ·simp at h

theorem slCells_rel (s:SR φ F H w){a:AV}{v:Value}{cs:List AV}(h:ORel φ F H w β a v)(hc:slCells H a=some cs):
  ∃x n cap,v= .slice x n cap∧slN a=n∧(cs=[]∨∃k o,x=some ⟨k,o,none⟩∧RowAt φ F H w k o cs)∧(x=none→n=0):=by
 unfold slCells at hc
 split at hc
 ·simp at hc;subst hc
  obtain⟨x,rfl⟩:=VRel.inv_e0 h
  exact⟨_,_,_,rfl,rfl,.inl rfl,fun _=>rfl⟩
 ·rename_i n cs'
  simp at hc;subst hc
  have h':VRel φ F H w (.sl n cs') v:=h
  cases h' with
  | one h'=>
   cases h' with
   | sl b o n' cap cells vs hn hl hF hcc hr=>
    refine⟨_,_,_,rfl,rfl,.inr ⟨b,o,rfl,fun i a ha=>?_⟩,fun h=>by cases h⟩
    have hi:i<vs.length:=by rw[hl];exact(List.getElem?_eq_some_iff.1 ha).1
    exact⟨vs[i],hcc i _ (by simp[hi]),hr i a _ ha (by simp[hi])⟩
   | slnil=>exact⟨_,_,_,rfl,rfl,.inl rfl,fun _=>rfl⟩
 ·rename_i b g off n es
  split at hc
  ·rename_i cs' hb
   split at hc
   ·rename_i hg
    simp at hc;subst hc
    have h':VRel φ F H w (.hs b g off n es) v:=h
    cases h' with
    | one h'=>
     cases h' with
     | hs b g off n' es cs2 xx cap hb2 hg2 hn hxn h2=>
      rw[hb]at hb2;cases hb2
      refine⟨_,_,_,rfl,rfl,?_,hxn⟩
      rcases h2 hg.1 with⟨_,hd,hx2,_⟩ | ⟨h0,_⟩
      ·by_cases hne:cs'=[]
       ·left;simp[hne]
       ·right
        refine⟨(φ b).1,off-(φ b).2,hx2,fun i a ha=>?_⟩
        rw[List.getElem?_take]at ha
        split at ha
        ·rw[List.getElem?_drop]at ha
         obtain⟨u,hu,hr⟩:=(s.blk b cs' hb hne).row (off-(φ b).2+i) a (by rw[List.getElem?_drop,show (φ b).2+(off-(φ b).2+i)=off+i from by omega];exact ha)
         rw[Nat.zero_add]at hu
         exact⟨u,hu,hr⟩
        ·simp at ha
      ·left;simp[h0]
   ·simp at hc
  ·simp at hc
 ·simp at hc

theorem bytes_row {k o:Nat}:∀{cs:List AV} {l:List UInt8},bytesOf cs=some l→RowAt φ F H w k o cs→∃ns:List Int,ns.length=cs.length∧l=ns.map (fun n=>UInt8.ofNat n.toNat)∧∀(i:Nat) n,ns[i]?=some n→w.cell? ⟨k,o+i,none⟩=some (.int .u8 n)
 | [],l,h,_=>by
  simp[bytesOf]at h;subst h
  exact⟨[],rfl,rfl,fun i n hn=>by simp at hn⟩
 | a::cs,l,h,hr=>by
  unfold bytesOf at h
  split at h
  ·rename_i hh;cases hh
  ·rename_i n r hh
   cases hh
   split at h
   ·rename_i l' hl'
    simp at h;subst h
    have hr':RowAt φ F H w k (o+1) cs:=fun i a ha=>by
     have:=hr (i+1) a (by simpa using ha)
     rwa [show o+1+i=o+(i+1) from by omega]
    obtain⟨ns,h1,h2,h3⟩:=bytes_row hl' hr'
    refine⟨n::ns,by simp[h1],by simp[h2],fun i m hm=>?_⟩
    cases i with
    | zero=>
     simp at hm;subst hm
     obtain⟨u,hu,hrel⟩:=hr 0 _ rfl
     rw[hu,hrel.inv_val.1]
    | succ i=>
     have:=h3 i m (by simpa using hm)
     rwa [show o+1+i=o+(i+1) from by omega]at this
   ·simp at h
  ·simp at h

theorem foldl_push (ns:List Int):∀(s0:ByteArray),ns.foldl (fun r n=>r.push (UInt8.ofNat n.toNat)) s0=⟨s0.data++(ns.map (fun n=>UInt8.ofNat n.toNat)).toArray⟩:=by
 induction ns with
 | nil=>intro s0;simp
 | cons n ns ih=>
  intro s0
  rw[List.foldl_cons,ih]
  congr 1
  simp[ByteArray.push]

theorem p_b2s (s:St φ F H w β env act T)(src dt:TypeId)(x:Operand){v:AV}{e:TypeId}(hs:P.underlying src=some (.slice e))(he:P.underlying e=some (.int .u8))(hd:P.underlying dt=some .string)
  (h:rdOp (.b2s (cO x)) env H=some v):Pure P φ F H w β act (.convert src dt x) v:=by
 simp only[rdOp]at h
 split at h
 ·rename_i cs hcs
  split at h
  ·rename_i hlen
   split at h
   ·rename_i l hl
    simp only[Option.some.injEq]at h;subst h
    obtain⟨xx,n,cap,hx,hn,hrow,hnil⟩:=slCells_rel s.sr (ev_rel s x) hcs
    intro dst type pos after guard
    refine⟨.string ⟨l.toArray⟩,?_,VRel.one (.val _ rfl)⟩
    have conv:(convert src dt (act.eval x)).run P w=(Conv.bytesToString (act.eval x)).run P w:=by
     simp[convert,run_underlying hs,run_underlying hd,run_underlying he,hx]
    have fin:(Conv.bytesToString (act.eval x)).run P w= .ok (.string ⟨l.toArray⟩) w:=by
     rw[hx]
     rcases hrow with rfl | ⟨k,o,rfl,hrow⟩
     ·simp[bytesOf]at hl;subst hl
      simp only[List.length_nil]at hlen
      have e0:n=0:=by omega
      subst e0
      cases xx with
      | none=>simp[Conv.bytesToString];rfl
      | some ad=>
       rw[run_bytesToString w ad 0 cap [] (by simp[loadCells,loadCellsFrom])]
       rfl
     ·obtain⟨ns,h1,h2,h3⟩:=bytes_row hl hrow
      have hload:(loadCells ⟨k,o,none⟩ n).run P w= .ok (ns.map (Value.int .u8)).toArray w:=by
       have:=run_loadCells_list (P:=P) w ⟨k,o,none⟩ (ns.map (Value.int .u8)) (fun j v hv=>by
        simp only[List.getElem?_map,Option.map_eq_some_iff]at hv
        obtain⟨m,hm,rfl⟩:=hv
        rw[add_none];exact h3 j m hm)
       rw[List.length_map,h1,hlen,hn]at this
       exact this
      rw[run_bytesToString w _ n cap ns hload,foldl_push,h2]
      simp
    simp[execOp,conv,fin]
   ·simp at h
  ·simp at h
 ·simp at h

theorem mm_run (s:St φ F H w β env act T)(mx:Bool):∀(args:List Operand) (k:IntKind) (a:Int) (k':IntKind) (m:Int),mmFold mx (args.map (fun o=>ev env (cO o))) k a=some (k',m)→
  ((args.map act.eval).foldlM (if mx then Builtin.max2 else Builtin.min2) (.int k a)).run P w= .ok (.int k' m) w
 | [],k,a,k',m,h=>by
  simp[mmFold]at h
  obtain⟨rfl,rfl⟩:=h
  simp
 | o::r,k,a,k',m,h=>by
  simp only[List.map_cons]at h ⊢
  unfold mmFold at h
  split at h
  ·rename_i hh;cases hh
  ·rename_i q b rr hh
   injection hh with h1 h2
   subst h2
   have hv:=ev_val s h1
   rw[List.foldlM_cons,Sem.run_bind,hv]
   cases mx
   ·simp only[Bool.false_eq_true,if_false,Builtin.min2,Sem.run_pure,Result.andThen_ok]at h ⊢
    exact mm_run s false r _ _ k' m h
   ·simp only[if_true,Builtin.max2,Sem.run_pure,Result.andThen_ok]at h ⊢
    exact mm_run s true r _ _ k' m h
  ·simp at h

theorem p_mm (s:St φ F H w β env act T)(mx:Bool){args:Array Operand}{ats:Array TypeId}{v:AV}(h:rdOp (.mm mx (args.toList.map cO)) env H=some v):
  Pure P φ F H w β act (.call { callee:=.builtin (if mx then .max else .min),args,argTypes:=ats }) v:=by
 simp only[rdOp]at h
 split at h
 ·simp at h
 ·rename_i x r hargs
  split at h
  ·rename_i k a hx
   split at h
   ·rename_i k' m hm
    simp only[Option.some.injEq]at h;subst h
    obtain⟨o,os,hl,rfl,rfl⟩:∃o os,args.toList=o::os∧x=cO o∧r=os.map cO:=by
     cases hal:args.toList with
     | nil=>simp[hal]at hargs
     | cons o os=>simp[hal]at hargs;exact⟨o,os,rfl,hargs.1.symm,hargs.2.symm⟩
    have ha:args=(o::os).toArray:=by apply Array.ext';simpa using hl
    subst ha
    have hrun:=mm_run (P:=P) s mx os k a k' m (by rw[List.map_map]at hm;exact hm)
    intro dst type pos after guard
    refine⟨.int k' m,?_,VRel.one (.val _ rfl)⟩
    cases mx
    ·simp only[Bool.false_eq_true,if_false]at hrun ⊢
     simp[execOp,resolve,invoke,builtin,Builtin.min_,ev_val s hx,hrun]
    ·simp only[if_true]at hrun ⊢
     simp[execOp,resolve,invoke,builtin,Builtin.max_,ev_val s hx,hrun]
   ·simp at h
  ·simp at h
end
end Go.Hm

namespace Go.Hm
open Go

theorem set_fold:∀(new:List Value) (k:Nat) (off:Nat) (cells:Array Value),off+k+new.length≤cells.size→
  ((new.zipIdx k).foldl (fun cs (c,j)=>cs.setIfInBounds (off+j) c) cells).toList=cells.toList.take (off+k)++new++cells.toList.drop (off+k+new.length)
 | [],k,off,cells,h=>by simp
 | v::r,k,off,cells,h=>by
  simp only[List.zipIdx_cons,List.foldl_cons]
  rw[set_fold r (k+1) off _ (by simp at h ⊢;omega)]
  have e:=list_seg_step cells.toList (off+k) v r (by simp at h ⊢;omega)
  simp only[Array.toList_setIfInBounds]
  rw[show off+(k+1)=off+k+1 from by omega]
  simp only[List.length_cons]at e ⊢
  simpa[Nat.add_assoc,Nat.add_comm,Nat.add_left_comm] using e

section
variable {P:Program}{φ:Phi}{F:Nat→Nat→Prop}{H:Heap}{w:World}{β:Nat→Nat}{env:Env}{act:Act}{T:Nat}

theorem fill_rel (s:St φ F H w β env act T)(place:Nat→Option (Nat×Nat)):∀(parts:List (Nat×Operand)) (l:List (Nat×Nat×AO)) (z cs:List AV) (zv:Array Value),
  partsC place parts=some l→fillP env l z=some cs→CL φ F H w z zv.toList→
  ∃out,Instr.fill place zv (parts.map fun (i,x)=>(i,act.eval x))=some out∧CL φ F H w cs out.toList
 | [],l,z,cs,zv,hp,hf,hz=>by
  simp[partsC]at hp;subst hp
  simp[fillP]at hf;subst hf
  exact⟨zv,rfl,hz⟩
 | (i,x)::r,l,z,cs,zv,hp,hf,hz=>by
  simp only[partsC]at hp
  split at hp
  ·rename_i off n hpl
   split at hp
   ·rename_i l' hl'
    simp at hp;subst hp
    simp only[fillP]at hf
    split at hf
    ·rename_i new hnew
     split at hf
     ·rename_i hc
      obtain⟨hcl,_⟩:=cellsV_rel (ev_rel s x) hnew
      have hsz:(act.eval x).cells.size=n:=by have:=hcl.1;simp at this;omega
      have hzs:zv.size=z.length:=by have:=hz.1;simpa using this
      have hset:=set_fold (act.eval x).cells.toList 0 off zv (by simp[hsz,hzs];exact hc.2)
      have hz':CL φ F H w (replaceAt z off new) (((act.eval x).cells.zipIdx.foldl (fun cs (c,j)=>cs.setIfInBounds (off+j) c) zv).toList):=by
       have e:(act.eval x).cells.zipIdx.foldl (fun cs (c,j)=>cs.setIfInBounds (off+j) c) zv=((act.eval x).cells.toList.zipIdx 0).foldl (fun cs (c,j)=>cs.setIfInBounds (off+j) c) zv:=by
        rw[←Array.foldl_toList];simp
       rw[e,hset]
       unfold replaceAt
       have hl2:(act.eval x).cells.toList.length=new.length:=hcl.1
       rw[Nat.add_zero,hl2]
       exact((hz.take off).append hcl).append (hz.drop _)
      obtain⟨out,ho,hcs⟩:=fill_rel s place r l' _ cs _ hl' hf hz'
      refine⟨out,?_,hcs⟩
      simp only[List.map_cons,Instr.fill,hpl]
      rw[if_neg (by simp[hsz,hzs];exact hc.2)]
      exact ho
     ·simp at hf
    ·simp at hf
   ·simp at hp
  ·simp at hp

theorem zOf_run {t:TypeId}{z:List AV}(h:zOf P t=some z):∃i zv,P.info? t=some i∧i.zero=some zv∧of1s zv.cells.toList=some z:=by
 unfold zOf at h
 split at h
 ·rename_i zv hz
  cases hi:P.info? t with
  | none=>simp[hi]at hz
  | some i=>simp[hi]at hz;exact⟨i,zv,rfl,hz,h⟩
 ·simp at h
theorem zeroValue_run {t:TypeId}{i:TypeInfo}{zv:Value}(hi:P.info? t=some i)(hz:i.zero=some zv)(w:World):(zeroValue t).run P w= .ok zv w:=by
 simp[zeroValue,typeInfo,hi,hz]

theorem places_run:∀(fs:List Field),fs.all (fun f=>(szOf P f.type).isSome)=true→∀w:World,
  (fs.mapM (m:=Sem) fun (f:Field)=>do pure (f.offset,←sizeOf f.type)).run P w= .ok (fs.map fun (f:Field)=>(f.offset,(szOf P f.type).getD 0)) w
 | [],_,w=>by simp
 | f::fs,h,w=>by
  simp only[List.all_cons,Bool.and_eq_true]at h
  obtain⟨n,hn⟩:=Option.isSome_iff_exists.1 h.1
  simp only[List.mapM_cons,Sem.run_bind,szOf_run hn,Result.andThen_ok,Sem.run_pure,places_run fs h.2,List.map_cons,hn,Option.getD_some]

theorem p_build_struct (s:St φ F H w β env act T)(t:TypeId)(parts:Array (Nat×Operand)){fs:Array Field}{z:List AV}{l:List (Nat×Nat×AO)}{v:AV}(hu:P.underlying t=some (.struct fs))(hz:zOf P t=some z)
  (hall:fs.toList.all (fun (f:Field)=>(szOf P f.type).isSome)=true)
  (hl:partsC (fun (i:Nat)=>match (fs[i]?:Option Field) with
     | some (f:Field)=>(szOf P f.type).map fun n=>(f.offset,n)
     | none=>none) parts.toList=some l)
  (h:rdOp (.build z l) env H=some v):Pure P φ F H w β act (.build t parts) v:=by
 simp only[rdOp]at h
 split at h
 ·rename_i cs hcs
  simp only[Option.some.injEq]at h;subst h
  obtain⟨i,zv,hi,hzv,hof⟩:=zOf_run hz
  obtain⟨out,ho,hcl⟩:=fill_rel s _ parts.toList l z cs zv.cells hl hcs (of1s_rel hof)
  intro dst type pos after guard
  refine⟨.agg out,?_,?_⟩
  ·have hp:=places_run fs.toList hall w
   have hpa:(fs.mapM (m:=Sem) fun (f:Field)=>do pure (f.offset,←sizeOf f.type)).run P w= .ok (fs.map fun (f:Field)=>(f.offset,(szOf P f.type).getD 0)) w:=by
    obtain⟨fl⟩:=fs
    simp only[List.mapM_toArray,Sem.run_map,hp,Result.andThen_ok]
    simp
   have hplace:(fun i=>(fs.map fun (f:Field)=>(f.offset,(szOf P f.type).getD 0))[i]?)=(fun (i:Nat)=>match (fs[i]?:Option Field) with
     | some (f:Field)=>(szOf P f.type).map fun n=>(f.offset,n)
     | none=>none):=by
    funext i
    simp only[Array.getElem?_map]
    cases hfi:fs[i]? with
    | none=>rfl
    | some f=>
     have:(szOf P f.type).isSome=true:=by
      rw[List.all_eq_true]at hall
      exact hall f (Array.mem_toList_iff.2 (Array.mem_of_getElem? hfi))
     obtain⟨n,hn⟩:=Option.isSome_iff_exists.1 this
     simp[hn]
   have hmap:(parts.map fun (i,x)=>(i,act.eval x)).toList=parts.toList.map fun (i,x)=>(i,act.eval x):=by simp
   simp only[execOp,Instr.build,Sem.run_bind,zeroValue_run hi hzv,Result.andThen_ok,run_underlying hu,hpa,hplace,hmap,ho,Sem.run_pure]
  ·exact ORel.of (by simpa using VRel.agg cs out.toList hcl)
 ·simp at h

theorem p_build_array (s:St φ F H w β env act T)(t:TypeId)(parts:Array (Nat×Operand)){n:Nat}{e:TypeId}{k:Nat}{z:List AV}{l:List (Nat×Nat×AO)}{v:AV}(hu:P.underlying t=some (.array n e))(hz:zOf P t=some z)(hk:szOf P e=some k)
  (hl:partsC (fun i=>some (i*k,k)) parts.toList=some l)
  (h:rdOp (.build z l) env H=some v):Pure P φ F H w β act (.build t parts) v:=by
 simp only[rdOp]at h
 split at h
 ·rename_i cs hcs
  simp only[Option.some.injEq]at h;subst h
  obtain⟨i,zv,hi,hzv,hof⟩:=zOf_run hz
  obtain⟨out,ho,hcl⟩:=fill_rel s _ parts.toList l z cs zv.cells hl hcs (of1s_rel hof)
  intro dst type pos after guard
  refine⟨.agg out,?_,?_⟩
  ·have hmap:(parts.map fun (i,x)=>(i,act.eval x)).toList=parts.toList.map fun (i,x)=>(i,act.eval x):=by simp
   simp only[execOp,Instr.build,Sem.run_bind,zeroValue_run hi hzv,Result.andThen_ok,run_underlying hu,szOf_run hk,hmap,ho,Sem.run_pure]
  ·exact ORel.of (by simpa using VRel.agg cs out.toList hcl)
 ·simp at h

theorem zero_row (z:Array Value)(n:Nat):((Array.range (n*z.size)).map (z[· % z.size]!)).toList=(List.replicate n z.toList).flatten:=by
 apply List.ext_getElem?
 intro i
 simp only[Array.toList_map,Array.toList_range,List.getElem?_map]
 by_cases hi:i<n*z.size
 ·rw[List.getElem?_range hi]
  have:∀(n i:Nat),i<n*z.size→(List.replicate n z.toList).flatten[i]?=some z[i % z.size]!:=by
   intro n
   induction n with
   | zero=>intro i hi;simp at hi
   | succ n ih=>
    intro i hi
    rw[List.replicate_succ,List.flatten_cons,List.getElem?_append]
    split
    ·rename_i hlt
     have hlt':i<z.size:=by simpa using hlt
     rw[Nat.mod_eq_of_lt hlt']
     simp[hlt']
    ·rename_i hge
     have hge':z.size≤i:=by simpa using hge
     rw[Nat.add_mul,Nat.one_mul]at hi
     have:=ih (i-z.size) (by omega)
     simp only[Array.length_toList]at this ⊢
     rw[this,Nat.mod_eq_sub_mod hge']
  simp[this n i hi]
 ·have h1:(List.range (n*z.size))[i]?=none:=by simp;omega
  have h2:(List.replicate n z.toList).flatten[i]?=none:=by simp;omega
  rw[h1,h2];rfl

theorem CL.repl {z:List AV}{zv:List Value}(h:CL φ F H w z zv):∀n,CL φ F H w (Hm.repl n z) (List.replicate n zv).flatten
 | 0=>⟨rfl,fun i a v ha=>by simp[Hm.repl]at ha⟩
 | n+1=>by
  have:=h.append (CL.repl h n)
  simpa[Hm.repl,List.replicate_succ] using this
end
end Go.Hm

namespace Go.Hm
open Go Go.RowKit

section
variable {φ:Phi}{F:Nat→Nat→Prop}{H:Heap}{w:World}{β:Nat→Nat}{env:Env}{act:Act}{T:Nat}

theorem find_noRp {d:Nat}:∀{env:Env},noRp d env=true→∀t o,find env t≠.rp d o
 | [],_,t,o=>by simp[find]
 | (t',v)::r,h,t,o=>by
  simp only[find]
  have h2:noRp d r=true∧∀o,v≠.rp d o:=by
   cases v
   case rp t2 o2=>
    simp only[noRp]at h
    split at h
    ·simp at h
    ·rename_i hne
     exact⟨h,fun o e=>hne (by cases e;rfl)⟩
   all_goals exact⟨by simpa[noRp] using h,fun o e=>by cases e⟩
  split
  ·exact h2.2 o
  ·exact find_noRp h2.1 t o

theorem SRel.beta {β':Nat→Nat}{t:Nat}{a:AV}{v:Value}(h:SRel φ F H w β t a v)(ht:(∃cs,a= .box cs)→β' t=β t)(hr:∀t' o,a= .rp t' o→β' t'=β t'):SRel φ F H w β' t a v:=by
 cases a
 case box cs=>
  have:=ht ⟨cs,rfl⟩
  simp only[SRel]at h ⊢
  rw[this];exact h
 case rp t' o=>
  have:=hr t' o rfl
  simp only[SRel,ORel]at h ⊢
  rw[this];exact h
 all_goals exact h

theorem St.put (s:St φ F H w β env act T){β':Nat→Nat}{d:Nat}{v:AV}{cv:Value}(hd:d<T)(hn:noRp d env=true)(hβ:∀t,t≠d→β' t=β t)(hv:SRel φ F H w β' d v cv)
  (hbox:∀cs,v= .box cs→(∀b,live H b→β' d≠(φ b).1)∧(∀t cs',t≠d→find env t= .box cs'→β t≠β' d)∧∀o,¬F (β' d) o):
  St φ F H w β' ((d,v)::env) (act.put (some d) cv) T:=by
 have hsz:d<act.tmps.size:=by rw[s.size];exact hd
 have fd:∀t,find ((d,v)::env) t=if d=t then v else find env t:=fun t=>rfl
 have tm:∀t,(act.put (some d) cv).tmps.getD t undef=if d=t then cv else act.tmps.getD t undef:=fun t=>by
  simp only[Act.put,Array.getD_eq_getD_getElem?,Array.getElem?_setIfInBounds]
  split
  ·rename_i h;subst h;simp
  ·rfl
 refine⟨s.sr,by simp[Act.put,s.size],fun t=>?_,fun t cs b ht hl=>?_,fun t t' cs cs' ht ht' he=>?_,fun t cs o ht=>?_⟩
 ·rw[fd,tm]
  by_cases h:d=t
  ·subst h;simp only[if_true];exact hv
  ·simp only[if_neg h]
   exact(s.slot t).beta (fun _=>hβ t (fun e=>h e.symm)) (fun t' o e=>hβ t' (fun e'=>by subst e';exact find_noRp hn t o e))
 ·rw[fd]at ht
  by_cases h:d=t
  ·subst h;simp only[if_true]at ht;exact(hbox cs ht).1 b hl
  ·simp only[if_neg h]at ht;rw[hβ t (fun e=>h e.symm)];exact s.bphi t cs b ht hl
 ·rw[fd]at ht ht'
  by_cases h:d=t
  ·by_cases h':d=t'
   ·omega
   ·subst h
    simp only[if_true]at ht
    simp only[if_neg h']at ht'
    rw[hβ t' (fun e=>h' e.symm)]at he
    exact absurd he.symm ((hbox cs ht).2.1 t' cs' (fun e=>h' e.symm) ht')
  ·by_cases h':d=t'
   ·subst h'
    simp only[if_true]at ht'
    simp only[if_neg h]at ht
    rw[hβ t (fun e=>h e.symm)]at he
    exact absurd he ((hbox cs' ht').2.1 t cs (fun e=>h e.symm) ht)
   ·simp only[if_neg h]at ht
    simp only[if_neg h']at ht'
    rw[hβ t (fun e=>h e.symm),hβ t' (fun e=>h' e.symm)]at he
    exact s.binj t t' cs cs' ht ht' he
 ·rw[fd]at ht
  by_cases h:d=t
  ·subst h;simp only[if_true]at ht;exact(hbox cs ht).2.2 o
  ·simp only[if_neg h]at ht;rw[hβ t (fun e=>h e.symm)];exact s.bF t cs o ht

theorem St.put1 (s:St φ F H w β env act T){dst:Option Nat}{v:AV}{cv:Value}{env':Env}(hd:∀d,dst=some d→d<T)(hp:Hm.put dst v env=some env')(hv:ORel φ F H w β v cv):St φ F H w β env' (act.put dst cv) T:=by
 cases dst with
 | none=>simp[Hm.put]at hp;subst hp;exact s
 | some d=>
  simp only[Hm.put]at hp
  split at hp
  ·rename_i hn
   simp at hp;subst hp
   refine s.put (hd d rfl) hn (fun _ _=>rfl) ?_ (fun cs hcs=>by subst hcs;exact hv.elim)
   cases v<;>first | exact hv | exact hv.elim
  ·simp at hp

theorem St.mono {φ':Phi}{F':Nat→Nat→Prop}{H':Heap}{w':World}(s:St φ F H w β env act T)(e:Ext φ F H w φ' F' H' w')(sr:SR φ' F' H' w')
  (hb:∀t cs,find env t= .box cs→w'.heap[β t]?=w.heap[β t]?∧(∀b,live H' b→β t≠(φ' b).1)∧∀o,¬F' (β t) o):St φ' F' H' w' β env act T:=by
 refine⟨sr,s.size,fun t=>?_,fun t cs b ht hl=>(hb t cs ht).2.1 b hl,s.binj,fun t cs o ht=>(hb t cs ht).2.2 o⟩
 have h:=s.slot t
 generalize hf:find env t=a at h
 cases a
 case box cs=>
  refine⟨h.1,?_⟩
  obtain⟨arr,ty,ha,hc⟩:=h.2
  refine⟨arr,ty,(hb t cs hf).1.trans ha,fun i a hi=>?_⟩
  obtain⟨v,hv,hr⟩:=hc i a hi
  exact⟨v,hv,hr.mono e⟩
 case rp=>exact h
 case und=>exact h
 case dead=>trivial
 all_goals exact VRel.mono e h

theorem wm_below {w':World}(h:Below w.heap.size w w'):Wm w w':=
 ⟨h.size,fun k arr ty fr hk=>⟨arr,by rw[h.block k (Array.getElem?_eq_some_iff.1 hk).1];exact hk,rfl⟩,fun k ces clk hk=>⟨ces,clk,by rw[h.block k (Array.getElem?_eq_some_iff.1 hk).1];exact hk,Grow.refl _ _⟩⟩
theorem SR.live_lt (s:SR φ F H w){b:Nat}(hl:live H b):(φ b).1<w.heap.size:=by
 obtain⟨x,h1,h2⟩:=hl
 cases x with
 | hole=>exact h2.elim
 | cells cs=>
  obtain⟨arr,ty,ha,_⟩:=s.blk b cs h1 h2
  exact(Array.getElem?_eq_some_iff.1 ha).1
 | map es=>
  obtain⟨ces,clk,ha,_⟩:=s.mblk b es h1
  exact(Array.getElem?_eq_some_iff.1 ha).1

def BRel (φ:Phi)(F:Nat→Nat→Prop)(H:Heap)(w:World):HB→Obj→Prop
 | .cells cs,o=>∃arr ty,o= .cells arr ty (0,0)∧∀(i:Nat) a,cs[i]?=some a→∃v,arr[i]?=some v∧CRel φ F H w a v
 | .map es,o=>∃ces clk,o= .map ces clk∧MRel φ F H w es ces clk
 | .hole,_=>False
theorem BRel.mono {φ':Phi}{F':Nat→Nat→Prop}{H':Heap}{w':World}(e:Ext φ F H w φ' F' H' w'){x:HB}{o:Obj}(h:BRel φ F H w x o):BRel φ' F' H' w' x o:=by
 cases x with
 | hole=>exact h
 | cells cs=>
  obtain⟨arr,ty,h1,h2⟩:=h
  exact⟨arr,ty,h1,fun i a hi=>by
   obtain⟨v,hv,hr⟩:=h2 i a hi
   exact⟨v,hv,hr.mono e⟩⟩
 | map es=>
  obtain⟨ces,clk,h1,h2⟩:=h
  exact⟨ces,clk,h1,h2.mono e⟩

theorem grow (sr:SR φ F H w){w':World}{F':Nat→Nat→Prop}(h:Below w.heap.size w w')(hF:∀k o,F k o→F' k o)(hN:∀k o,F' k o→F k o∨(w.heap.size≤k∧k<w'.heap.size)):
  Ext φ F H w φ F' H w'∧SR φ F' H w':=by
 have e:Ext φ F H w φ F' H w':=⟨fun b cs hb=>⟨cs,hb,Nat.le_refl _,fun _=>rfl⟩,fun b es hb=>⟨⟨es,hb⟩,rfl⟩,fun k o hk=>⟨hF k o hk,h.block _ (sr.fsz k o hk)⟩,wm_below h⟩
 refine⟨e,fun b cs hb hne=>?_,fun b es hb=>?_,sr.inj,fun b o hl hf=>?_,fun k o hk=>?_⟩
 ·obtain⟨arr,ty,ha,hc⟩:=sr.blk b cs hb hne
  refine⟨arr,ty,by rw[h.block _ (Array.getElem?_eq_some_iff.1 ha).1];exact ha,fun i a hi=>?_⟩
  obtain⟨v,hv,hr⟩:=hc i a hi
  exact⟨v,hv,hr.mono e⟩
 ·obtain⟨ces,clk,ha,hm⟩:=sr.mblk b es hb
  exact⟨ces,clk,by rw[h.block _ (Array.getElem?_eq_some_iff.1 ha).1];exact ha,hm.mono e⟩
 ·rcases hN _ o hf with hf | ⟨hk,_⟩
  ·exact sr.phiF b o hl hf
  ·have:=sr.live_lt hl
   omega
 ·rcases hN k o hk with hk | ⟨_,hk⟩
  ·have:=sr.fsz k o hk;have:=h.size;omega
  ·exact hk

def noBlk (H:Heap)(b:Nat):Prop:=(∀cs,H[b]?≠some (.cells cs))∧∀es,H[b]?≠some (.map es)

theorem made (sr:SR φ F H w){w':World}{H':Heap}{b k:Nat}{x:HB}{o:Obj}(h:Below w.heap.size w w')(hk:w.heap.size≤k)(hb:noBlk H b)(hb':H'[b]?=some x)
  (ho:∀b',b'≠b→(H'[b']?=H[b']?)) (hbl:w'.heap[k]?=some o) (hc:BRel φ F H w x o):
  let φ':Phi:=fun x=>if x=b then (k,0) else φ x
  Ext φ F H w φ' F H' w'∧SR φ' F H' w'∧(∀b',live H' b'→(b'≠b∧live H b'∧φ' b'=φ b')∨(b'=b∧φ' b'=(k,0))):=by
 intro φ'
 have old:∀(b':Nat) cs',H[b']?=some (.cells cs')→H'[b']?=some (.cells cs')∧φ' b'=φ b':=fun b' cs' hh=>by
  have hne:b'≠b:=fun e=>by subst e;exact hb.1 _ hh
  exact⟨by rw[ho b' hne];exact hh,if_neg hne⟩
 have oldM:∀(b':Nat) es',H[b']?=some (.map es')→H'[b']?=some (.map es')∧φ' b'=φ b':=fun b' es' hh=>by
  have hne:b'≠b:=fun e=>by subst e;exact hb.2 _ hh
  exact⟨by rw[ho b' hne];exact hh,if_neg hne⟩
 have e:Ext φ F H w φ' F H' w':=⟨fun b' cs' hh=>⟨cs',(old b' cs' hh).1,Nat.le_refl _,fun _=>(old b' cs' hh).2⟩,fun b' es' hh=>⟨⟨es',(oldM b' es' hh).1⟩,(oldM b' es' hh).2⟩,fun k o hf=>⟨hf,h.block _ (sr.fsz k o hf)⟩,wm_below h⟩
 have lv:∀b',live H' b'→(b'≠b∧live H b'∧φ' b'=φ b')∨(b'=b∧φ' b'=(k,0)):=fun b' hl=>by
  by_cases hbb:b'=b
  ·exact .inr ⟨hbb,if_pos hbb⟩
  ·obtain⟨cs',h1,h2⟩:=hl
   exact .inl ⟨hbb,⟨cs',by rw[←ho b' hbb];exact h1,h2⟩,if_neg hbb⟩
 have hc':=hc.mono e
 refine⟨e,⟨fun b' cs' hh hne=>?_,fun b' es' hh=>?_,fun b1 b2 h1 h2 he=>?_,fun b' o hl hf=>?_,fun k o hf=>?_⟩,lv⟩
 ·by_cases hbb:b'=b
  ·subst hbb
   rw[hb']at hh;cases hh
   obtain⟨arr,ty,he,hr⟩:=hc'
   subst he
   exact⟨arr,ty,by simp[φ',hbl],fun i a hi=>by obtain⟨v,h1,h2⟩:=hr i a hi;exact⟨v,fun _=>by simpa[φ'] using h1,h2⟩⟩
  ·rw[ho b' hbb]at hh
   obtain⟨arr',ty',ha,hc2⟩:=sr.blk b' cs' hh hne
   refine⟨arr',ty',by rw[show φ' b'=φ b' from if_neg hbb,h.block _ (Array.getElem?_eq_some_iff.1 ha).1];exact ha,fun i a hi=>?_⟩
   rw[show φ' b'=φ b' from if_neg hbb]
   obtain⟨v,hv,hr⟩:=hc2 i a hi
   exact⟨v,hv,hr.mono e⟩
 ·by_cases hbb:b'=b
  ·subst hbb
   rw[hb']at hh;cases hh
   obtain⟨ces,clk,he,hr⟩:=hc'
   subst he
   exact⟨ces,clk,by simp[φ',hbl],hr⟩
  ·rw[ho b' hbb]at hh
   obtain⟨ces,clk,ha,hm⟩:=sr.mblk b' es' hh
   exact⟨ces,clk,by rw[show φ' b'=φ b' from if_neg hbb,h.block _ (Array.getElem?_eq_some_iff.1 ha).1];exact ha,hm.mono e⟩
 ·rcases lv b1 h1 with⟨n1,l1,p1⟩ | ⟨n1,p1⟩<;>rcases lv b2 h2 with⟨n2,l2,p2⟩ | ⟨n2,p2⟩
  ·rw[p1,p2]at he;exact sr.inj b1 b2 l1 l2 he
  ·rw[p1,p2]at he;have:=sr.live_lt l1;simp only at he;omega
  ·rw[p1,p2]at he;have:=sr.live_lt l2;simp only at he;omega
  ·omega
 ·rcases lv b' hl with⟨_,l,p⟩ | ⟨_,p⟩
  ·rw[p]at hf;exact sr.phiF b' o l hf
  ·rw[p]at hf;have:=sr.fsz k o hf;omega
 ·have:=sr.fsz k o hf;have:=h.size;omega

structure Wr (w w':World)(k:Nat):Prop where
 os:w'.os=w.os
 tape:w'.tape=w.tape
 output:w'.output=w.output
 size:w'.heap.size=w.heap.size
 block:∀j,j≠k→w'.heap[j]?=w.heap[j]?

theorem setRow_wr (w:World)(k:Nat)(cs:Array Value):Wr w (w.setRow k cs) k:=
 ⟨rfl,rfl,rfl,by simp[World.setRow],fun j hj=>setRow_other w k j cs hj⟩

theorem run_store_mid (P:Program)(w:World)(k o:Nat)(arr:Array Value)(ty:TypeId)(new:List Value)(hk:w.heap[k]?=some (.cells arr ty (0,0)))(hl:o+new.length≤arr.size)(h1:∀v∈new,v.oneCell'=true):
  (storeCells ⟨k,o,none⟩ new).run P w= .ok () (w.setRow k (arr.toList.take o++new++arr.toList.drop (o+new.length)).toArray):=by
 have:=run_storeCells_at P k o ty new 0 arr w hk (by simpa using hl) h1
 simpa using this
end
end Go.Hm

