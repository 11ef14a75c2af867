/- The machine HM, part 8. -/
import Derived.Test.YtkllbcjanneppaaGreatHmG7
set_option linter.unusedSimpArgs false
set_option linter.unusedVariables false
namespace Go.Hm
open Go

def rx:List Nat→Nat→Bool
 | [],_=>false
 | b::r,d=>if b=d then true else rx r d

def vOk (B:List Nat)(d:Nat):AV→Bool
 | .rp t _=>rx B t
 | .box _=>rx B d
 | _=>true
def Inv (B:List Nat)(env:Env):Prop:=∀p∈env,vOk B p.1 p.2=true

abbrev Kt:=Env→Heap→Prop

structure Cx where
 C:Orc
 lk:Nat
 lim:Nat
 B:List Nat

def c8 (B:List Nat)(dst:Option Nat)(v:AV)(env:Env)(H:Heap)(k:Kt):Prop:=match dst with
 | none=>k env H
 | some d=>vOk B d v=true∧(rx B d=true→eo d env=true)∧k ((d,v)::env) H
def a8 (B:List Nat)(r:Option AV)(dst:Option Nat)(env:Env)(H:Heap)(k:Kt):Prop:=match r with
 | some v=>c8 B dst v env H k
 | none=>False
def im (r:Option (Env×Heap))(k:Kt):Prop:=match r with
 | some (e,h)=>k e h
 | none=>False
def kG (B:List Nat)(r:Option (AV×HB))(dst:Option Nat)(env:Env)(H:Heap)(k:Kt):Prop:=match r with
 | some (v,x)=>c8 B dst v env (H++[x]) k
 | none=>False
def xt (B:List Nat)(r:Option (AV×Heap))(dst:Option Nat)(env:Env)(k:Kt):Prop:=match r with
 | some (v,H')=>c8 B dst v env H' k
 | none=>False
def WCl (S:Cx)(r:Option (FuncId×List AV))(dst:Option Nat)(env:Env)(H:Heap)(k:Kt):Prop:=match r with
 | some (g,l)=>l.all aO=true∧xt S.B (S.C S.lk S.lim g l H) dst env k
 | none=>False

def WI (S:Cx)(op:AOp)(dst:Option Nat)(env:Env)(H:Heap)(k:Kt):Prop:=match cls op with
 | .actL _ | .actH=>im (b6 S.lk S.lim 0 dst op env H) k
 | .make=>kG S.B (cg op env H.length) dst env H k
 | .call=>WCl S (bf op env) dst env H k
 | _=>a8 S.B (au op env H) dst env H k
def WG (S:Cx)(g:Option Bool)(op:AOp)(dst:Option Nat)(env:Env)(H:Heap)(k:Kt):Prop:=match g with
 | some true=>WI S op dst env H k
 | some false=>c8 S.B dst .und env H k
 | none=>False
def WR (S:Cx):List AI→Kt→Kt
 | [],k,env,H=>k env H
 | i::r,k,env,H=>WG S (guardI i env) i.op i.dst env H (WR S r k)

def fE:List AI→Bool
 | []=>true
 | i::r=>(match cls i.op with
  | .env | .memL _ | .actL _ | .actH=>true
  | .call | .memH=>i.fl
  | _=>false)&&fE r
def cN:List AI→Bool
 | []=>true
 | i::r=>(match cls i.op with
  | .env | .memL _=>!i.fl
  | .memH=>true
  | .actL _=>!i.fl
  | .actH=>!i.fl&&fE r
  | .call=>true
  | _=>false)&&cN r

def WID (S:Cx)(fl st:Bool)(op:AOp)(dst:Option Nat)(env:Env)(H:Heap)(k:Kt):Prop:=match cls op with
 | .actL _ | .actH=>im (b6 S.lk S.lim 0 dst op env H) k
 | .call=>if fl=true then (match bf op env with
   | some (g,l)=>l.all aO=true∧(match S.C S.lk S.lim g l H with
    | some (v,H')=>dV v=false∧(st=true∨H'.length=H.length)∧c8 S.B dst v env H' k
    | none=>False)
   | none=>False)
  else (match bf op env with
   | some (g,l)=>l.all aO=true∧belowL H.length l=true∧(match S.C H.length S.lim g l H with
    | some (v,H')=>dV v=false∧H'=H∧c8 S.B dst v env H k
    | none=>False)
   | none=>False)
 | .memH=>if fl=true then bV op env=none∧(match au op env H with
   | some v=>(dV v=false∨jB op=true)∧c8 S.B dst v env H k
   | none=>False)
  else (match au op env H with
   | some v=>(dV v=false∨jB op=true)∧c8 S.B dst v env H k
   | none=>False)
 | _=>match au op env H with
  | some v=>(dV v=false∨jB op=true)∧c8 S.B dst v env H k
  | none=>False
def WGD (S:Cx)(g:Option Bool)(st:Bool)(i:AI)(env:Env)(H:Heap)(k:Kt):Prop:=match g with
 | some true=>WID S i.fl st i.op i.dst env H k
 | some false=>c8 S.B i.dst .und env H k
 | none=>False
def WRD (S:Cx):List AI→Kt→Kt
 | [],k,env,H=>k env H
 | i::r,k,env,H=>WGD S (guardI i env) (fE r) i env H (WRD S r k)

def WD (S:Cx)(m:Nat)(ops:List AI)(k:Kt):Kt:=fun env H=>∃e h,cI S.C S.lk S.lim (iq S.lk S.lim H.length ops env (H++List.replicate m .hole)) H.length ops env (H++List.replicate m .hole)=some (e,h)∧Inv S.B e∧k e h

def itB (f:(Ex→Kt)→Kt)(keep:List Nat)(Q:Ex→Kt):Nat→Kt
 | 0=>fun _ _=>False
 | n+1=>fun e H=>f (fun x e h=>match x with
  | .nrm=>itB f keep Q n e h
  | .exit id=>Q (.exit id) e h
  | .ret=>Q .ret e h) (ab keep e) H

def rgB (f g:(Ex→Kt)→Kt)(ps:List Nat)(Q:Ex→Kt)(env:Env):List (List Value)→Heap→Prop
 | [],H=>Q .nrm env H
 | x::r,H=>match ik ps x env with
  | some e=>f (fun x1 e1 h1=>match x1 with
   | .nrm=>ep e1=true∧g (fun x2 _ h2=>match x2 with
    | .nrm=>rgB f g ps Q env r h2
    | .exit id=>Q (.exit id) env h2
    | .ret=>Q .ret env h2) e1 h1
   | _=>False) e H
  | none=>False

def WB (S:Cx):AC→(Ex→Kt)→Kt
 | .skip,Q=>Q .nrm
 | .frz,Q=>fun e H=>S.lk≤S.lim∧S.lim≤H.length∧Q .nrm (nq S.lim H e) (fT S.lim H)
 | .regN keep ops,Q=>fun e H=>WR S ops (Q .nrm) (ab keep e) H
 | .regD keep m ops,Q=>fun e H=>if m=0∧cN ops=true then WRD S ops (Q .nrm) (ab keep e) H else WD S m ops (Q .nrm) (ab keep e) H
 | .seq a b,Q=>WB S a (fun x e h=>match x with
  | .nrm=>WB S b Q e h
  | .exit id=>Q (.exit id) e h
  | .ret=>Q .ret e h)
 | .cond c a b,Q=>fun e H=>match ev e c with
  | .val (.bool true)=>WB S a Q e H
  | .val (.bool false)=>WB S b Q e H
  | _=>False
 | .block id b,Q=>WB S b (fun x e h=>match x with
  | .exit id'=>if id'=id then Q .nrm e h else Q (.exit id') e h
  | .nrm=>Q .nrm e h
  | .ret=>Q .ret e h)
 | .loop keep b,Q=>fun e H=>∃n,itB (WB S b) keep Q n e H
 | .rangeF keep it g ps asg body,Q=>fun e H=>∃l,i7 it g ps (ab keep e) H=some l∧rgB (WB S asg) (WB S body) ps Q (ab keep e) l H
 | .exit id,Q=>Q (.exit id)
 | .ret,Q=>Q .ret
 | .bad,_=>fun _ _=>False

def Fol (S:Cx)(b:AC)(Q:Ex→Kt):Ex→Kt:=fun x e h=>match x with
  | .nrm=>WB S b Q e h
  | .exit id=>Q (.exit id) e h
  | .ret=>Q .ret e h
def ry (id:Nat)(Q:Ex→Kt):Ex→Kt:=fun x e h=>match x with
  | .exit id'=>if id'=id then Q .nrm e h else Q (.exit id') e h
  | .nrm=>Q .nrm e h
  | .ret=>Q .ret e h
def Rnd {σ:Type}(keep:List Nat)(E:σ→Env)(G:σ→Heap)(inv:σ→Prop)(μ:σ→Nat)(s:σ)(Q:Ex→Kt):Ex→Kt:=fun x e h=>match x with
  | .nrm=>∃s',inv s'∧μ s' < μ s∧ab keep e=E s'∧h=G s'
  | .exit id=>Q (.exit id) e h
  | .ret=>Q .ret e h

section
variable {S:Cx}{Q:Ex→Kt}{env:Env}{H:Heap}{k:Kt}
theorem aC:WB S .skip Q env H=Q .nrm env H:=rfl
theorem AQ:WB S .frz Q env H=(S.lk≤S.lim∧S.lim≤H.length∧Q .nrm (nq S.lim H env) (fT S.lim H)):=rfl
theorem dn {id:Nat}:WB S (.exit id) Q env H=Q (.exit id) env H:=rfl
theorem HY:WB S .ret Q env H=Q .ret env H:=rfl
theorem an {a b:AC}:WB S (.seq a b) Q env H=WB S a (Fol S b Q) env H:=rfl
theorem ar {id:Nat}{b:AC}:WB S (.block id b) Q env H=WB S b (ry id Q) env H:=rfl
theorem ae {keep:List Nat}{ops:List AI}:WB S (.regN keep ops) Q env H=WR S ops (Q .nrm) (ab keep env) H:=rfl
theorem aD {keep:List Nat}{ops:List AI}(h:cN ops=true):WB S (.regD keep 0 ops) Q env H=WRD S ops (Q .nrm) (ab keep env) H:=by
 show (if _ then _ else _)=_;rw [if_pos ⟨rfl,h⟩]
theorem ai {c:AO}{a b:AC}(h:ev env c= .val (.bool true)):WB S (.cond c a b) Q env H=WB S a Q env H:=by
 show (match ev env c with | .val (.bool true)=>_ | .val (.bool false)=>_ | _=>_)=_
 rw [h]
theorem af {c:AO}{a b:AC}(h:ev env c= .val (.bool false)):WB S (.cond c a b) Q env H=WB S b Q env H:=by
 show (match ev env c with | .val (.bool true)=>_ | .val (.bool false)=>_ | _=>_)=_
 rw [h]
theorem ak {b:AC}:Fol S b Q .nrm env H=WB S b Q env H:=rfl
theorem bG {b:AC}{id:Nat}:Fol S b Q (.exit id) env H=Q (.exit id) env H:=rfl
theorem Em {b:AC}:Fol S b Q .ret env H=Q .ret env H:=rfl
theorem bi {id:Nat}:ry id Q .nrm env H=Q .nrm env H:=rfl
theorem En {id:Nat}:ry id Q .ret env H=Q .ret env H:=rfl
theorem aI {id id':Nat}:ry id Q (.exit id') env H=if id'=id then Q .nrm env H else Q (.exit id') env H:=rfl
theorem HZ:WR S [] k env H=k env H:=rfl
theorem rz {i:AI}{r:List AI}:WR S (i::r) k env H=WG S (guardI i env) i.op i.dst env H (WR S r k):=rfl
theorem Eo:WRD S [] k env H=k env H:=rfl
theorem oa {i:AI}{r:List AI}:WRD S (i::r) k env H=WGD S (guardI i env) (fE r) i env H (WRD S r k):=rfl

theorem cx {B:List Nat}{dst:Option Nat}{v:AV}{k':Kt}(h:c8 B dst v env H k)(hk:∀e h,k e h→k' e h):c8 B dst v env H k':=by
 unfold c8 at *;split at h
 ·exact hk _ _ h
 ·exact ⟨h.1,h.2.1,hk _ _ h.2.2⟩
theorem Ep {op:AOp}{dst:Option Nat}{k':Kt}(h:WI S op dst env H k)(hk:∀e h,k e h→k' e h):WI S op dst env H k':=by
 unfold WI at *;split;case h_1 | h_2=>
  rename_i hc;rw [hc] at h;unfold im at *;simp only at h;split at h
  ·exact hk _ _ h
  ·exact h
 case h_3=>
  rename_i hc;rw [hc] at h;unfold kG at *;simp only at h;split at h
  ·exact cx h hk
  ·exact h
 case h_4=>
  rename_i hc;rw [hc] at h;unfold WCl xt at *;simp only at h;split at h
  ·refine ⟨h.1,?_⟩;have h2:=h.2;split at h2
   ·exact cx h2 hk
   ·exact h2
  ·exact h
 case h_5=>
  rename_i hc1 hc2 hc3 hc4;split at h
  ·exact (hc1 _ ‹_›).elim
  ·exact (hc2 ‹_›).elim
  ·exact (hc3 ‹_›).elim
  ·exact (hc4 ‹_›).elim
  unfold a8 at *;split at h
  ·exact cx h hk
  ·exact h
theorem rA:∀{l:List AI} {k k':Kt} {env:Env} {H:Heap},WR S l k env H→(∀e h,k e h→k' e h)→WR S l k' env H
 | [],_,_,_,_,h,hk=>hk _ _ h
 | i::r,k,k',env,H,h,hk=>by
  rw [rz] at *;unfold WG at *;split at h
  ·exact Ep h fun _ _ h=>rA h hk
  ·exact cx h fun _ _ h=>rA h hk
  ·exact h
theorem AR {op:AOp}{fl st:Bool}{dst:Option Nat}{k':Kt}(h:WID S fl st op dst env H k)(hk:∀e h,k e h→k' e h):WID S fl st op dst env H k':=by
 unfold WID at *;split;case h_1 | h_2=>
  rename_i hc;rw [hc] at h;unfold im at *;simp only at h;split at h
  ·exact hk _ _ h
  ·exact h
 case h_3=>
  rename_i hc;rw [hc] at h;simp only at h;split at h
  ·rename_i hfl;rw [if_pos hfl];split at h
   ·refine ⟨h.1,?_⟩;have h2:=h.2;split at h2
    ·exact ⟨h2.1,h2.2.1,cx h2.2.2 hk⟩
    ·exact h2
   ·exact h
  ·rename_i hfl;rw [if_neg hfl];split at h
   ·refine ⟨h.1,h.2.1,?_⟩;have h2:=h.2.2;split at h2
    ·exact ⟨h2.1,h2.2.1,cx h2.2.2 hk⟩
    ·exact h2
   ·exact h
 case h_4=>
  rename_i hc;rw [hc] at h;simp only at h;split at h
  ·rename_i hfl;rw [if_pos hfl];refine ⟨h.1,?_⟩;have h2:=h.2;split at h2
   ·exact ⟨h2.1,cx h2.2 hk⟩
   ·exact h2
  ·rename_i hfl;rw [if_neg hfl];split at h
   ·exact ⟨h.1,cx h.2 hk⟩
   ·exact h
 case h_5=>
  rename_i hc1 hc2 hc3 hc4;split at h
  ·exact (hc1 _ ‹_›).elim
  ·exact (hc2 ‹_›).elim
  ·exact (hc3 ‹_›).elim
  ·exact (hc4 ‹_›).elim
  split at h
  ·exact ⟨h.1,cx h.2 hk⟩
  ·exact h
theorem oc:∀{l:List AI} {k k':Kt} {env:Env} {H:Heap},WRD S l k env H→(∀e h,k e h→k' e h)→WRD S l k' env H
 | [],_,_,_,_,h,hk=>hk _ _ h
 | i::r,k,k',env,H,h,hk=>by
  rw [oa] at *;unfold WGD at *;split at h
  ·exact AR h fun _ _ h=>oc h hk
  ·exact cx h fun _ _ h=>oc h hk
  ·exact h
theorem tI {f:(Ex→Kt)→Kt}(hf:∀(Q Q':Ex→Kt) (e:Env) (H:Heap),f Q e H→(∀x e h,Q x e h→Q' x e h)→f Q' e H){keep:List Nat}{Q Q':Ex→Kt}(hk:∀x e h,Q x e h→Q' x e h):∀{n:Nat} {e:Env} {H:Heap},itB f keep Q n e H→itB f keep Q' n e H
 | 0,_,_,h=>h
 | n+1,e,H,h=>by
  simp only [itB] at *;refine hf _ _ _ _ h fun x e h hh=>?_;cases x with
  | nrm=>exact tI hf hk (n:=n) hh
  | exit id=>exact hk _ _ _ hh
  | ret=>exact hk _ _ _ hh
theorem tK {f g:(Ex→Kt)→Kt}(hf:∀Q Q' e h,f Q e h→(∀x e h,Q x e h→Q' x e h)→f Q' e h)(hg:∀Q Q' e h,g Q e h→(∀x e h,Q x e h→Q' x e h)→g Q' e h){ps:List Nat}{Q Q':Ex→Kt}{env:Env}(hk:∀x e h,Q x e h→Q' x e h):∀{l:List (List Value)} {H:Heap},rgB f g ps Q env l H→rgB f g ps Q' env l H
 | [],_,h=>hk _ _ _ h
 | x::l,H,h=>by
  simp only [rgB] at h ⊢;split at h
  ·refine hf _ _ _ _ h fun x1 e1 h1 hh=>?_;cases x1 with
   | nrm=>
    refine ⟨hh.1,hg _ _ _ _ hh.2 fun x2 e2 h2 hh=>?_⟩;cases x2 with
    | nrm=>exact tK hf hg hk hh
    | exit id=>exact hk _ _ _ hh
    | ret=>exact hk _ _ _ hh
   | exit id=>exact hh
   | ret=>exact hh
  ·exact h
theorem cX:∀{c:AC} {Q Q':Ex→Kt} {env:Env} {H:Heap},WB S c Q env H→(∀x e h,Q x e h→Q' x e h)→WB S c Q' env H
 | .skip,_,_,_,_,h,hk=>hk _ _ _ h
 | .frz,_,_,_,_,h,hk=>⟨h.1,h.2.1,hk _ _ _ h.2.2⟩
 | .exit _,_,_,_,_,h,hk=>hk _ _ _ h
 | .ret,_,_,_,_,h,hk=>hk _ _ _ h
 | .bad,_,_,_,_,h,_=>h
 | .regN keep ops,Q,Q',env,H,h,hk=>by
  rw [ae] at *;exact rA h fun _ _ h=>hk _ _ _ h
 | .regD keep m ops,Q,Q',env,H,h,hk=>by
  simp only [WB] at *;split at h
  ·rename_i hc;rw [if_pos hc];exact oc h fun _ _ h=>hk _ _ _ h
  ·rename_i hc;rw [if_neg hc];obtain ⟨e,h1,h2,h3,h4⟩:=h;exact ⟨e,h1,h2,h3,hk _ _ _ h4⟩
 | .seq a b,Q,Q',env,H,h,hk=>by
  rw [an] at *;refine cX h fun x e h hh=>?_;cases x with
  | nrm=>exact cX (c:=b) hh hk
  | exit id=>exact hk _ _ _ hh
  | ret=>exact hk _ _ _ hh
 | .cond c a b,Q,Q',env,H,h,hk=>by
  simp only [WB] at *;split at h
  ·exact cX h hk
  ·exact cX h hk
  ·exact h
 | .block id b,Q,Q',env,H,h,hk=>by
  rw [ar] at *;refine cX h fun x e h hh=>?_;cases x with
  | nrm=>exact hk _ _ _ hh
  | ret=>exact hk _ _ _ hh
  | exit id'=>
   rw [aI] at hh ⊢;by_cases hid:id'=id
   ·rw [if_pos hid] at hh ⊢;exact hk _ _ _ hh
   ·rw [if_neg hid] at hh ⊢;exact hk _ _ _ hh
 | .loop keep b,Q,Q',env,H,h,hk=>by
  simp only [WB] at *;obtain ⟨n,h⟩:=h;exact ⟨n,tI (f:=WB S b) (fun _ _ _ _ h hk=>cX h hk) hk h⟩
 | .rangeF keep it g ps asg body,Q,Q',env,H,h,hk=>by
  simp only [WB] at *;obtain ⟨l,h1,h2⟩:=h;exact ⟨l,h1,tK (f:=WB S asg) (g:=WB S body) (fun _ _ _ _ h hk=>cX h hk) (fun _ _ _ _ h hk=>cX h hk) hk h2⟩

theorem ax {σ:Type}{keep:List Nat}{b:AC}(E:σ→Env)(G:σ→Heap)(inv:σ→Prop)(μ:σ→Nat)
  (hround:∀s,inv s→WB S b (Rnd keep E G inv μ s Q) (E s) (G s)) (s:σ) (hs:inv s) (he:ab keep env=E s) (hH:H=G s):WB S (.loop keep b) Q env H:=by
 show ∃n,itB (WB S b) keep Q n env H;have key:∀(n:Nat) (s:σ) (env:Env) (H:Heap),μ s < n→inv s→ab keep env=E s→H=G s→itB (WB S b) keep Q n env H:=by
  intro n;induction n with
  | zero=>intro s env H h;omega
  | succ n ih=>
   intro s env H hn hs he hH;subst hH;simp only [itB,he];refine cX (hround s hs) fun x e h hh=>?_;cases x with
   | nrm=>
    obtain ⟨s',k1,k2,k3,k4⟩:=hh;exact ih s' e h (by omega) k1 k3 k4
   | exit id=>exact hh
   | ret=>exact hh
 exact ⟨μ s+1,key _ s env H (by omega) hs he hH⟩

def RgE (G:Nat→Heap→Prop)(i:Nat)(Q:Ex→Kt)(env:Env):Ex→Kt:=fun x _ h=>match x with
  | .nrm=>G (i+1) h
  | .exit id=>Q (.exit id) env h
  | .ret=>Q .ret env h
def Nrm (k:Kt):Ex→Kt:=fun x e h=>match x with
  | .nrm=>ep e=true∧k e h
  | _=>False
theorem AU {keep ps:List Nat}{it:FuncId→List AV→Heap→Option (List (List Value))}{g:AO}{asg body:AC}(l:List (List Value))(G:Nat→Heap→Prop)(hl:i7 it g ps (ab keep env) H=some l)
  (h0:G 0 H) (hround:∀i x h,l[i]?=some x→G i h→∃e,ik ps x (ab keep env)=some e∧WB S asg (Nrm (WB S body (RgE G i Q (ab keep env)))) e h)
  (hend:∀h,G l.length h→Q .nrm (ab keep env) h):WB S (.rangeF keep it g ps asg body) Q env H:=by
 refine ⟨l,hl,?_⟩;have key:∀(r:List (List Value)) (i:Nat) (H:Heap),l.drop i=r→i≤l.length→G i H→rgB (WB S asg) (WB S body) ps Q (ab keep env) r H:=by
  intro r;induction r with
  | nil=>
   intro i H hd hi hG;have:i=l.length:=by
    have:=congrArg List.length hd;simp at this;omega
   subst this;exact hend _ hG
  | cons x r ih=>
   intro i H hd hi hG;have hx:l[i]?=some x:=by
    have:=congrArg (·[0]?) hd;simpa using this
   have hlt:=(List.getElem?_eq_some_iff.1 hx).1;obtain ⟨e,he,hw⟩:=hround i x H hx hG;simp only [rgB,he];refine cX hw fun x1 e1 h1 hh=>?_;cases x1 with
   | exit id=>exact hh
   | ret=>exact hh
   | nrm=>
    refine ⟨hh.1,cX hh.2 fun x2 e2 h2 hh=>?_⟩;cases x2 with
    | exit id=>exact hh
    | ret=>exact hh
    | nrm=>
     refine ih (i+1) h2 ?_ (by omega) hh
     have:=congrArg List.tail hd;simpa [List.tail_drop] using this
 exact key l 0 H rfl (Nat.zero_le _) h0

theorem rB {B:List Nat}:∀{env:Env} {t:Nat},Inv B env→vOk B t (find env t)=true
 | [],_,_=>rfl
 | (t',v)::r,t,h=>by
  simp only [find];split
  ·rename_i ht;subst ht;exact h (t',v) (List.mem_cons_self ..)
  ·exact rB fun p hp=>h p (List.mem_cons_of_mem _ hp)
theorem eH {B keep:List Nat}{env:Env}(h:Inv B env):Inv B (ab keep env):=by
 intro p hp;simp only [ab,List.mem_map] at hp;obtain ⟨t,_,rfl⟩:=hp;exact rB h
theorem e8 {B:List Nat}{env:Env}{d:Nat}{v:AV}(h:Inv B env)(hv:vOk B d v=true):Inv B ((d,v)::env):=by
 intro p hp;rcases List.mem_cons.1 hp with rfl | hp
 ·exact hv
 ·exact h p hp
theorem xu {B:List Nat}{d:Nat}(hd:rx B d=false):∀{env:Env},Inv B env→eo d env=true
 | [],_=>rfl
 | (t',v)::r,h=>by
  have ih:=xu hd (env:=r) fun p hp=>h p (List.mem_cons_of_mem _ hp);have hv:=h (t',v) (List.mem_cons_self ..);cases v<;>simp only [eo]<;>try exact ih
  rename_i t o;simp only [vOk] at hv;split
  ·rename_i he;subst he;rw [hd] at hv;cases hv
  ·exact ih
theorem bM {B:List Nat}{dst:Option Nat}{v:AV}(h:c8 B dst v env H k)(hi:Inv B env):∃e,put dst v env=some e∧k e H∧Inv B e:=by
 unfold c8 at h;split at h
 ·exact ⟨env,rfl,h,hi⟩
 ·rename_i d;obtain ⟨h1,h2,h3⟩:=h;refine ⟨(d,v)::env,?_,h3,e8 hi h1⟩;have:eo d env=true:=by
   cases hm:rx B d with
   | true=>exact h2 hm
   | false=>exact xu hm hi
  simp only [put,this,if_true]
theorem p8 {B:List Nat}{t:Nat}{cs:List AV}(ht:rx B t=true):∀{env:Env},Inv B env→Inv B (da env t (.box cs))
 | [],_=>fun _ h=>by simp [da] at h
 | (t',v)::r,h=>by
  simp only [da];split
  ·exact e8 (fun p hp=>h p (List.mem_cons_of_mem _ hp)) ht
  ·exact e8 (p8 ht fun p hp=>h p (List.mem_cons_of_mem _ hp)) (h _ (List.mem_cons_self ..))
theorem rC {B:List Nat}{dst:Option Nat}{v:AV}{e:Env}(hv:∀d,vOk B d v=true)(hi:Inv B env)(h:put dst v env=some e):Inv B e:=by
 cases dst with
 | none=>simp only [put,Option.some.injEq] at h;subst h;exact hi
 | some d=>
  simp only [put] at h;split at h
  ·simp only [Option.some.injEq] at h;subst h;exact e8 hi (hv d)
  ·simp at h
theorem kH {B:List Nat}{lk lim base:Nat}{dst:Option Nat}{op:AOp}{e:Env}{H':Heap}(hi:Inv B env)(h:b6 lk lim base dst op env H=some (e,H')):Inv B e:=by
 unfold b6 at h;split at h;case h_1 l n a x=>
  split at h;case h_2=>simp at h
  split at h;case isFalse=>simp at h
  split at h;case h_1=>
   split at h;case isFalse=>simp at h
   split at h;case h_2=>simp at h
   rename_i cs hf;split at h;case isFalse=>simp at h
   simp only [Option.some.injEq,Prod.mk.injEq] at h;obtain ⟨rfl,_⟩:=h;have hh:∀t cs,find env t= .box cs→rx B t=true:=fun t cs ht=>by
    have:=rB (B:=B) (t:=t) hi;rw [ht] at this;exact this
   exact p8 (hh _ _ hf) hi
  case h_2=>
   split at h;case h_2=>simp at h
   split at h;case isFalse=>simp at h
   split at h;case h_2=>simp at h
   simp only [Option.some.injEq,Prod.mk.injEq] at h;obtain ⟨rfl,_⟩:=h;exact hi
  case h_3=>simp at h
 case h_2 es bytes x y=>
  split at h;case h_2=>simp at h
  split at h;case isFalse=>simp at h
  split at h;case h_1=>
   split at h
   ·split at h;case h_2=>simp at h
    rename_i hp;simp only [Option.some.injEq,Prod.mk.injEq] at h;obtain ⟨rfl,_⟩:=h;exact rC (fun _=>rfl) hi hp
   split at h;case isFalse=>simp at h
   split at h;case h_2=>simp at h
   rename_i hp;simp only [Option.some.injEq,Prod.mk.injEq] at h;obtain ⟨rfl,_⟩:=h;exact rC (fun _=>rfl) hi hp
  case h_2=>
   split at h;case h_2=>simp at h
   split at h;case isFalse=>simp at h
   split at h;case h_2=>simp at h
   split at h;case h_2=>simp at h
   rename_i hp;simp only [Option.some.injEq,Prod.mk.injEq] at h;obtain ⟨rfl,_⟩:=h;exact rC (fun _=>rfl) hi hp
  case h_3=>simp at h
 case h_3=>
  split at h;case h_2=>simp at h
  split at h;case h_2=>simp at h
  split at h;case isFalse=>simp at h
  split at h;case h_2=>simp at h
  simp only [Option.some.injEq,Prod.mk.injEq] at h;obtain ⟨rfl,_⟩:=h;exact hi
 case h_4=>simp at h
theorem AW {op:AOp}{dst:Option Nat}(h:WI S op dst env H k)(hi:Inv S.B env):∃e h,eU S.C S.lk S.lim dst op env H=some (e,h)∧k e h∧Inv S.B e:=by
 unfold WI at h;unfold eU;split at h;case h_1 | h_2=>
  rename_i hc;rw [hc];unfold im at h;split at h
  ·rename_i e h' he;exact ⟨e,h',he,h,kH hi he⟩
  ·exact h.elim
 case h_3=>
  rename_i hc;rw [hc];unfold kG at h;split at h
  ·rename_i v x hm;obtain ⟨e,h1,h2,h3⟩:=bM h hi;exact ⟨e,_,by simp only [hm,h1],h2,h3⟩
  ·exact h.elim
 case h_4=>
  rename_i hc;rw [hc];unfold WCl xt at h;split at h
  ·rename_i g l hl;obtain ⟨ha,h⟩:=h;split at h
   ·rename_i v H' hC;obtain ⟨e,h1,h2,h3⟩:=bM h hi;exact ⟨e,_,by simp only [hl,ha,if_true,hC,h1],h2,h3⟩
   ·exact h.elim
  ·exact h.elim
 case h_5=>
  rename_i hc1 hc2 hc3 hc4;unfold a8 at h;split at h
  ·rename_i v hv;obtain ⟨e,h1,h2,h3⟩:=bM h hi;refine ⟨e,_,?_,h2,h3⟩;split
   ·exact (hc1 _ ‹_›).elim
   ·exact (hc2 ‹_›).elim
   ·exact (hc3 ‹_›).elim
   ·exact (hc4 ‹_›).elim
   ·simp only [hv,h1]
  ·exact h.elim
theorem od:∀{l:List AI} {k:Kt} {env:Env} {H:Heap},WR S l k env H→Inv S.B env→∃e h,cB S.C S.lk S.lim l env H=some (e,h)∧k e h∧Inv S.B e
 | [],_,env,H,h,hi=>⟨env,H,rfl,h,hi⟩
 | i::r,k,env,H,h,hi=>by
  rw [rz] at h;unfold WG at h;simp only [cB,ft];split at h
  ·rename_i hg;obtain ⟨e,h',h1,h2,h3⟩:=AW h hi;simp only [hg,h1];exact od h2 h3
  ·rename_i hg;obtain ⟨e,h1,h2,h3⟩:=bM h hi;simp only [hg,h1];exact od h2 h3
  ·exact h.elim

theorem tL {op:AOp}(hc:cls op= .env∨∃t,cls op= .memL t)(env:Env)(H H':Heap):au op env H=au op env H':=by
 cases op<;>first | rfl | skip
 all_goals first | (rcases hc with hc | ⟨_,hc⟩<;>cases hc;done) | skip
 case len b a=>cases b<;>rfl
 case ld1 l a=>cases l<;>first | rfl | (rcases hc with hc | ⟨_,hc⟩<;>cases hc)
 case ldA l n a=>cases l<;>first | rfl | (rcases hc with hc | ⟨_,hc⟩<;>cases hc)
theorem AX {lk lim base:Nat}{dst:Option Nat}{op:AOp}{t:Nat}(hc:cls op= .actL t):b6 lk lim base dst op env H=b6 lk lim 0 dst op env H∧∀e H',b6 lk lim 0 dst op env H=some (e,H')→H'=H:=by
 cases op<;>try (cases hc;done)
 case st l n a x=>
  cases l with
  | none=>cases hc
  | some t'=>
   refine ⟨?_,fun e H' h=>?_⟩
   ·simp only [b6];cases cH (ev env x) with
    | none=>rfl
    | some new=>
     dsimp only;by_cases hn:new.length=n
     ·rw [if_pos hn,if_pos hn];cases ev env a<;>rfl
     ·rw [if_neg hn,if_neg hn]
   simp only [b6] at h;split at h;case h_2=>simp at h
   split at h;case isFalse=>simp at h
   split at h;case h_1=>
    split at h;case isFalse=>simp at h
    split at h;case h_2=>simp at h
    split at h;case isFalse=>simp at h
    simp only [Option.some.injEq,Prod.mk.injEq] at h;exact h.2.symm
   case h_2 heq _=>simp at heq
   case h_3=>simp at h
 case ld1 l a=>cases l<;>cases hc
 case ldA l n a=>cases l<;>cases hc
theorem xw {i:AI}{r:List AI}(h:cN (i::r)=true):(i.fl=true→ee i.op env=none)∧cN r=true∧(cls i.op= .env∨(∃t,cls i.op= .memL t)∨cls i.op= .memH∨(∃t,cls i.op= .actL t)∨cls i.op= .call∨(cls i.op= .actH∧i.fl=false∧fE r=true)):=by
 simp only [cN,Bool.and_eq_true] at h;refine ⟨fun hfl=>?_,h.2,?_⟩
 ·unfold ee;split
  ·rename_i hop;rw [hop] at h;simp [cls,hfl] at h
  ·rename_i hop;rw [hop] at h;simp [cls,hfl] at h
  ·rename_i hop;rw [hop] at h;simp [cls,hfl] at h
  ·rfl
 have h1:=h.1;split at h1
 ·exact .inl ‹_›
 ·exact .inr (.inl ⟨_,‹_›⟩)
 ·exact .inr (.inr (.inl ‹_›))
 ·exact .inr (.inr (.inr (.inl ⟨_,‹_›⟩)))
 ·simp only [Bool.and_eq_true,Bool.not_eq_true'] at h1;exact .inr (.inr (.inr (.inr (.inr ⟨‹_›,h1⟩))))
 ·exact .inr (.inr (.inr (.inr (.inl ‹_›))))
 ·cases h1
theorem oe {lk lim base:Nat}:∀{l:List AI} {env:Env} {H:Heap},cN l=true→nk lk lim base l env H=[]
 | [],_,_,_=>rfl
 | i::r,env,H,h=>by
  obtain ⟨h1,h2,_⟩:=xw (env:=env) h;simp only [nk];split
  ·rename_i e' H' _;rw [oe h2];simp only [List.append_nil];split
   ·split
    ·rename_i hfl;rw [h1 hfl];rfl
    ·rfl
   ·rfl
  ·rfl
theorem kI:∀{l:List AI},fE l=true→l.any isCall=false
 | [],_=>rfl
 | i::r,h=>by
  simp only [fE,Bool.and_eq_true] at h;rw [List.any_cons,kI h.2,Bool.or_false];have h1:=h.1;rw [pP];split at h1;case h_5=>rename_i hc;rw [hc,h1];rfl
  case h_6=>rename_i hc;rw [hc];cases i.fl<;>rfl
  all_goals first | (cases h1;done) | skip
  all_goals (rename_i hc;rw [hc];rfl)
theorem Er {lk lim base:Nat}{l:List AI}{env:Env}{H:Heap}(h:cN l=true)(b:Nat):iq lk lim base l env H b=false:=by
 unfold iq;split
 ·rw [oe h];rfl
 ·rfl
theorem tM {i:AI}(h:cls i.op= .call):isFree i=i.fl:=by
 unfold isFree;rw [h];cases i.fl<;>rfl
theorem jL {i:AI}(h:cls i.op≠.call):isFree i=false:=by
 unfold isFree;have:(cls i.op==Cls.call)=false:=by simpa using h
 rw [this,Bool.and_false]
theorem cY {ws:WS}(hws:∀b,ws b=false){base:Nat}:∀{l:List AI} {k:Kt} {env:Env} {H:Heap},cN l=true→(fE l=true∨H.length=base)→WRD S l k env H→Inv S.B env→∃e h,cI S.C S.lk S.lim ws base l env H=some (e,h)∧k e h∧Inv S.B e
 | [],_,env,H,_,_,h,hi=>⟨env,H,rfl,h,hi⟩
 | i::r,k,env,H,hd,hs,h,hi=>by
  rw [oa] at h;obtain ⟨hw,hd2,hcl⟩:=xw (env:=env) hd;have hok:(isRow i=true→bV i.op env=none)→okT ws i env=true:=fun hrow=>by
   unfold okT;rw [Bool.and_eq_true,Bool.and_eq_true];refine ⟨⟨?_,?_⟩,?_⟩
   ·split
    ·rename_i hb;cases hfl:i.fl with
     | true=>rw [hw hfl] at hb;cases hb
     | false=>rfl
    ·rfl
   ·split
    ·rw [hws];rfl
    ·rfl
   ·cases hr:isRow i with
    | false=>rfl
    | true=>rw [hrow hr];rfl
  have hs2:fE r=true∨H.length=base:=by
   rcases hs with hs | hs
   ·simp only [fE,Bool.and_eq_true] at hs;exact .inl hs.2
   ·exact .inr hs
  unfold WGD at h;simp only [cI,cZ];split at h
  ·rename_i hg;have hok:=hok fun hr=>by
    unfold isRow at hr;simp only [Bool.and_eq_true,beq_iff_eq] at hr;unfold WID at h;rw [hr.2] at h;simp only [hr.1,if_true] at h;exact h.1
   simp only [hg,hok,if_true];have rest:(∀t,cls i.op≠.actL t)→cls i.op≠.actH→cls i.op≠.call→(cls i.op= .memH→i.fl=true→bV i.op env=none)→(match au i.op env H with
     | some v=>(dV v=false∨jB i.op=true)∧c8 S.B i.dst v env H (WRD S r k)
     | none=>False)→∃e h,(match if isFree i=true then j1 S.C S.lk S.lim i.dst i.op env H else eV S.C S.lk S.lim base (if r.any isCall=true then base else 0) i.dst i.op i.at_ env H with
      | some (env',H')=>cI S.C S.lk S.lim ws base r env' H'
      | none=>none)=some (e,h)∧k e h∧Inv S.B e:=by
    intro hc1 hc3 hc2 hmr h;rw [jL hc2,if_neg (by simp)]
    split at h
    ·rename_i v hv;obtain ⟨h1,h2⟩:=h;obtain ⟨e,p1,p2,p3⟩:=bM h2 hi;have hrd:au i.op env (H.take base)=some v:=by
      rcases hs with hs | hs
      ·simp only [fE,Bool.and_eq_true] at hs;have hs1:=hs.1;rw [←hv];split at hs1
       ·exact tL (.inl ‹_›) _ _ _
       ·exact tL (.inr ⟨_,‹_›⟩) _ _ _
       ·exact (hc1 _ ‹_›).elim
       ·exact (hc3 ‹_›).elim
       ·exact (hc2 ‹_›).elim
       ·rename_i hm;have hn:=hmr hm hs1;exact ri (fun b hb=>by rw [hn] at hb;cases hb) hm
       ·cases hs1
      ·rw [←hs,List.take_length];exact hv
     unfold eV;rcases hcl with hc | ⟨t,hc⟩ | hc | ⟨t,hc⟩ | hc | hc
     ·rw [hc];simp only [hrd];rw [if_pos h1];simp only [p1];exact cY hws hd2 hs2 p2 p3
     ·rw [hc];simp only [hrd];rw [if_pos h1];simp only [p1];exact cY hws hd2 hs2 p2 p3
     ·rw [hc];simp only [hrd];rw [if_pos h1];simp only [p1];exact cY hws hd2 hs2 p2 p3
     ·exact (hc1 _ hc).elim
     ·exact (hc2 hc).elim
     ·exact (hc3 hc.1).elim
    ·exact h.elim
   unfold WID at h;split at h;case h_1 t hc=>
    rw [jL (by rw [hc];simp),if_neg (by simp)]
    unfold im at h;split at h
    ·rename_i e h' he;have hl:=AX (lk:=S.lk) (lim:=S.lim) (base:=if r.any isCall=true then base else 0) (dst:=i.dst) (env:=env) (H:=H) hc;have hH:=hl.2 _ _ he;subst hH;unfold eV;rw [hc];simp only [hl.1,he];exact cY hws hd2 hs2 h (kH hi he)
    ·exact h.elim
   case h_2 hc=>
    obtain ⟨hfl,hst⟩:i.fl=false∧fE r=true:=by
     rcases hcl with h | ⟨t,h⟩ | h | ⟨t,h⟩ | h | h
     ·rw [hc] at h;cases h
     ·rw [hc] at h;cases h
     ·rw [hc] at h;cases h
     ·rw [hc] at h;cases h
     ·rw [hc] at h;cases h
     ·exact h.2
    rw [jL (by rw [hc];simp),if_neg (by simp),kI hst]
    unfold im at h;split at h
    ·rename_i e h' he;unfold eV;rw [hc];simp only [Bool.false_eq_true,if_false,he];exact cY hws hd2 (.inl hst) h (kH hi he)
    ·exact h.elim
   case h_3 hc=>
    rw [tM hc];split at h
    ·rename_i hfl;rw [if_pos hfl];split at h
     ·rename_i g l hl;obtain ⟨ha,h⟩:=h;split at h
      ·rename_i v H' hC;obtain ⟨h1,h2,h3⟩:=h;obtain ⟨e,p1,p2,p3⟩:=bM h3 hi;unfold j1;simp only [hl,ha,if_true,hC,h1,p1];refine cY hws hd2 ?_ p2 p3;rcases h2 with h2 | h2
       ·exact .inl h2
       ·rcases hs2 with hs2 | hs2
        ·exact .inl hs2
        ·exact .inr (h2.trans hs2)
      ·exact h.elim
     ·exact h.elim
    ·rename_i hfl;rw [if_neg hfl];have hHb:H.length=base:=by
      rcases hs with hs | hs
      ·simp only [fE,hc,Bool.and_eq_true] at hs;exact absurd hs.1 hfl
      ·exact hs
     split at h
     ·rename_i g l hl;obtain ⟨ha,hb,h⟩:=h;split at h
      ·rename_i v H' hC;obtain ⟨h1,rfl,h3⟩:=h;obtain ⟨e,p1,p2,p3⟩:=bM h3 hi;unfold eV;rw [hc];subst hHb;simp only [hl];rw [if_pos ⟨ha,hb⟩];simp only [List.take_length,hC];rw [if_pos ⟨.inl (Nat.le_refl _),h1⟩];simp only [p1,List.drop_length,List.append_nil];exact cY hws hd2 hs2 p2 p3
      ·exact h.elim
     ·exact h.elim
   case h_4 hc=>
    refine rest (fun t e=>by rw [hc] at e;cases e) (fun e=>by rw [hc] at e;cases e) (fun e=>by rw [hc] at e;cases e) (fun _ hfl=>by rw [if_pos hfl] at h;exact h.1) ?_
    split at h
    ·exact h.2
    ·exact h
   case h_5 hc1 hc3 hc2 hc4=>
    exact rest hc1 hc3 hc2 (fun hm _=>absurd hm (by assumption)) h
  ·rename_i hg;obtain ⟨e,h1,h2,h3⟩:=bM h hi;simp only [hg,h1];exact cY hws hd2 hs2 h2 h3
  ·exact h.elim

theorem tN {B:List Nat}:∀{ps:List Nat} {x:List Value} {env e:Env},ik ps x env=some e→Inv B env→Inv B e
 | [],[],_,_,h,hi=>by simp only [ik,Option.some.injEq] at h;subst h;exact hi
 | p::ps,v::vs,env,e,h,hi=>by
  simp only [ik] at h;exact tN h (e8 hi rfl)
 | [],_::_,_,_,h,_=>by simp [ik] at h
 | _::_,[],_,_,h,_=>by simp [ik] at h
theorem Es {B:List Nat}{t lim:Nat}{H:Heap}{v:AV}(h:vOk B t v=true):vOk B t (nm lim H v)=true:=by
 by_cases hb:∃cs,v= .box cs
 ·obtain ⟨cs,rfl⟩:=hb;unfold nm;dsimp only;split
  ·split
   ·exact h
   ·rfl
  ·rfl
 ·rw [ru (fun cs h=>hb ⟨cs,h⟩)];split
  ·split
   ·rename_i v' _ hb;have h3:=nX hb;generalize pu v'=u at h3;cases u<;>first | rfl | (simp [Hm.below] at h3)
   ·rfl
  ·rfl
theorem xy {B:List Nat}{lim:Nat}{H:Heap}:∀{env:Env},Inv B env→Inv B (nq lim H env)
 | [],_=>fun p h=>by cases h
 | (t,v)::r,hi=>fun p h=>by
  rcases List.mem_cons.1 h with rfl | h
  ·exact Es (hi (t,v) (List.mem_cons_self ..))
  ·exact xy (fun q hq=>hi q (List.mem_cons_of_mem _ hq)) p h
theorem di:∀{c:AC} {Q:Ex→Kt} {env:Env} {H:Heap},WB S c Q env H→Inv S.B env→∃x e h,aP S.C S.lk S.lim c env H=some (x,e,h)∧Q x e h∧Inv S.B e
 | .skip,_,_,_,h,hi=>⟨_,_,_,rfl,h,hi⟩
 | .frz,_,_,_,h,hi=>⟨_,_,_,by simp only [aP,yl,if_pos (show S.lk≤S.lim∧S.lim≤_ from ⟨h.1,h.2.1⟩)],h.2.2,xy hi⟩
 | .exit _,_,_,_,h,hi=>⟨_,_,_,rfl,h,hi⟩
 | .ret,_,_,_,h,hi=>⟨_,_,_,rfl,h,hi⟩
 | .bad,_,_,_,h,_=>h.elim
 | .regN keep ops,Q,env,H,h,hi=>by
  rw [ae] at h;obtain ⟨e,h',h1,h2,h3⟩:=od h (eH hi);exact ⟨.nrm,e,h',by simp only [aP,h1],h2,h3⟩
 | .regD keep m ops,Q,env,H,h,hi=>by
  simp only [WB] at h;split at h
  ·rename_i hc;obtain ⟨rfl,hc⟩:=hc;obtain ⟨e,h',h1,h2,h3⟩:=cY (Er (lk:=S.lk) (lim:=S.lim) (base:=H.length) (env:=ab keep env) (H:=H) hc) (base:=H.length) hc (.inr rfl) h (eH hi);refine ⟨.nrm,e,h',?_,h2,h3⟩;simp only [aP,List.replicate_zero,List.append_nil];rw [h1]
  ·obtain ⟨e,h',h1,h2,h3⟩:=h;exact ⟨.nrm,e,h',by simp only [aP,h1],h3,h2⟩
 | .seq a b,Q,env,H,h,hi=>by
  rw [an] at h;obtain ⟨x,e,h',h1,h2,h3⟩:=di h hi;cases x with
  | nrm=>
   obtain ⟨x',e',h'',k1,k2,k3⟩:=di (c:=b) h2 h3;exact ⟨x',e',h'',by simp only [aP,h1];exact k1,k2,k3⟩
  | exit id=>exact ⟨_,_,_,by simp only [aP,h1],h2,h3⟩
  | ret=>exact ⟨_,_,_,by simp only [aP,h1],h2,h3⟩
 | .cond c a b,Q,env,H,h,hi=>by
  simp only [WB] at h;split at h
  ·rename_i hc;obtain ⟨x,e,h',h1,h2,h3⟩:=di h hi;exact ⟨x,e,h',by simp only [aP,hc,if_true];exact h1,h2,h3⟩
  ·rename_i hc;obtain ⟨x,e,h',h1,h2,h3⟩:=di h hi;exact ⟨x,e,h',by simp only [aP,hc];exact h1,h2,h3⟩
  ·exact h.elim
 | .block id b,Q,env,H,h,hi=>by
  rw [ar] at h;obtain ⟨x,e,h',h1,h2,h3⟩:=di h hi;cases x with
  | nrm=>exact ⟨_,_,_,by simp only [aP,h1],h2,h3⟩
  | ret=>exact ⟨_,_,_,by simp only [aP,h1],h2,h3⟩
  | exit id'=>
   rw [aI] at h2;by_cases hid:id'=id
   ·rw [if_pos hid] at h2;exact ⟨.nrm,e,h',by simp only [aP,h1];rw [if_pos hid],h2,h3⟩
   ·rw [if_neg hid] at h2;exact ⟨.exit id',e,h',by simp only [aP,h1];rw [if_neg hid],h2,h3⟩
 | .loop keep b,Q,env,H,h,hi=>by
  obtain ⟨n,h⟩:=h;simp only [aP];induction n generalizing env H with
  | zero=>exact h.elim
  | succ n ih=>
   simp only [itB] at h;obtain ⟨x,e,h',h1,h2,h3⟩:=di h (eH hi);rw [AG];simp only [h1];cases x with
   | nrm=>exact ih e h' h3 h2
   | exit id=>exact ⟨_,_,_,rfl,h2,h3⟩
   | ret=>exact ⟨_,_,_,rfl,h2,h3⟩
 | .rangeF keep it g ps asg body,Q,env,H,h,hi=>by
  obtain ⟨l,hl,h⟩:=h;simp only [aP,hl];have hi0:=eH (keep:=keep) hi;have key:∀(l:List (List Value)) (H:Heap),rgB (WB S asg) (WB S body) ps Q (ab keep env) l H→∃x e h,bR (fun e H=>aP S.C S.lk S.lim asg e H) (fun e H=>aP S.C S.lk S.lim body e H) ps (ab keep env) l H=some (x,e,h)∧Q x e h∧Inv S.B e:=by
   intro l;induction l with
   | nil=>intro H h;exact ⟨_,_,_,rfl,h,hi0⟩
   | cons x l ih=>
    intro H h;simp only [rgB] at h;split at h;case h_2=>exact h.elim
    rename_i e1 hp;obtain ⟨x1,e2,H2,h1,h2,h3⟩:=di (c:=asg) h (tN hp hi0);cases x1 with
    | exit id=>exact h2.elim
    | ret=>exact h2.elim
    | nrm=>
     obtain ⟨hb,h2⟩:=h2;obtain ⟨x2,e3,H3,k1,k2,k3⟩:=di (c:=body) h2 h3;have hr:er (fun e H=>aP S.C S.lk S.lim asg e H) (fun e H=>aP S.C S.lk S.lim body e H) ps (ab keep env) x H=some (x2,e3,H3):=by
      simp only [er,hp,h1,hb,if_true,k1]
     cases x2 with
     | nrm=>
      obtain ⟨x4,e4,H4,g1,g2,g3⟩:=ih H3 k2;exact ⟨x4,e4,H4,by simp only [bR,hr];exact g1,g2,g3⟩
     | exit id=>exact ⟨.exit id,_,H3,by simp only [bR,hr],k2,hi0⟩
     | ret=>exact ⟨.ret,_,H3,by simp only [bR,hr],k2,hi0⟩
  exact key l H h

theorem lL {B:List Nat}:∀{args:List AV} {k:Nat},args.all aO=true→Inv B (aZ k args)
 | [],_,_=>fun _ h=>by simp [aZ] at h
 | v::r,k,h=>by
  simp only [List.all_cons,Bool.and_eq_true] at h;refine e8 (lL h.2) ?_;have:=h.1;cases v<;>first | rfl | (simp [aO,Hm.one] at this)

def Fin (fd:AFn)(H:Heap)(r:AV×Heap):Ex→Kt:=fun x e h=>ck fd H (some (x,e,h))=some r

variable {X:Orc}{A:FuncId→Option AFn}
theorem Et {f:FuncId}{lk lim:Nat}{args:List AV}{fd:AFn}{r:AV×Heap}(B:List Nat)(hX:X lk lim f args H=none)(hA:A f=some fd)(hl:args.length=fd.np)(ha:args.all aO=true)
  (h:WB ⟨ah X A,lk,if fd.trunc then H.length else lim,B⟩ fd.body (Fin fd H r) (aZ 0 args) H):ah X A lk lim f args H=some r:=by
 obtain ⟨x,e,h1,h2,h3,_⟩:=di h (lL ha);rw [tC hX hA hl,h2];exact h3
end
end Go.Hm

