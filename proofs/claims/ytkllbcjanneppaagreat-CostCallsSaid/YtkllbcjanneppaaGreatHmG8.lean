/- The machine HM, part 8. -/
import Derived.Test.YtkllbcjanneppaaGreatHmG7
set_option linter.all false
namespace Go.Hm
open Go

def tO:List Nat->Nat->Bool
 | [],_=>false
 | b::r,d=>if b=d then true else tO r d

def vOk (B:List Nat)(d:Nat):AV->Bool
 | .rp t _=>tO B t
 | .box _=>tO B d
 | _=>true
def Inv (B:List Nat)(env:Env):Prop:=∀p∈env,vOk B p.1 p.2=true

abbrev Kt:=Env->Heap->Prop

structure Cx where
 C:Orc
 lk:Nat
 lim:Nat
 B:List Nat

def dr (B:List Nat)(dst:Option Nat)(v:AV)(env:Env)(H:Heap)(k:Kt):Prop:=match dst with
 | none=>k env H
 | some d=>vOk B d v=true/\(tO B d=true->fb d env=true)/\k ((d,v)::env) H
def bf (B:List Nat)(r:Option AV)(dst:Option Nat)(env:Env)(H:Heap)(k:Kt):Prop:=match r with
 | some v=>dr B dst v env H k
 | none=>False
def jc (r:Option (Env×Heap))(k:Kt):Prop:=match r with
 | some (e,h)=>k e h
 | none=>False
def l7 (B:List Nat)(r:Option (AV×HB))(dst:Option Nat)(env:Env)(H:Heap)(k:Kt):Prop:=match r with
 | some (v,x)=>dr B dst v env (H++[x]) k
 | none=>False
def zG (B:List Nat)(r:Option (AV×Heap))(dst:Option Nat)(env:Env)(k:Kt):Prop:=match r with
 | some (v,H')=>dr B dst v env H' k
 | none=>False
def WCl (S:Cx)(r:Option (FuncId×List AV))(dst:Option Nat)(env:Env)(H:Heap)(k:Kt):Prop:=match r with
 | some (g,l)=>l.all a7=true/\zG S.B (S.C S.lk S.lim g l H) dst env k
 | none=>False

def WI (S:Cx)(op:AOp)(dst:Option Nat)(env:Env)(H:Heap)(k:Kt):Prop:=match cls op with
 | .actL _ | .actH=>jc (cr S.lk S.lim 0 dst op env H) k
 | .make=>l7 S.B (cA op env H.length) dst env H k
 | .call=>WCl S (bj op env) dst env H k
 | _=>bf S.B (aw op env H) dst env H k
def WG (S:Cx)(g:Option Bool)(op:AOp)(dst:Option Nat)(env:Env)(H:Heap)(k:Kt):Prop:=match g with
 | some true=>WI S op dst env H k
 | some false=>dr S.B dst .und env H k
 | none=>False
def WR (S:Cx):List AI->Kt->Kt
 | [],k,env,H=>k env H
 | i::r,k,env,H=>WG S (guardI i env) i.op i.dst env H (WR S r k)

def gB:List AI->Bool
 | []=>true
 | i::r=>(match cls i.op with
  | .env | .memL _ | .actL _ | .actH=>true
  | .call | .memH=>i.fl
  | _=>false)&&gB r
def df:List AI->Bool
 | []=>true
 | i::r=>(match cls i.op with
  | .env | .memL _=>!i.fl
  | .memH=>true
  | .actL _=>!i.fl
  | .actH=>!i.fl&&gB r
  | .call=>true
  | _=>false)&&df r

def WID (S:Cx)(fl st:Bool)(op:AOp)(dst:Option Nat)(env:Env)(H:Heap)(k:Kt):Prop:=match cls op with
 | .actL _ | .actH=>jc (cr S.lk S.lim 0 dst op env H) k
 | .call=>if fl=true then (match bj op env with
   | some (g,l)=>l.all a7=true/\(match S.C S.lk S.lim g l H with
    | some (v,H')=>eo v=false/\(st=true\/H'.length=H.length)/\dr S.B dst v env H' k
    | none=>False)
   | none=>False)
  else (match bj op env with
   | some (g,l)=>l.all a7=true/\belowL H.length l=true/\(match S.C H.length S.lim g l H with
    | some (v,H')=>eo v=false/\H'=H/\dr S.B dst v env H k
    | none=>False)
   | none=>False)
 | .memH=>if fl=true then b9 op env=none/\(match aw op env H with
   | some v=>(eo v=false\/k5 op=true)/\dr S.B dst v env H k
   | none=>False)
  else (match aw op env H with
   | some v=>(eo v=false\/k5 op=true)/\dr S.B dst v env H k
   | none=>False)
 | _=>match aw op env H with
  | some v=>(eo v=false\/k5 op=true)/\dr S.B dst v env H k
  | none=>False
def WGD (S:Cx)(g:Option Bool)(st:Bool)(i:AI)(env:Env)(H:Heap)(k:Kt):Prop:=match g with
 | some true=>WID S i.fl st i.op i.dst env H k
 | some false=>dr S.B i.dst .und env H k
 | none=>False
def WRD (S:Cx):List AI->Kt->Kt
 | [],k,env,H=>k env H
 | i::r,k,env,H=>WGD S (guardI i env) (gB r) i env H (WRD S r k)

def WD (S:Cx)(m:Nat)(ops:List AI)(k:Kt):Kt:=fun env H=>∃e h,cX S.C S.lk S.lim (je S.lk S.lim H.length ops env (H++List.replicate m .hole)) H.length ops env (H++List.replicate m .hole)=some (e,h)/\Inv S.B e/\k e h

def itB (f:(Ex->Kt)->Kt)(keep:List Nat)(Q:Ex->Kt):Nat->Kt
 | 0=>fun _ _=>False
 | n+1=>fun e H=>f (fun x e h=>match x with
  | .nrm=>itB f keep Q n e h
  | .exit id=>Q (.exit id) e h
  | .ret=>Q .ret e h) (ab keep e) H

def rgB (f g:(Ex->Kt)->Kt)(ps:List Nat)(Q:Ex->Kt)(env:Env):List (List Value)->Heap->Prop
 | [],H=>Q .nrm env H
 | x::r,H=>match ja ps x env with
  | some e=>f (fun x1 e1 h1=>match x1 with
   | .nrm=>eT e1=true/\g (fun x2 _ h2=>match x2 with
    | .nrm=>rgB f g ps Q env r h2
    | .exit id=>Q (.exit id) env h2
    | .ret=>Q .ret env h2) e1 h1
   | _=>False) e H
  | none=>False

def WB (S:Cx):AC->(Ex->Kt)->Kt
 | .skip,Q=>Q .nrm
 | .frz,Q=>fun e H=>S.lk<=S.lim/\S.lim<=H.length/\Q .nrm (oM S.lim H e) (gk S.lim H)
 | .regN keep ops,Q=>fun e H=>WR S ops (Q .nrm) (ab keep e) H
 | .regD keep m ops,Q=>fun e H=>if m=0/\df ops=true then WRD S ops (Q .nrm) (ab keep e) H else WD S m ops (Q .nrm) (ab keep e) H
 | .seq a b,Q=>WB S a (fun x e h=>match x with
  | .nrm=>WB S b Q e h
  | .exit id=>Q (.exit id) e h
  | .ret=>Q .ret e h)
 | .cond c a b,Q=>fun e H=>match ev e c with
  | .val (.bool true)=>WB S a Q e H
  | .val (.bool false)=>WB S b Q e H
  | _=>False
 | .block id b,Q=>WB S b (fun x e h=>match x with
  | .exit id'=>if id'=id then Q .nrm e h else Q (.exit id') e h
  | .nrm=>Q .nrm e h
  | .ret=>Q .ret e h)
 | .loop keep b,Q=>fun e H=>∃n,itB (WB S b) keep Q n e H
 | .rangeF keep it g ps asg body,Q=>fun e H=>∃l,jP it g ps (ab keep e) H=some l/\rgB (WB S asg) (WB S body) ps Q (ab keep e) l H
 | .exit id,Q=>Q (.exit id)
 | .ret,Q=>Q .ret
 | .bad,_=>fun _ _=>False

def Fol (S:Cx)(b:AC)(Q:Ex->Kt):Ex->Kt:=fun x e h=>match x with
  | .nrm=>WB S b Q e h
  | .exit id=>Q (.exit id) e h
  | .ret=>Q .ret e h
def tP (id:Nat)(Q:Ex->Kt):Ex->Kt:=fun x e h=>match x with
  | .exit id'=>if id'=id then Q .nrm e h else Q (.exit id') e h
  | .nrm=>Q .nrm e h
  | .ret=>Q .ret e h
def Rnd {σ:Type}(keep:List Nat)(E:σ->Env)(G:σ->Heap)(inv:σ->Prop)(μ:σ->Nat)(s:σ)(Q:Ex->Kt):Ex->Kt:=fun x e h=>match x with
  | .nrm=>∃s',inv s'/\μ s'<μ s/\ab keep e=E s'/\h=G s'
  | .exit id=>Q (.exit id) e h
  | .ret=>Q .ret e h

section
variable {S:Cx}{Q:Ex->Kt}{env:Env}{H:Heap}{k:Kt}
theorem aA:WB S .skip Q env H=Q .nrm env H:=rfl
theorem ya:WB S .frz Q env H=(S.lk<=S.lim/\S.lim<=H.length/\Q .nrm (oM S.lim H env) (gk S.lim H)):=rfl
theorem bT {id:Nat}:WB S (.exit id) Q env H=Q (.exit id) env H:=rfl
theorem tQ:WB S .ret Q env H=Q .ret env H:=rfl
theorem ai {a b:AC}:WB S (.seq a b) Q env H=WB S a (Fol S b Q) env H:=rfl
theorem ap {id:Nat}{b:AC}:WB S (.block id b) Q env H=WB S b (tP id Q) env H:=rfl
theorem ae {keep:List Nat}{ops:List AI}:WB S (.regN keep ops) Q env H=WR S ops (Q .nrm) (ab keep env) H:=rfl
theorem aB {keep:List Nat}{ops:List AI}(h:df ops=true):WB S (.regD keep 0 ops) Q env H=WRD S ops (Q .nrm) (ab keep env) H:=by
 show (if _ then _ else _)=_;rw[if_pos ⟨rfl,h⟩]
theorem ak {c:AO}{a b:AC}(h:ev env c= .val (.bool true)):WB S (.cond c a b) Q env H=WB S a Q env H:=by
 show (match ev env c with | .val (.bool true)=>_ | .val (.bool false)=>_ | _=>_)=_
 rw[h]
theorem af {c:AO}{a b:AC}(h:ev env c= .val (.bool false)):WB S (.cond c a b) Q env H=WB S b Q env H:=by
 show (match ev env c with | .val (.bool true)=>_ | .val (.bool false)=>_ | _=>_)=_
 rw[h]
theorem ah {b:AC}:Fol S b Q .nrm env H=WB S b Q env H:=rfl
theorem a8 {b:AC}{id:Nat}:Fol S b Q (.exit id) env H=Q (.exit id) env H:=rfl
theorem zH {b:AC}:Fol S b Q .ret env H=Q .ret env H:=rfl
theorem a6 {id:Nat}:tP id Q .nrm env H=Q .nrm env H:=rfl
theorem Hn {id:Nat}:tP id Q .ret env H=Q .ret env H:=rfl
theorem aG {id id':Nat}:tP id Q (.exit id') env H=if id'=id then Q .nrm env H else Q (.exit id') env H:=rfl
theorem K1:WR S [] k env H=k env H:=rfl
theorem tR {i:AI}{r:List AI}:WR S (i::r) k env H=WG S (guardI i env) i.op i.dst env H (WR S r k):=rfl
theorem Ho:WRD S [] k env H=k env H:=rfl
theorem qg {i:AI}{r:List AI}:WRD S (i::r) k env H=WGD S (guardI i env) (gB r) i env H (WRD S r k):=rfl

theorem cI {B:List Nat}{dst:Option Nat}{v:AV}{k':Kt}(h:dr B dst v env H k)(hk:∀e h,k e h->k' e h):dr B dst v env H k':=by
 unfold dr at *;split at h
 ·exact hk _ _ h
 ·exact⟨h.1,h.2.1,hk _ _ h.2.2⟩
theorem Hp {op:AOp}{dst:Option Nat}{k':Kt}(h:WI S op dst env H k)(hk:∀e h,k e h->k' e h):WI S op dst env H k':=by
 unfold WI at *;split;case h_1 | h_2=>
  rename_i hc;rw[hc]at h;unfold jc at *;simp only at h;split at h
  ·exact hk _ _ h
  ·exact h
 case h_3=>
  rename_i hc;rw[hc]at h;unfold l7 at *;simp only at h;split at h
  ·exact cI h hk
  ·exact h
 case h_4=>
  rename_i hc;rw[hc]at h;unfold WCl zG at *;simp only at h;split at h
  ·refine⟨h.1,?_⟩;have h2:=h.2;split at h2
   ·exact cI h2 hk
   ·exact h2
  ·exact h
 case h_5=>
  rename_i hc1 hc2 hc3 hc4;split at h
  ·exact(hc1 _ ‹_›).elim
  ·exact(hc2 ‹_›).elim
  ·exact(hc3 ‹_›).elim
  ·exact(hc4 ‹_›).elim
  unfold bf at *;split at h
  ·exact cI h hk
  ·exact h
theorem tS:∀{l:List AI} {k k':Kt} {env:Env} {H:Heap},WR S l k env H->(∀e h,k e h->k' e h)->WR S l k' env H
 | [],_,_,_,_,h,hk=>hk _ _ h
 | i::r,k,k',env,H,h,hk=>by
  rw[tR]at *;unfold WG at *;split at h
  ·exact Hp h fun _ _ h=>tS h hk
  ·exact cI h fun _ _ h=>tS h hk
  ·exact h
theorem Ds {op:AOp}{fl st:Bool}{dst:Option Nat}{k':Kt}(h:WID S fl st op dst env H k)(hk:∀e h,k e h->k' e h):WID S fl st op dst env H k':=by
 unfold WID at *;split;case h_1 | h_2=>
  rename_i hc;rw[hc]at h;unfold jc at *;simp only at h;split at h
  ·exact hk _ _ h
  ·exact h
 case h_3=>
  rename_i hc;rw[hc]at h;simp only at h;split at h
  ·rename_i hfl;rw[if_pos hfl];split at h
   ·refine⟨h.1,?_⟩;have h2:=h.2;split at h2
    ·exact⟨h2.1,h2.2.1,cI h2.2.2 hk⟩
    ·exact h2
   ·exact h
  ·rename_i hfl;rw[if_neg hfl];split at h
   ·refine⟨h.1,h.2.1,?_⟩;have h2:=h.2.2;split at h2
    ·exact⟨h2.1,h2.2.1,cI h2.2.2 hk⟩
    ·exact h2
   ·exact h
 case h_4=>
  rename_i hc;rw[hc]at h;simp only at h;split at h
  ·rename_i hfl;rw[if_pos hfl];refine⟨h.1,?_⟩;have h2:=h.2;split at h2
   ·exact⟨h2.1,cI h2.2 hk⟩
   ·exact h2
  ·rename_i hfl;rw[if_neg hfl];split at h
   ·exact⟨h.1,cI h.2 hk⟩
   ·exact h
 case h_5=>
  rename_i hc1 hc2 hc3 hc4;split at h
  ·exact(hc1 _ ‹_›).elim
  ·exact(hc2 ‹_›).elim
  ·exact(hc3 ‹_›).elim
  ·exact(hc4 ‹_›).elim
  split at h
  ·exact⟨h.1,cI h.2 hk⟩
  ·exact h
theorem qh:∀{l:List AI} {k k':Kt} {env:Env} {H:Heap},WRD S l k env H->(∀e h,k e h->k' e h)->WRD S l k' env H
 | [],_,_,_,_,h,hk=>hk _ _ h
 | i::r,k,k',env,H,h,hk=>by
  rw[qg]at *;unfold WGD at *;split at h
  ·exact Ds h fun _ _ h=>qh h hk
  ·exact cI h fun _ _ h=>qh h hk
  ·exact h
theorem vN {f:(Ex->Kt)->Kt}(hf:∀(Q Q':Ex->Kt) (e:Env) (H:Heap),f Q e H->(∀x e h,Q x e h->Q' x e h)->f Q' e H){keep:List Nat}{Q Q':Ex->Kt}(hk:∀x e h,Q x e h->Q' x e h):∀{n:Nat} {e:Env} {H:Heap},itB f keep Q n e H->itB f keep Q' n e H
 | 0,_,_,h=>h
 | n+1,e,H,h=>by
  simp only[itB]at *;refine hf _ _ _ _ h fun x e h hh=>?_;cases x with
  | nrm=>exact vN hf hk (n:=n) hh
  | exit id=>exact hk _ _ _ hh
  | ret=>exact hk _ _ _ hh
theorem vO {f g:(Ex->Kt)->Kt}(hf:∀Q Q' e h,f Q e h->(∀x e h,Q x e h->Q' x e h)->f Q' e h)(hg:∀Q Q' e h,g Q e h->(∀x e h,Q x e h->Q' x e h)->g Q' e h){ps:List Nat}{Q Q':Ex->Kt}{env:Env}(hk:∀x e h,Q x e h->Q' x e h):∀{l:List (List Value)} {H:Heap},rgB f g ps Q env l H->rgB f g ps Q' env l H
 | [],_,h=>hk _ _ _ h
 | x::l,H,h=>by
  simp only[rgB]at h |-;split at h
  ·refine hf _ _ _ _ h fun x1 e1 h1 hh=>?_;cases x1 with
   | nrm=>
    refine⟨hh.1,hg _ _ _ _ hh.2 fun x2 e2 h2 hh=>?_⟩;cases x2 with
    | nrm=>exact vO hf hg hk hh
    | exit id=>exact hk _ _ _ hh
    | ret=>exact hk _ _ _ hh
   | exit id=>exact hh
   | ret=>exact hh
  ·exact h
theorem dk:∀{c:AC} {Q Q':Ex->Kt} {env:Env} {H:Heap},WB S c Q env H->(∀x e h,Q x e h->Q' x e h)->WB S c Q' env H
 | .skip,_,_,_,_,h,hk=>hk _ _ _ h
 | .frz,_,_,_,_,h,hk=>⟨h.1,h.2.1,hk _ _ _ h.2.2⟩
 | .exit _,_,_,_,_,h,hk=>hk _ _ _ h
 | .ret,_,_,_,_,h,hk=>hk _ _ _ h
 | .bad,_,_,_,_,h,_=>h
 | .regN keep ops,Q,Q',env,H,h,hk=>by
  rw[ae]at *;exact tS h fun _ _ h=>hk _ _ _ h
 | .regD keep m ops,Q,Q',env,H,h,hk=>by
  simp only[WB]at *;split at h
  ·rename_i hc;rw[if_pos hc];exact qh h fun _ _ h=>hk _ _ _ h
  ·rename_i hc;rw[if_neg hc];obtain⟨e,h1,h2,h3,h4⟩:=h;exact⟨e,h1,h2,h3,hk _ _ _ h4⟩
 | .seq a b,Q,Q',env,H,h,hk=>by
  rw[ai]at *;refine dk h fun x e h hh=>?_;cases x with
  | nrm=>exact dk (c:=b) hh hk
  | exit id=>exact hk _ _ _ hh
  | ret=>exact hk _ _ _ hh
 | .cond c a b,Q,Q',env,H,h,hk=>by
  simp only[WB]at *;split at h
  ·exact dk h hk
  ·exact dk h hk
  ·exact h
 | .block id b,Q,Q',env,H,h,hk=>by
  rw[ap]at *;refine dk h fun x e h hh=>?_;cases x with
  | nrm=>exact hk _ _ _ hh
  | ret=>exact hk _ _ _ hh
  | exit id'=>
   rw[aG]at hh |-;by_cases hid:id'=id
   ·rw[if_pos hid]at hh |-;exact hk _ _ _ hh
   ·rw[if_neg hid]at hh |-;exact hk _ _ _ hh
 | .loop keep b,Q,Q',env,H,h,hk=>by
  simp only[WB]at *;obtain⟨n,h⟩:=h;exact⟨n,vN (f:=WB S b) (fun _ _ _ _ h hk=>dk h hk) hk h⟩
 | .rangeF keep it g ps asg body,Q,Q',env,H,h,hk=>by
  simp only[WB]at *;obtain⟨l,h1,h2⟩:=h;exact⟨l,h1,vO (f:=WB S asg) (g:=WB S body) (fun _ _ _ _ h hk=>dk h hk) (fun _ _ _ _ h hk=>dk h hk) hk h2⟩

theorem ax {σ:Type}{keep:List Nat}{b:AC}(E:σ->Env)(G:σ->Heap)(inv:σ->Prop)(μ:σ->Nat)
  (hround:∀s,inv s->WB S b (Rnd keep E G inv μ s Q) (E s) (G s)) (s:σ) (hs:inv s) (he:ab keep env=E s) (hH:H=G s):WB S (.loop keep b) Q env H:=by
 show ∃n,itB (WB S b) keep Q n env H;have key:∀(n:Nat) (s:σ) (env:Env) (H:Heap),μ s<n->inv s->ab keep env=E s->H=G s->itB (WB S b) keep Q n env H:=by
  intro n;induction n with
  | zero=>intro s env H h;omega
  | succ n ih=>
   intro s env H hn hs he hH;subst hH;simp only[itB,he];refine dk (hround s hs) fun x e h hh=>?_;cases x with
   | nrm=>
    obtain⟨s',k1,k2,k3,k4⟩:=hh;exact ih s' e h (by omega) k1 k3 k4
   | exit id=>exact hh
   | ret=>exact hh
 exact⟨μ s+1,key _ s env H (by omega) hs he hH⟩

def RgE (G:Nat->Heap->Prop)(i:Nat)(Q:Ex->Kt)(env:Env):Ex->Kt:=fun x _ h=>match x with
  | .nrm=>G (i+1) h
  | .exit id=>Q (.exit id) env h
  | .ret=>Q .ret env h
def Nrm (k:Kt):Ex->Kt:=fun x e h=>match x with
  | .nrm=>eT e=true/\k e h
  | _=>False
theorem Dt {keep ps:List Nat}{it:FuncId->List AV->Heap->Option (List (List Value))}{g:AO}{asg body:AC}(l:List (List Value))(G:Nat->Heap->Prop)(hl:jP it g ps (ab keep env) H=some l)
  (h0:G 0 H) (hround:∀i x h,l[i]?=some x->G i h->∃e,ja ps x (ab keep env)=some e/\WB S asg (Nrm (WB S body (RgE G i Q (ab keep env)))) e h)
  (hend:∀h,G l.length h->Q .nrm (ab keep env) h):WB S (.rangeF keep it g ps asg body) Q env H:=by
 refine⟨l,hl,?_⟩;have key:∀(r:List (List Value)) (i:Nat) (H:Heap),l.drop i=r->i<=l.length->G i H->rgB (WB S asg) (WB S body) ps Q (ab keep env) r H:=by
  intro r;induction r with
  | nil=>
   intro i H hd hi hG;have:i=l.length:=by
    have:=congrArg List.length hd;simp at this;omega
   subst this;exact hend _ hG
  | cons x r ih=>
   intro i H hd hi hG;have hx:l[i]?=some x:=by
    have:=congrArg (·[0]?) hd;simpa using this
   have hlt:=(List.getElem?_eq_some_iff.1 hx).1;obtain⟨e,he,hw⟩:=hround i x H hx hG;simp only[rgB,he];refine dk hw fun x1 e1 h1 hh=>?_;cases x1 with
   | exit id=>exact hh
   | ret=>exact hh
   | nrm=>
    refine⟨hh.1,dk hh.2 fun x2 e2 h2 hh=>?_⟩;cases x2 with
    | exit id=>exact hh
    | ret=>exact hh
    | nrm=>
     refine ih (i+1) h2 ?_ (by omega) hh
     have:=congrArg List.tail hd;simpa[List.tail_drop] using this
 exact key l 0 H rfl (Nat.zero_le _) h0

theorem tT {B:List Nat}:∀{env:Env} {t:Nat},Inv B env->vOk B t (find env t)=true
 | [],_,_=>rfl
 | (t',v)::r,t,h=>by
  simp only[find];split
  ·rename_i ht;subst ht;exact h (t',v) (List.mem_cons_self ..)
  ·exact tT fun p hp=>h p (List.mem_cons_of_mem _ hp)
theorem fi {B keep:List Nat}{env:Env}(h:Inv B env):Inv B (ab keep env):=by
 intro p hp;simp only[ab,List.mem_map]at hp;obtain⟨t,_,rfl⟩:=hp;exact tT h
theorem fM {B:List Nat}{env:Env}{d:Nat}{v:AV}(h:Inv B env)(hv:vOk B d v=true):Inv B ((d,v)::env):=by
 intro p hp;rcases List.mem_cons.1 hp with rfl | hp
 ·exact hv
 ·exact h p hp
theorem zJ {B:List Nat}{d:Nat}(hd:tO B d=false):∀{env:Env},Inv B env->fb d env=true
 | [],_=>rfl
 | (t',v)::r,h=>by
  have ih:=zJ hd (env:=r) fun p hp=>h p (List.mem_cons_of_mem _ hp);have hv:=h (t',v) (List.mem_cons_self ..);cases v<;>simp only[fb]<;>try exact ih
  rename_i t o;simp only[vOk]at hv;split
  ·rename_i he;subst he;rw[hd]at hv;cases hv
  ·exact ih
theorem bP {B:List Nat}{dst:Option Nat}{v:AV}(h:dr B dst v env H k)(hi:Inv B env):∃e,put dst v env=some e/\k e H/\Inv B e:=by
 unfold dr at h;split at h
 ·exact⟨env,rfl,h,hi⟩
 ·rename_i d;obtain⟨h1,h2,h3⟩:=h;refine⟨(d,v)::env,?_,h3,fM hi h1⟩;have:fb d env=true:=by
   cases hm:tO B d with
   | true=>exact h2 hm
   | false=>exact zJ hm hi
  simp only[put,this,if_true]
theorem si {B:List Nat}{t:Nat}{cs:List AV}(ht:tO B t=true):∀{env:Env},Inv B env->Inv B (ea env t (.box cs))
 | [],_=>fun _ h=>by simp[ea]at h
 | (t',v)::r,h=>by
  simp only[ea];split
  ·exact fM (fun p hp=>h p (List.mem_cons_of_mem _ hp)) ht
  ·exact fM (si ht fun p hp=>h p (List.mem_cons_of_mem _ hp)) (h _ (List.mem_cons_self ..))
theorem tU {B:List Nat}{dst:Option Nat}{v:AV}{e:Env}(hv:∀d,vOk B d v=true)(hi:Inv B env)(h:put dst v env=some e):Inv B e:=by
 cases dst with
 | none=>simp only[put,RZ]at h;subst h;exact hi
 | some d=>
  simp only[put]at h;split at h
  ·simp only[RZ]at h;subst h;exact fM hi (hv d)
  ·simp at h
theorem l8 {B:List Nat}{lk lim base:Nat}{dst:Option Nat}{op:AOp}{e:Env}{H':Heap}(hi:Inv B env)(h:cr lk lim base dst op env H=some (e,H')):Inv B e:=by
 unfold cr at h;split at h;case h_1 l n a x=>
  split at h;case h_2=>simp at h
  split at h;case isFalse=>simp at h
  split at h;case h_1=>
   split at h;case isFalse=>simp at h
   split at h;case h_2=>simp at h
   rename_i cs hf;split at h;case isFalse=>simp at h
   simp only[RZ,R0]at h;obtain⟨rfl,_⟩:=h;have hh:∀t cs,find env t= .box cs->tO B t=true:=fun t cs ht=>by
    have:=tT (B:=B) (t:=t) hi;rw[ht]at this;exact this
   exact si (hh _ _ hf) hi
  case h_2=>
   split at h;case h_2=>simp at h
   split at h;case isFalse=>simp at h
   split at h;case h_2=>simp at h
   simp only[RZ,R0]at h;obtain⟨rfl,_⟩:=h;exact hi
  case h_3=>simp at h
 case h_2 es bytes x y=>
  split at h;case h_2=>simp at h
  split at h;case isFalse=>simp at h
  split at h;case h_1=>
   split at h
   ·split at h;case h_2=>simp at h
    rename_i hp;simp only[RZ,R0]at h;obtain⟨rfl,_⟩:=h;exact tU (fun _=>rfl) hi hp
   split at h;case isFalse=>simp at h
   split at h;case h_2=>simp at h
   rename_i hp;simp only[RZ,R0]at h;obtain⟨rfl,_⟩:=h;exact tU (fun _=>rfl) hi hp
  case h_2=>
   split at h;case h_2=>simp at h
   split at h;case isFalse=>simp at h
   split at h;case h_2=>simp at h
   split at h;case h_2=>simp at h
   rename_i hp;simp only[RZ,R0]at h;obtain⟨rfl,_⟩:=h;exact tU (fun _=>rfl) hi hp
  case h_3=>simp at h
 case h_3=>
  split at h;case h_2=>simp at h
  split at h;case h_2=>simp at h
  split at h;case isFalse=>simp at h
  split at h;case h_2=>simp at h
  simp only[RZ,R0]at h;obtain⟨rfl,_⟩:=h;exact hi
 case h_4=>simp at h
theorem Du {op:AOp}{dst:Option Nat}(h:WI S op dst env H k)(hi:Inv S.B env):∃e h,fF S.C S.lk S.lim dst op env H=some (e,h)/\k e h/\Inv S.B e:=by
 unfold WI at h;unfold fF;split at h;case h_1 | h_2=>
  rename_i hc;rw[hc];unfold jc at h;split at h
  ·rename_i e h' he;exact⟨e,h',he,h,l8 hi he⟩
  ·exact h.elim
 case h_3=>
  rename_i hc;rw[hc];unfold l7 at h;split at h
  ·rename_i v x hm;obtain⟨e,h1,h2,h3⟩:=bP h hi;exact⟨e,_,by simp only[hm,h1],h2,h3⟩
  ·exact h.elim
 case h_4=>
  rename_i hc;rw[hc];unfold WCl zG at h;split at h
  ·rename_i g l hl;obtain⟨ha,h⟩:=h;split at h
   ·rename_i v H' hC;obtain⟨e,h1,h2,h3⟩:=bP h hi;exact⟨e,_,by simp only[hl,ha,if_true,hC,h1],h2,h3⟩
   ·exact h.elim
  ·exact h.elim
 case h_5=>
  rename_i hc1 hc2 hc3 hc4;unfold bf at h;split at h
  ·rename_i v hv;obtain⟨e,h1,h2,h3⟩:=bP h hi;refine⟨e,_,?_,h2,h3⟩;split
   ·exact(hc1 _ ‹_›).elim
   ·exact(hc2 ‹_›).elim
   ·exact(hc3 ‹_›).elim
   ·exact(hc4 ‹_›).elim
   ·simp only[hv,h1]
  ·exact h.elim
theorem qi:∀{l:List AI} {k:Kt} {env:Env} {H:Heap},WR S l k env H->Inv S.B env->∃e h,cL S.C S.lk S.lim l env H=some (e,h)/\k e h/\Inv S.B e
 | [],_,env,H,h,hi=>⟨env,H,rfl,h,hi⟩
 | i::r,k,env,H,h,hi=>by
  rw[tR]at h;unfold WG at h;simp only[cL,gr];split at h
  ·rename_i hg;obtain⟨e,h',h1,h2,h3⟩:=Du h hi;simp only[hg,h1];exact qi h2 h3
  ·rename_i hg;obtain⟨e,h1,h2,h3⟩:=bP h hi;simp only[hg,h1];exact qi h2 h3
  ·exact h.elim

theorem vP {op:AOp}(hc:cls op= .env\/∃t,cls op= .memL t)(env:Env)(H H':Heap):aw op env H=aw op env H':=by
 cases op<;>first | rfl | skip
 all_goals first | (rcases hc with hc | ⟨_,hc⟩<;>cases hc;done) | skip
 case len b a=>cases b<;>rfl
 case ld1 l a=>cases l<;>first | rfl | (rcases hc with hc | ⟨_,hc⟩<;>cases hc)
 case ldA l n a=>cases l<;>first | rfl | (rcases hc with hc | ⟨_,hc⟩<;>cases hc)
theorem Dv {lk lim base:Nat}{dst:Option Nat}{op:AOp}{t:Nat}(hc:cls op= .actL t):cr lk lim base dst op env H=cr lk lim 0 dst op env H/\∀e H',cr lk lim 0 dst op env H=some (e,H')->H'=H:=by
 cases op<;>try (cases hc;done)
 case st l n a x=>
  cases l with
  | none=>cases hc
  | some t'=>
   refine⟨?_,fun e H' h=>?_⟩
   ·simp only[cr];cases cW (ev env x) with
    | none=>rfl
    | some new=>
     dsimp only;by_cases hn:new.length=n
     ·rw[if_pos hn,if_pos hn];cases ev env a<;>rfl
     ·rw[if_neg hn,if_neg hn]
   simp only[cr]at h;split at h;case h_2=>simp at h
   split at h;case isFalse=>simp at h
   split at h;case h_1=>
    split at h;case isFalse=>simp at h
    split at h;case h_2=>simp at h
    split at h;case isFalse=>simp at h
    simp only[RZ,R0]at h;exact h.2.symm
   case h_2 heq _=>simp at heq
   case h_3=>simp at h
 case ld1 l a=>cases l<;>cases hc
 case ldA l n a=>cases l<;>cases hc
theorem zK {i:AI}{r:List AI}(h:df (i::r)=true):(i.fl=true->eJ i.op env=none)/\df r=true/\(cls i.op= .env\/(∃t,cls i.op= .memL t)\/cls i.op= .memH\/(∃t,cls i.op= .actL t)\/cls i.op= .call\/(cls i.op= .actH/\i.fl=false/\gB r=true)):=by
 simp only[df,Bool.and_eq_true]at h;refine⟨fun hfl=>?_,h.2,?_⟩
 ·unfold eJ;split
  ·rename_i hop;rw[hop]at h;simp[cls,hfl]at h
  ·rename_i hop;rw[hop]at h;simp[cls,hfl]at h
  ·rename_i hop;rw[hop]at h;simp[cls,hfl]at h
  ·rfl
 have h1:=h.1;split at h1
 ·exact .inl ‹_›
 ·exact .inr (.inl ⟨_,‹_›⟩)
 ·exact .inr (.inr (.inl ‹_›))
 ·exact .inr (.inr (.inr (.inl ⟨_,‹_›⟩)))
 ·simp only[Bool.and_eq_true,Bool.not_eq_true']at h1;exact .inr (.inr (.inr (.inr (.inr ⟨‹_›,h1⟩))))
 ·exact .inr (.inr (.inr (.inr (.inl ‹_›))))
 ·cases h1
theorem qj {lk lim base:Nat}:∀{l:List AI} {env:Env} {H:Heap},df l=true->pC lk lim base l env H=[]
 | [],_,_,_=>rfl
 | i::r,env,H,h=>by
  obtain⟨h1,h2,_⟩:=zK (env:=env) h;simp only[pC];split
  ·rename_i e' H' _;rw[qj h2];simp only[List.append_nil];split
   ·split
    ·rename_i hfl;rw[h1 hfl];rfl
    ·rfl
   ·rfl
  ·rfl
theorem l9:∀{l:List AI},gB l=true->l.any isCall=false
 | [],_=>rfl
 | i::r,h=>by
  simp only[gB,Bool.and_eq_true]at h;rw[List.any_cons,l9 h.2,Bool.or_false];have h1:=h.1;rw[rR];split at h1;case h_5=>rename_i hc;rw[hc,h1];rfl
  case h_6=>rename_i hc;rw[hc];cases i.fl<;>rfl
  all_goals first | (cases h1;done) | skip
  all_goals (rename_i hc;rw[hc];rfl)
theorem Hq {lk lim base:Nat}{l:List AI}{env:Env}{H:Heap}(h:df l=true)(b:Nat):je lk lim base l env H b=false:=by
 unfold je;split
 ·rw[qj h];rfl
 ·rfl
theorem vQ {i:AI}(h:cls i.op= .call):isFree i=i.fl:=by
 unfold isFree;rw[h];cases i.fl<;>rfl
theorem lm {i:AI}(h:cls i.op≠.call):isFree i=false:=by
 unfold isFree;have:(cls i.op==Cls.call)=false:=by simpa using h
 rw[this,Bool.and_false]
theorem dm {ws:WS}(hws:∀b,ws b=false){base:Nat}:∀{l:List AI} {k:Kt} {env:Env} {H:Heap},df l=true->(gB l=true\/H.length=base)->WRD S l k env H->Inv S.B env->∃e h,cX S.C S.lk S.lim ws base l env H=some (e,h)/\k e h/\Inv S.B e
 | [],_,env,H,_,_,h,hi=>⟨env,H,rfl,h,hi⟩
 | i::r,k,env,H,hd,hs,h,hi=>by
  rw[qg]at h;obtain⟨hw,hd2,hcl⟩:=zK (env:=env) hd;have hok:(isRow i=true->b9 i.op env=none)->okT ws i env=true:=fun hrow=>by
   unfold okT;rw[Bool.and_eq_true,Bool.and_eq_true];refine⟨⟨?_,?_⟩,?_⟩
   ·split
    ·rename_i hb;cases hfl:i.fl with
     | true=>rw[hw hfl]at hb;cases hb
     | false=>rfl
    ·rfl
   ·split
    ·rw[hws];rfl
    ·rfl
   ·cases hr:isRow i with
    | false=>rfl
    | true=>rw[hrow hr];rfl
  have hs2:gB r=true\/H.length=base:=by
   rcases hs with hs | hs
   ·simp only[gB,Bool.and_eq_true]at hs;exact .inl hs.2
   ·exact .inr hs
  unfold WGD at h;simp only[cX,dq];split at h
  ·rename_i hg;have hok:=hok fun hr=>by
    unfold isRow at hr;simp only[Bool.and_eq_true,beq_iff_eq]at hr;unfold WID at h;rw[hr.2]at h;simp only[hr.1,if_true]at h;exact h.1
   simp only[hg,hok,if_true];have rest:(∀t,cls i.op≠.actL t)->cls i.op≠.actH->cls i.op≠.call->(cls i.op= .memH->i.fl=true->b9 i.op env=none)->(match aw i.op env H with
     | some v=>(eo v=false\/k5 i.op=true)/\dr S.B i.dst v env H (WRD S r k)
     | none=>False)->∃e h,(match if isFree i=true then lL S.C S.lk S.lim i.dst i.op env H else fG S.C S.lk S.lim base (if r.any isCall=true then base else 0) i.dst i.op i.at_ env H with
      | some (env',H')=>cX S.C S.lk S.lim ws base r env' H'
      | none=>none)=some (e,h)/\k e h/\Inv S.B e:=by
    intro hc1 hc3 hc2 hmr h;rw[lm hc2,if_neg (by simp)]
    split at h
    ·rename_i v hv;obtain⟨h1,h2⟩:=h;obtain⟨e,p1,p2,p3⟩:=bP h2 hi;have hrd:aw i.op env (H.take base)=some v:=by
      rcases hs with hs | hs
      ·simp only[gB,Bool.and_eq_true]at hs;have hs1:=hs.1;rw[<-hv];split at hs1
       ·exact vP (.inl ‹_›) _ _ _
       ·exact vP (.inr ⟨_,‹_›⟩) _ _ _
       ·exact(hc1 _ ‹_›).elim
       ·exact(hc3 ‹_›).elim
       ·exact(hc2 ‹_›).elim
       ·rename_i hm;have hn:=hmr hm hs1;exact tG (fun b hb=>by rw[hn]at hb;cases hb) hm
       ·cases hs1
      ·rw[<-hs,List.take_length];exact hv
     unfold fG;rcases hcl with hc | ⟨t,hc⟩ | hc | ⟨t,hc⟩ | hc | hc
     ·rw[hc];simp only[hrd];rw[if_pos h1];simp only[p1];exact dm hws hd2 hs2 p2 p3
     ·rw[hc];simp only[hrd];rw[if_pos h1];simp only[p1];exact dm hws hd2 hs2 p2 p3
     ·rw[hc];simp only[hrd];rw[if_pos h1];simp only[p1];exact dm hws hd2 hs2 p2 p3
     ·exact(hc1 _ hc).elim
     ·exact(hc2 hc).elim
     ·exact(hc3 hc.1).elim
    ·exact h.elim
   unfold WID at h;split at h;case h_1 t hc=>
    rw[lm (by rw[hc];simp),if_neg (by simp)]
    unfold jc at h;split at h
    ·rename_i e h' he;have hl:=Dv (lk:=S.lk) (lim:=S.lim) (base:=if r.any isCall=true then base else 0) (dst:=i.dst) (env:=env) (H:=H) hc;have hH:=hl.2 _ _ he;subst hH;unfold fG;rw[hc];simp only[hl.1,he];exact dm hws hd2 hs2 h (l8 hi he)
    ·exact h.elim
   case h_2 hc=>
    obtain⟨hfl,hst⟩:i.fl=false/\gB r=true:=by
     rcases hcl with h | ⟨t,h⟩ | h | ⟨t,h⟩ | h | h
     ·rw[hc]at h;cases h
     ·rw[hc]at h;cases h
     ·rw[hc]at h;cases h
     ·rw[hc]at h;cases h
     ·rw[hc]at h;cases h
     ·exact h.2
    rw[lm (by rw[hc];simp),if_neg (by simp),l9 hst]
    unfold jc at h;split at h
    ·rename_i e h' he;unfold fG;rw[hc];simp only[Bool.false_eq_true,if_false,he];exact dm hws hd2 (.inl hst) h (l8 hi he)
    ·exact h.elim
   case h_3 hc=>
    rw[vQ hc];split at h
    ·rename_i hfl;rw[if_pos hfl];split at h
     ·rename_i g l hl;obtain⟨ha,h⟩:=h;split at h
      ·rename_i v H' hC;obtain⟨h1,h2,h3⟩:=h;obtain⟨e,p1,p2,p3⟩:=bP h3 hi;unfold lL;simp only[hl,ha,if_true,hC,h1,p1];refine dm hws hd2 ?_ p2 p3;rcases h2 with h2 | h2
       ·exact .inl h2
       ·rcases hs2 with hs2 | hs2
        ·exact .inl hs2
        ·exact .inr (h2.trans hs2)
      ·exact h.elim
     ·exact h.elim
    ·rename_i hfl;rw[if_neg hfl];have hHb:H.length=base:=by
      rcases hs with hs | hs
      ·simp only[gB,hc,Bool.and_eq_true]at hs;exact absurd hs.1 hfl
      ·exact hs
     split at h
     ·rename_i g l hl;obtain⟨ha,hb,h⟩:=h;split at h
      ·rename_i v H' hC;obtain⟨h1,rfl,h3⟩:=h;obtain⟨e,p1,p2,p3⟩:=bP h3 hi;unfold fG;rw[hc];subst hHb;simp only[hl];rw[if_pos ⟨ha,hb⟩];simp only[List.take_length,hC];rw[if_pos ⟨.inl (Nat.le_refl _),h1⟩];simp only[p1,List.drop_length,List.append_nil];exact dm hws hd2 hs2 p2 p3
      ·exact h.elim
     ·exact h.elim
   case h_4 hc=>
    refine rest (fun t e=>by rw[hc]at e;cases e) (fun e=>by rw[hc]at e;cases e) (fun e=>by rw[hc]at e;cases e) (fun _ hfl=>by rw[if_pos hfl]at h;exact h.1) ?_
    split at h
    ·exact h.2
    ·exact h
   case h_5 hc1 hc3 hc2 hc4=>
    exact rest hc1 hc3 hc2 (fun hm _=>absurd hm (by assumption)) h
  ·rename_i hg;obtain⟨e,h1,h2,h3⟩:=bP h hi;simp only[hg,h1];exact dm hws hd2 hs2 h2 h3
  ·exact h.elim

theorem vR {B:List Nat}:∀{ps:List Nat} {x:List Value} {env e:Env},ja ps x env=some e->Inv B env->Inv B e
 | [],[],_,_,h,hi=>by simp only[ja,RZ]at h;subst h;exact hi
 | p::ps,v::vs,env,e,h,hi=>by
  simp only[ja]at h;exact vR h (fM hi rfl)
 | [],_::_,_,_,h,_=>by simp[ja]at h
 | _::_,[],_,_,h,_=>by simp[ja]at h
theorem Hr {B:List Nat}{t lim:Nat}{H:Heap}{v:AV}(h:vOk B t v=true):vOk B t (kG lim H v)=true:=by
 by_cases hb:∃cs,v= .box cs
 ·obtain⟨cs,rfl⟩:=hb;unfold kG;dsimp only;split
  ·split
   ·exact h
   ·rfl
  ·rfl
 ·rw[tN (fun cs h=>hb ⟨cs,h⟩)];split
  ·split
   ·rename_i v' _ hb;have h3:=p8 hb;generalize oJ v'=u at h3;cases u<;>first | rfl | (simp[Hm.below]at h3)
   ·rfl
  ·rfl
theorem zO {B:List Nat}{lim:Nat}{H:Heap}:∀{env:Env},Inv B env->Inv B (oM lim H env)
 | [],_=>fun p h=>by cases h
 | (t,v)::r,hi=>fun p h=>by
  rcases List.mem_cons.1 h with rfl | h
  ·exact Hr (hi (t,v) (List.mem_cons_self ..))
  ·exact zO (fun q hq=>hi q (List.mem_cons_of_mem _ hq)) p h
theorem dA:∀{c:AC} {Q:Ex->Kt} {env:Env} {H:Heap},WB S c Q env H->Inv S.B env->∃x e h,aU S.C S.lk S.lim c env H=some (x,e,h)/\Q x e h/\Inv S.B e
 | .skip,_,_,_,h,hi=>⟨_,_,_,rfl,h,hi⟩
 | .frz,_,_,_,h,hi=>⟨_,_,_,by simp only[aU,AZ,if_pos (show S.lk<=S.lim/\S.lim<=_ from ⟨h.1,h.2.1⟩)],h.2.2,zO hi⟩
 | .exit _,_,_,_,h,hi=>⟨_,_,_,rfl,h,hi⟩
 | .ret,_,_,_,h,hi=>⟨_,_,_,rfl,h,hi⟩
 | .bad,_,_,_,h,_=>h.elim
 | .regN keep ops,Q,env,H,h,hi=>by
  rw[ae]at h;obtain⟨e,h',h1,h2,h3⟩:=qi h (fi hi);exact⟨.nrm,e,h',by simp only[aU,h1],h2,h3⟩
 | .regD keep m ops,Q,env,H,h,hi=>by
  simp only[WB]at h;split at h
  ·rename_i hc;obtain⟨rfl,hc⟩:=hc;obtain⟨e,h',h1,h2,h3⟩:=dm (Hq (lk:=S.lk) (lim:=S.lim) (base:=H.length) (env:=ab keep env) (H:=H) hc) (base:=H.length) hc (.inr rfl) h (fi hi);refine⟨.nrm,e,h',?_,h2,h3⟩;simp only[aU,List.replicate_zero,List.append_nil];rw[h1]
  ·obtain⟨e,h',h1,h2,h3⟩:=h;exact⟨.nrm,e,h',by simp only[aU,h1],h3,h2⟩
 | .seq a b,Q,env,H,h,hi=>by
  rw[ai]at h;obtain⟨x,e,h',h1,h2,h3⟩:=dA h hi;cases x with
  | nrm=>
   obtain⟨x',e',h'',k1,k2,k3⟩:=dA (c:=b) h2 h3;exact⟨x',e',h'',by simp only[aU,h1];exact k1,k2,k3⟩
  | exit id=>exact⟨_,_,_,by simp only[aU,h1],h2,h3⟩
  | ret=>exact⟨_,_,_,by simp only[aU,h1],h2,h3⟩
 | .cond c a b,Q,env,H,h,hi=>by
  simp only[WB]at h;split at h
  ·rename_i hc;obtain⟨x,e,h',h1,h2,h3⟩:=dA h hi;exact⟨x,e,h',by simp only[aU,hc,if_true];exact h1,h2,h3⟩
  ·rename_i hc;obtain⟨x,e,h',h1,h2,h3⟩:=dA h hi;exact⟨x,e,h',by simp only[aU,hc];exact h1,h2,h3⟩
  ·exact h.elim
 | .block id b,Q,env,H,h,hi=>by
  rw[ap]at h;obtain⟨x,e,h',h1,h2,h3⟩:=dA h hi;cases x with
  | nrm=>exact⟨_,_,_,by simp only[aU,h1],h2,h3⟩
  | ret=>exact⟨_,_,_,by simp only[aU,h1],h2,h3⟩
  | exit id'=>
   rw[aG]at h2;by_cases hid:id'=id
   ·rw[if_pos hid]at h2;exact⟨.nrm,e,h',by simp only[aU,h1];rw[if_pos hid],h2,h3⟩
   ·rw[if_neg hid]at h2;exact⟨.exit id',e,h',by simp only[aU,h1];rw[if_neg hid],h2,h3⟩
 | .loop keep b,Q,env,H,h,hi=>by
  obtain⟨n,h⟩:=h;simp only[aU];induction n generalizing env H with
  | zero=>exact h.elim
  | succ n ih=>
   simp only[itB]at h;obtain⟨x,e,h',h1,h2,h3⟩:=dA h (fi hi);rw[Dj];simp only[h1];cases x with
   | nrm=>exact ih e h' h3 h2
   | exit id=>exact⟨_,_,_,rfl,h2,h3⟩
   | ret=>exact⟨_,_,_,rfl,h2,h3⟩
 | .rangeF keep it g ps asg body,Q,env,H,h,hi=>by
  obtain⟨l,hl,h⟩:=h;simp only[aU,hl];have hi0:=fi (keep:=keep) hi;have key:∀(l:List (List Value)) (H:Heap),rgB (WB S asg) (WB S body) ps Q (ab keep env) l H->∃x e h,cm (fun e H=>aU S.C S.lk S.lim asg e H) (fun e H=>aU S.C S.lk S.lim body e H) ps (ab keep env) l H=some (x,e,h)/\Q x e h/\Inv S.B e:=by
   intro l;induction l with
   | nil=>intro H h;exact⟨_,_,_,rfl,h,hi0⟩
   | cons x l ih=>
    intro H h;simp only[rgB]at h;split at h;case h_2=>exact h.elim
    rename_i e1 hp;obtain⟨x1,e2,H2,h1,h2,h3⟩:=dA (c:=asg) h (vR hp hi0);cases x1 with
    | exit id=>exact h2.elim
    | ret=>exact h2.elim
    | nrm=>
     obtain⟨hb,h2⟩:=h2;obtain⟨x2,e3,H3,k1,k2,k3⟩:=dA (c:=body) h2 h3;have hr:eU (fun e H=>aU S.C S.lk S.lim asg e H) (fun e H=>aU S.C S.lk S.lim body e H) ps (ab keep env) x H=some (x2,e3,H3):=by
      simp only[eU,hp,h1,hb,if_true,k1]
     cases x2 with
     | nrm=>
      obtain⟨x4,e4,H4,g1,g2,g3⟩:=ih H3 k2;exact⟨x4,e4,H4,by simp only[cm,hr];exact g1,g2,g3⟩
     | exit id=>exact⟨.exit id,_,H3,by simp only[cm,hr],k2,hi0⟩
     | ret=>exact⟨.ret,_,H3,by simp only[cm,hr],k2,hi0⟩
  exact key l H h

theorem nt {B:List Nat}:∀{args:List AV} {k:Nat},args.all a7=true->Inv B (aP k args)
 | [],_,_=>fun _ h=>by simp[aP]at h
 | v::r,k,h=>by
  simp only[List.all_cons,Bool.and_eq_true]at h;refine fM (nt h.2) ?_;have:=h.1;cases v<;>first | rfl | (simp[a7,Hm.one]at this)

def Fin (fd:AFn)(H:Heap)(r:AV×Heap):Ex->Kt:=fun x e h=>cB fd H (some (x,e,h))=some r

variable {X:Orc}{A:FuncId->Option AFn}
theorem Hs {f:FuncId}{lk lim:Nat}{args:List AV}{fd:AFn}{r:AV×Heap}(B:List Nat)(hX:X lk lim f args H=none)(hA:A f=some fd)(hl:args.length=fd.np)(ha:args.all a7=true)
  (h:WB ⟨aj X A,lk,if fd.trunc then H.length else lim,B⟩ fd.body (Fin fd H r) (aP 0 args) H):aj X A lk lim f args H=some r:=by
 obtain⟨x,e,h1,h2,h3,_⟩:=dA h (nt ha);rw[vH hX hA hl,h2];exact h3
end
end Go.Hm

