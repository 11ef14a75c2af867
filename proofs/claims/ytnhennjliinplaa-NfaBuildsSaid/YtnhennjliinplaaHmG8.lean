/- The machine HM, part 8. -/
import Derived.Test.YtnhennjliinplaaHmG7
set_option linter.all false
namespace Go.Hm
open Go
def runDK (C:Orc)(lk lim:Nat)(ws:WS)(base:Nat):List AI→Env→Heap→Option (Env×Heap):=runD C lk lim ws base
theorem runDK_eq (C:Orc)(lk lim:Nat)(ws:WS)(base:Nat)(l:List AI)(env:Env)(H:Heap):runDK C lk lim ws base l env H=runD C lk lim ws base l env H:=rfl
end Go.Hm

namespace Go.Hm
open Go

def memB:List Nat→Nat→Bool
 | [],_=>false
 | b::r,d=>if b=d then true else memB r d

def vOk (B:List Nat)(d:Nat):AV→Bool
 | .rp t _=>memB B t
 | .box _=>memB B d
 | _=>true
def Inv (B:List Nat)(env:Env):Prop:=∀p∈env,vOk B p.1 p.2=true

abbrev Kt:=Env→Heap→Prop

structure Cx where
 C:Orc
 lk:Nat
 lim:Nat
 B:List Nat

def WPush (B:List Nat)(dst:Option Nat)(v:AV)(env:Env)(H:Heap)(k:Kt):Prop:=match dst with
 | none=>k env H
 | some d=>vOk B d v=true∧(memB B d=true→noRp d env=true)∧k ((d,v)::env) H
def WPure (B:List Nat)(r:Option AV)(dst:Option Nat)(env:Env)(H:Heap)(k:Kt):Prop:=match r with
 | some v=>WPush B dst v env H k
 | none=>False
def WAct (r:Option (Env×Heap))(k:Kt):Prop:=match r with
 | some (e,h)=>k e h
 | none=>False
def WMake (B:List Nat)(r:Option (AV×HB))(dst:Option Nat)(env:Env)(H:Heap)(k:Kt):Prop:=match r with
 | some (v,x)=>WPush B dst v env (H++[x]) k
 | none=>False
def WCall (B:List Nat)(r:Option (AV×Heap))(dst:Option Nat)(env:Env)(k:Kt):Prop:=match r with
 | some (v,H')=>WPush B dst v env H' k
 | none=>False
def WCl (S:Cx)(r:Option (FuncId×List AV))(dst:Option Nat)(env:Env)(H:Heap)(k:Kt):Prop:=match r with
 | some (g,l)=>l.all argOk=true∧WCall S.B (S.C S.lk S.lim g l H) dst env k
 | none=>False

def WI (S:Cx)(op:AOp)(dst:Option Nat)(env:Env)(H:Heap)(k:Kt):Prop:=match cls op with
 | .actL _ | .actH=>WAct (exOp S.lk S.lim 0 dst op env H) k
 | .make=>WMake S.B (mkOp op env H.length) dst env H k
 | .call=>WCl S (clArgs op env) dst env H k
 | _=>WPure S.B (rdOp op env H) dst env H k
def WG (S:Cx)(g:Option Bool)(op:AOp)(dst:Option Nat)(env:Env)(H:Heap)(k:Kt):Prop:=match g with
 | some true=>WI S op dst env H k
 | some false=>WPush S.B dst .und env H k
 | none=>False
def WR (S:Cx):List AI→Kt→Kt
 | [],k,env,H=>k env H
 | i::r,k,env,H=>WG S (guardI i env) i.op i.dst env H (WR S r k)

def still:List AI→Bool
 | []=>true
 | i::r=>(match cls i.op with
  | .env | .memL _ | .actL _ | .actH=>true
  | .call | .memH=>i.fl
  | _=>false)&&still r
def drawEasy:List AI→Bool
 | []=>true
 | i::r=>(match cls i.op with
  | .env | .memL _=>!i.fl
  | .memH=>true
  | .actL _=>!i.fl
  | .actH=>!i.fl&&still r
  | .call=>true
  | _=>false)&&drawEasy r

def WID (S:Cx)(fl st:Bool)(op:AOp)(dst:Option Nat)(env:Env)(H:Heap)(k:Kt):Prop:=match cls op with
 | .actL _ | .actH=>WAct (exOp S.lk S.lim 0 dst op env H) k
 | .call=>if fl=true then (match clArgs op env with
   | some (g,l)=>l.all argOk=true∧(match S.C S.lk S.lim g l H with
    | some (v,H')=>isRp v=false∧(st=true∨H'.length=H.length)∧WPush S.B dst v env H' k
    | none=>False)
   | none=>False)
  else (match clArgs op env with
   | some (g,l)=>l.all argOk=true∧belowL H.length l=true∧(match S.C H.length S.lim g l H with
    | some (v,H')=>isRp v=false∧(H'=H∨(st=true∧H'.take H.length=H))∧WPush S.B dst v env H' k
    | none=>False)
   | none=>False)
 | .memH=>if fl=true then rdTgt op env=none∧(match rdOp op env H with
   | some v=>(isRp v=false∨rpOp op=true)∧WPush S.B dst v env H k
   | none=>False)
  else (match rdOp op env H with
   | some v=>(isRp v=false∨rpOp op=true)∧WPush S.B dst v env H k
   | none=>False)
 | _=>match rdOp op env H with
  | some v=>(isRp v=false∨rpOp op=true)∧WPush S.B dst v env H k
  | none=>False
def WGD (S:Cx)(g:Option Bool)(st:Bool)(i:AI)(env:Env)(H:Heap)(k:Kt):Prop:=match g with
 | some true=>WID S i.fl st i.op i.dst env H k
 | some false=>WPush S.B i.dst .und env H k
 | none=>False
def WRD (S:Cx):List AI→Kt→Kt
 | [],k,env,H=>k env H
 | i::r,k,env,H=>WGD S (guardI i env) (still r) i env H (WRD S r k)

def WD (S:Cx)(m:Nat)(ops:List AI)(k:Kt):Kt:=fun env H=>∃e h,runD S.C S.lk S.lim (wsSel S.lk S.lim H.length ops env (H++List.replicate m .hole)) H.length ops env (H++List.replicate m .hole)=some (e,h)∧Inv S.B e∧k e h

def itB (f:(Ex→Kt)→Kt)(keep:List Nat)(Q:Ex→Kt):Nat→Kt
 | 0=>fun _ _=>False
 | n+1=>fun e H=>f (fun x e h=>match x with
  | .nrm=>itB f keep Q n e h
  | .exit id=>Q (.exit id) e h
  | .ret=>Q .ret e h) (restrict keep e) H

def rgB (f g:(Ex→Kt)→Kt)(ps:List Nat)(Q:Ex→Kt)(env:Env):List (List Value)→Heap→Prop
 | [],H=>Q .nrm env H
 | x::r,H=>match putP ps x env with
  | some e=>f (fun x1 e1 h1=>match x1 with
   | .nrm=>noBx e1=true∧g (fun x2 _ h2=>match x2 with
    | .nrm=>rgB f g ps Q env r h2
    | .exit id=>Q (.exit id) env h2
    | .ret=>Q .ret env h2) e1 h1
   | _=>False) e H
  | none=>False

def rmB (f:(Ex→Kt)→Kt)(keep:List Nat)(tE:Nat)(env:Env)(b n L:Nat)(k:Heap→Prop):List (AV×AV)→Heap→Prop
 | [],H=>k H
 | (key,v)::r,H=>f (fun x e h=>match x with
   | .nrm=>restrict keep e=env∧okM h b n L=true∧rmB f keep tE env b n L k r h
   | _=>False) ((tE,.tup [key,v])::env) H

def WB (S:Cx):AC→(Ex→Kt)→Kt
 | .skip,Q=>Q .nrm
 | .frz,Q=>fun e H=>S.lk≤S.lim∧S.lim≤H.length∧Q .nrm (frzE S.lim H e) (cutH S.lim H)
 | .regN keep ops,Q=>fun e H=>WR S ops (Q .nrm) (restrict keep e) H
 | .regD keep m ops,Q=>fun e H=>if m=0∧drawEasy ops=true then WRD S ops (Q .nrm) (restrict keep e) H else WD S m ops (Q .nrm) (restrict keep e) H
 | .seq a b,Q=>WB S a (fun x e h=>match x with
  | .nrm=>WB S b Q e h
  | .exit id=>Q (.exit id) e h
  | .ret=>Q .ret e h)
 | .cond c a b,Q=>fun e H=>match ev e c with
  | .val (.bool true)=>WB S a Q e H
  | .val (.bool false)=>WB S b Q e H
  | _=>False
 | .block id b,Q=>WB S b (fun x e h=>match x with
  | .exit id'=>if id'=id then Q .nrm e h else Q (.exit id') e h
  | .nrm=>Q .nrm e h
  | .ret=>Q .ret e h)
 | .loop keep b,Q=>fun e H=>∃n,itB (WB S b) keep Q n e H
 | .rangeM keep pre x tI tE body,Q=>fun e H=>∃b es,rangeOf (pre S.lk S.lim) (ev e x) (restrict keep e) H=some (b,es)∧rmB (WB S body) (tI::keep) tE ((tI,.hp H.length 0 0)::restrict keep e) b es.length H.length (fun h=>Q .nrm (restrict keep e) h) es (H++[.cells []])
 | .rangeF keep it g ps asg body,Q=>fun e H=>∃l,itemsOf it g ps (restrict keep e) H=some l∧rgB (WB S asg) (WB S body) ps Q (restrict keep e) l H
 | .exit id,Q=>Q (.exit id)
 | .ret,Q=>Q .ret
 | .bad,_=>fun _ _=>False

def Fol (S:Cx)(b:AC)(Q:Ex→Kt):Ex→Kt:=fun x e h=>match x with
  | .nrm=>WB S b Q e h
  | .exit id=>Q (.exit id) e h
  | .ret=>Q .ret e h
def BlkE (id:Nat)(Q:Ex→Kt):Ex→Kt:=fun x e h=>match x with
  | .exit id'=>if id'=id then Q .nrm e h else Q (.exit id') e h
  | .nrm=>Q .nrm e h
  | .ret=>Q .ret e h
def Rnd {σ:Type}(keep:List Nat)(E:σ→Env)(G:σ→Heap)(inv:σ→Prop)(μ:σ→Nat)(s:σ)(Q:Ex→Kt):Ex→Kt:=fun x e h=>match x with
  | .nrm=>∃s',inv s'∧μ s'<μ s∧restrict keep e=E s'∧h=G s'
  | .exit id=>Q (.exit id) e h
  | .ret=>Q .ret e h

section
variable {S:Cx}{Q:Ex→Kt}{env:Env}{H:Heap}{k:Kt}
theorem wb_skip:WB S .skip Q env H=Q .nrm env H:=rfl
theorem wb_exit {id:Nat}:WB S (.exit id) Q env H=Q (.exit id) env H:=rfl
theorem wb_ret:WB S .ret Q env H=Q .ret env H:=rfl
theorem wb_seq {a b:AC}:WB S (.seq a b) Q env H=WB S a (Fol S b Q) env H:=rfl
theorem wb_block {id:Nat}{b:AC}:WB S (.block id b) Q env H=WB S b (BlkE id Q) env H:=rfl
theorem wb_regN {keep:List Nat}{ops:List AI}:WB S (.regN keep ops) Q env H=WR S ops (Q .nrm) (restrict keep env) H:=rfl
theorem wb_regD {keep:List Nat}{ops:List AI}(h:drawEasy ops=true):WB S (.regD keep 0 ops) Q env H=WRD S ops (Q .nrm) (restrict keep env) H:=by
 show (if _ then _ else _)=_
 rw[if_pos ⟨rfl,h⟩]
theorem wb_true {c:AO}{a b:AC}(h:ev env c= .val (.bool true)):WB S (.cond c a b) Q env H=WB S a Q env H:=by
 show (match ev env c with | .val (.bool true)=>_ | .val (.bool false)=>_ | _=>_)=_
 rw[h]
theorem wb_false {c:AO}{a b:AC}(h:ev env c= .val (.bool false)):WB S (.cond c a b) Q env H=WB S b Q env H:=by
 show (match ev env c with | .val (.bool true)=>_ | .val (.bool false)=>_ | _=>_)=_
 rw[h]
theorem fol_nrm {b:AC}:Fol S b Q .nrm env H=WB S b Q env H:=rfl
theorem fol_exit {b:AC}{id:Nat}:Fol S b Q (.exit id) env H=Q (.exit id) env H:=rfl
theorem fol_ret {b:AC}:Fol S b Q .ret env H=Q .ret env H:=rfl
theorem blk_nrm {id:Nat}:BlkE id Q .nrm env H=Q .nrm env H:=rfl
theorem blk_ret {id:Nat}:BlkE id Q .ret env H=Q .ret env H:=rfl
theorem blk_exit {id id':Nat}:BlkE id Q (.exit id') env H=if id'=id then Q .nrm env H else Q (.exit id') env H:=rfl
theorem wr_nil:WR S [] k env H=k env H:=rfl
theorem wr_cons {i:AI}{r:List AI}:WR S (i::r) k env H=WG S (guardI i env) i.op i.dst env H (WR S r k):=rfl
theorem wrd_nil:WRD S [] k env H=k env H:=rfl
theorem wrd_cons {i:AI}{r:List AI}:WRD S (i::r) k env H=WGD S (guardI i env) (still r) i env H (WRD S r k):=rfl

theorem push_mono {B:List Nat}{dst:Option Nat}{v:AV}{k':Kt}(h:WPush B dst v env H k)(hk:∀e h,k e h→k' e h):WPush B dst v env H k':=by
 unfold WPush at *
 split at h
 ·exact hk _ _ h
 ·exact⟨h.1,h.2.1,hk _ _ h.2.2⟩
theorem wi_mono {op:AOp}{dst:Option Nat}{k':Kt}(h:WI S op dst env H k)(hk:∀e h,k e h→k' e h):WI S op dst env H k':=by
 unfold WI at *
 split
 case h_1 | h_2=>
  rename_i hc;rw[hc]at h
  unfold WAct at *
  simp only at h
  split at h
  ·exact hk _ _ h
  ·exact h
 case h_3=>
  rename_i hc;rw[hc]at h
  unfold WMake at *
  simp only at h
  split at h
  ·exact push_mono h hk
  ·exact h
 case h_4=>
  rename_i hc;rw[hc]at h
  unfold WCl WCall at *
  simp only at h
  split at h
  ·refine⟨h.1,?_⟩
   have h2:=h.2
   split at h2
   ·exact push_mono h2 hk
   ·exact h2
  ·exact h
 case h_5=>
  rename_i hc1 hc2 hc3 hc4
  split at h
  ·exact(hc1 _ ‹_›).elim
  ·exact(hc2 ‹_›).elim
  ·exact(hc3 ‹_›).elim
  ·exact(hc4 ‹_›).elim
  unfold WPure at *
  split at h
  ·exact push_mono h hk
  ·exact h
theorem wr_mono:∀{l:List AI} {k k':Kt} {env:Env} {H:Heap},WR S l k env H→(∀e h,k e h→k' e h)→WR S l k' env H
 | [],_,_,_,_,h,hk=>hk _ _ h
 | i::r,k,k',env,H,h,hk=>by
  rw[wr_cons]at *
  unfold WG at *
  split at h
  ·exact wi_mono h fun _ _ h=>wr_mono h hk
  ·exact push_mono h fun _ _ h=>wr_mono h hk
  ·exact h
theorem wid_mono {op:AOp}{fl st:Bool}{dst:Option Nat}{k':Kt}(h:WID S fl st op dst env H k)(hk:∀e h,k e h→k' e h):WID S fl st op dst env H k':=by
 unfold WID at *
 split
 case h_1 | h_2=>
  rename_i hc;rw[hc]at h
  unfold WAct at *
  simp only at h
  split at h
  ·exact hk _ _ h
  ·exact h
 case h_3=>
  rename_i hc;rw[hc]at h
  simp only at h
  split at h
  ·rename_i hfl
   rw[if_pos hfl]
   split at h
   ·refine⟨h.1,?_⟩
    have h2:=h.2
    split at h2
    ·exact⟨h2.1,h2.2.1,push_mono h2.2.2 hk⟩
    ·exact h2
   ·exact h
  ·rename_i hfl
   rw[if_neg hfl]
   split at h
   ·refine⟨h.1,h.2.1,?_⟩
    have h2:=h.2.2
    split at h2
    ·exact⟨h2.1,h2.2.1,push_mono h2.2.2 hk⟩
    ·exact h2
   ·exact h
 case h_4=>
  rename_i hc;rw[hc]at h
  simp only at h
  split at h
  ·rename_i hfl
   rw[if_pos hfl]
   refine⟨h.1,?_⟩
   have h2:=h.2
   split at h2
   ·exact⟨h2.1,push_mono h2.2 hk⟩
   ·exact h2
  ·rename_i hfl
   rw[if_neg hfl]
   split at h
   ·exact⟨h.1,push_mono h.2 hk⟩
   ·exact h
 case h_5=>
  rename_i hc1 hc2 hc3 hc4
  split at h
  ·exact(hc1 _ ‹_›).elim
  ·exact(hc2 ‹_›).elim
  ·exact(hc3 ‹_›).elim
  ·exact(hc4 ‹_›).elim
  split at h
  ·exact⟨h.1,push_mono h.2 hk⟩
  ·exact h
theorem wrd_mono:∀{l:List AI} {k k':Kt} {env:Env} {H:Heap},WRD S l k env H→(∀e h,k e h→k' e h)→WRD S l k' env H
 | [],_,_,_,_,h,hk=>hk _ _ h
 | i::r,k,k',env,H,h,hk=>by
  rw[wrd_cons]at *
  unfold WGD at *
  split at h
  ·exact wid_mono h fun _ _ h=>wrd_mono h hk
  ·exact push_mono h fun _ _ h=>wrd_mono h hk
  ·exact h
theorem itB_mono {f:(Ex→Kt)→Kt}(hf:∀(Q Q':Ex→Kt) (e:Env) (H:Heap),f Q e H→(∀x e h,Q x e h→Q' x e h)→f Q' e H){keep:List Nat}{Q Q':Ex→Kt}(hk:∀x e h,Q x e h→Q' x e h):∀{n:Nat} {e:Env} {H:Heap},itB f keep Q n e H→itB f keep Q' n e H
 | 0,_,_,h=>h
 | n+1,e,H,h=>by
  simp only[itB]at *
  refine hf _ _ _ _ h fun x e h hh=>?_
  cases x with
  | nrm=>exact itB_mono hf hk (n:=n) hh
  | exit id=>exact hk _ _ _ hh
  | ret=>exact hk _ _ _ hh
theorem rmB_mono {f:(Ex→Kt)→Kt}(hf:∀(Q Q':Ex→Kt) e h,f Q e h→(∀x e h,Q x e h→Q' x e h)→f Q' e h){keep:List Nat}{tE:Nat}{env:Env}{b n L:Nat}{k k':Heap→Prop}(hk:∀{h},k h→k' h):∀{l:List (AV×AV)} {H:Heap},rmB f keep tE env b n L k l H→rmB f keep tE env b n L k' l H
 | [],_,h=>hk h
 | (key,v)::r,H,h=>by
  simp only[rmB]at h ⊢
  refine hf _ _ _ _ h fun x e h hh=>?_
  cases x with
  | exit id=>exact hh
  | ret=>exact hh
  | nrm=>exact⟨hh.1,hh.2.1,rmB_mono hf hk hh.2.2⟩
theorem rgB_mono {f g:(Ex→Kt)→Kt}(hf:∀Q Q' e h,f Q e h→(∀x e h,Q x e h→Q' x e h)→f Q' e h)(hg:∀Q Q' e h,g Q e h→(∀x e h,Q x e h→Q' x e h)→g Q' e h){ps:List Nat}{Q Q':Ex→Kt}{env:Env}(hk:∀x e h,Q x e h→Q' x e h):∀{l:List (List Value)} {H:Heap},rgB f g ps Q env l H→rgB f g ps Q' env l H
 | [],_,h=>hk _ _ _ h
 | x::l,H,h=>by
  simp only[rgB]at h ⊢
  split at h
  ·refine hf _ _ _ _ h fun x1 e1 h1 hh=>?_
   cases x1 with
   | nrm=>
    refine⟨hh.1,hg _ _ _ _ hh.2 fun x2 e2 h2 hh=>?_⟩
    cases x2 with
    | nrm=>exact rgB_mono hf hg hk hh
    | exit id=>exact hk _ _ _ hh
    | ret=>exact hk _ _ _ hh
   | exit id=>exact hh
   | ret=>exact hh
  ·exact h
theorem wb_mono:∀{c:AC} {Q Q':Ex→Kt} {env:Env} {H:Heap},WB S c Q env H→(∀x e h,Q x e h→Q' x e h)→WB S c Q' env H
 | .skip,_,_,_,_,h,hk=>hk _ _ _ h
 | .frz,_,_,_,_,h,hk=>⟨h.1,h.2.1,hk _ _ _ h.2.2⟩
 | .exit _,_,_,_,_,h,hk=>hk _ _ _ h
 | .ret,_,_,_,_,h,hk=>hk _ _ _ h
 | .bad,_,_,_,_,h,_=>h
 | .regN keep ops,Q,Q',env,H,h,hk=>by
  rw[wb_regN]at *
  exact wr_mono h fun _ _ h=>hk _ _ _ h
 | .regD keep m ops,Q,Q',env,H,h,hk=>by
  simp only[WB]at *
  split at h
  ·rename_i hc
   rw[if_pos hc]
   exact wrd_mono h fun _ _ h=>hk _ _ _ h
  ·rename_i hc
   rw[if_neg hc]
   obtain⟨e,h1,h2,h3,h4⟩:=h
   exact⟨e,h1,h2,h3,hk _ _ _ h4⟩
 | .seq a b,Q,Q',env,H,h,hk=>by
  rw[wb_seq]at *
  refine wb_mono h fun x e h hh=>?_
  cases x with
  | nrm=>exact wb_mono (c:=b) hh hk
  | exit id=>exact hk _ _ _ hh
  | ret=>exact hk _ _ _ hh
 | .cond c a b,Q,Q',env,H,h,hk=>by
  simp only[WB]at *
  split at h
  ·exact wb_mono h hk
  ·exact wb_mono h hk
  ·exact h
 | .block id b,Q,Q',env,H,h,hk=>by
  rw[wb_block]at *
  refine wb_mono h fun x e h hh=>?_
  cases x with
  | nrm=>exact hk _ _ _ hh
  | ret=>exact hk _ _ _ hh
  | exit id'=>
   rw[blk_exit]at hh ⊢
   by_cases hid:id'=id
   ·rw[if_pos hid]at hh ⊢;exact hk _ _ _ hh
   ·rw[if_neg hid]at hh ⊢;exact hk _ _ _ hh
 | .loop keep b,Q,Q',env,H,h,hk=>by
  simp only[WB]at *
  obtain⟨n,h⟩:=h
  exact⟨n,itB_mono (f:=WB S b) (fun _ _ _ _ h hk=>wb_mono h hk) hk h⟩
 | .rangeM keep pre x tI tE body,Q,Q',env,H,h,hk=>by
  simp only[WB]at *
  obtain⟨b,es,h1,h2⟩:=h
  exact⟨b,es,h1,rmB_mono (f:=WB S body) (fun _ _ _ _ h hk=>wb_mono h hk) (fun h=>hk .nrm _ _ h) h2⟩
 | .rangeF keep it g ps asg body,Q,Q',env,H,h,hk=>by
  simp only[WB]at *
  obtain⟨l,h1,h2⟩:=h
  exact⟨l,h1,rgB_mono (f:=WB S asg) (g:=WB S body) (fun _ _ _ _ h hk=>wb_mono h hk) (fun _ _ _ _ h hk=>wb_mono h hk) hk h2⟩

def RmE (keep:List Nat)(env:Env)(b n L:Nat)(k:Heap→Prop):Ex→Kt:=fun x e h=>match x with
  | .nrm=>restrict keep e=env∧okM h b n L=true∧k h
  | _=>False
theorem wb_rangeM {keep:List Nat}{pre:Nat→Nat→Nat→List (AV×AV)→Env→Heap→Bool}{x:AO}{tI tE:Nat}{body:AC}(b:Nat)(es:List (AV×AV))(env0:Env)(he:restrict keep env=env0)(hx:rangeOf (pre S.lk S.lim) (ev env x) env0 H=some (b,es))(G:Nat→Heap→Prop)
  (h0:G 0 (H++[.cells []])) (hround:∀i k v h,es[i]?=some (k,v)→G i h→WB S body (RmE (tI::keep) ((tI,.hp H.length 0 0)::env0) b es.length H.length (G (i+1))) ((tE,.tup [k,v])::(tI,.hp H.length 0 0)::env0) h)
  (hend:∀h,G es.length h→Q .nrm env0 h):WB S (.rangeM keep pre x tI tE body) Q env H:=by
 subst he
 refine⟨b,es,hx,?_⟩
 have key:∀(r:List (AV×AV)) (i:Nat) (h:Heap),es.drop i=r→i≤es.length→G i h→rmB (WB S body) (tI::keep) tE ((tI,.hp H.length 0 0)::restrict keep env) b es.length H.length (fun h=>Q .nrm (restrict keep env) h) r h:=by
  intro r
  induction r with
  | nil=>
   intro i h hd hi hG
   have:i=es.length:=by
    have:=congrArg List.length hd
    simp at this;omega
   subst this
   exact hend _ hG
  | cons p r ih=>
   intro i h hd hi hG
   obtain⟨k,v⟩:=p
   have hx:es[i]?=some (k,v):=by
    have:=congrArg (·[0]?) hd
    simpa using this
   have hlt:=(List.getElem?_eq_some_iff.1 hx).1
   simp only[rmB]
   refine wb_mono (hround i k v h hx hG) fun x1 e1 h1 hh=>?_
   cases x1 with
   | exit id=>exact hh
   | ret=>exact hh
   | nrm=>
    refine⟨hh.1,hh.2.1,ih (i+1) h1 ?_ (by omega) hh.2.2⟩
    have:=congrArg List.tail hd
    simpa[List.tail_drop] using this
 exact key es 0 _ rfl (Nat.zero_le _) h0

theorem wb_loop {σ:Type}{keep:List Nat}{b:AC}(E:σ→Env)(G:σ→Heap)(inv:σ→Prop)(μ:σ→Nat)
  (hround:∀s,inv s→WB S b (Rnd keep E G inv μ s Q) (E s) (G s)) (s:σ) (hs:inv s) (he:restrict keep env=E s) (hH:H=G s):WB S (.loop keep b) Q env H:=by
 show ∃n,itB (WB S b) keep Q n env H
 have key:∀(n:Nat) (s:σ) (env:Env) (H:Heap),μ s<n→inv s→restrict keep env=E s→H=G s→itB (WB S b) keep Q n env H:=by
  intro n
  induction n with
  | zero=>intro s env H h;omega
  | succ n ih=>
   intro s env H hn hs he hH
   subst hH
   simp only[itB,he]
   refine wb_mono (hround s hs) fun x e h hh=>?_
   cases x with
   | nrm=>
    obtain⟨s',k1,k2,k3,k4⟩:=hh
    exact ih s' e h (by omega) k1 k3 k4
   | exit id=>exact hh
   | ret=>exact hh
 exact⟨μ s+1,key _ s env H (by omega) hs he hH⟩

theorem find_ok {B:List Nat}:∀{env:Env} {t:Nat},Inv B env→vOk B t (find env t)=true
 | [],_,_=>rfl
 | (t',v)::r,t,h=>by
  simp only[find]
  split
  ·rename_i ht;subst ht;exact h (t',v) (List.mem_cons_self ..)
  ·exact find_ok fun p hp=>h p (List.mem_cons_of_mem _ hp)
theorem inv_restrict {B keep:List Nat}{env:Env}(h:Inv B env):Inv B (restrict keep env):=by
 intro p hp
 simp only[restrict,List.mem_map]at hp
 obtain⟨t,_,rfl⟩:=hp
 exact find_ok h
theorem inv_cons {B:List Nat}{env:Env}{d:Nat}{v:AV}(h:Inv B env)(hv:vOk B d v=true):Inv B ((d,v)::env):=by
 intro p hp
 rcases List.mem_cons.1 hp with rfl | hp
 ·exact hv
 ·exact h p hp
theorem noRp_of {B:List Nat}{d:Nat}(hd:memB B d=false):∀{env:Env},Inv B env→noRp d env=true
 | [],_=>rfl
 | (t',v)::r,h=>by
  have ih:=noRp_of hd (env:=r) fun p hp=>h p (List.mem_cons_of_mem _ hp)
  have hv:=h (t',v) (List.mem_cons_self ..)
  cases v<;>simp only[noRp]<;>try exact ih
  rename_i t o
  simp only[vOk]at hv
  split
  ·rename_i he;subst he;rw[hd]at hv;cases hv
  ·exact ih
theorem push_sound {B:List Nat}{dst:Option Nat}{v:AV}(h:WPush B dst v env H k)(hi:Inv B env):∃e,put dst v env=some e∧k e H∧Inv B e:=by
 unfold WPush at h
 split at h
 ·exact⟨env,rfl,h,hi⟩
 ·rename_i d
  obtain⟨h1,h2,h3⟩:=h
  refine⟨(d,v)::env,?_,h3,inv_cons hi h1⟩
  have:noRp d env=true:=by
   cases hm:memB B d with
   | true=>exact h2 hm
   | false=>exact noRp_of hm hi
  simp only[put,this,if_true]
theorem setAt_inv {B:List Nat}{t:Nat}{cs:List AV}(ht:memB B t=true):∀{env:Env},Inv B env→Inv B (setAt env t (.box cs))
 | [],_=>fun _ h=>by simp[setAt]at h
 | (t',v)::r,h=>by
  simp only[setAt]
  split
  ·exact inv_cons (fun p hp=>h p (List.mem_cons_of_mem _ hp)) ht
  ·exact inv_cons (setAt_inv ht fun p hp=>h p (List.mem_cons_of_mem _ hp)) (h _ (List.mem_cons_self ..))
theorem put_inv {B:List Nat}{dst:Option Nat}{v:AV}{e:Env}(hv:∀d,vOk B d v=true)(hi:Inv B env)(h:put dst v env=some e):Inv B e:=by
 cases dst with
 | none=>simp only[put,Option.some.injEq]at h;subst h;exact hi
 | some d=>
  simp only[put]at h
  split at h
  ·simp only[Option.some.injEq]at h;subst h;exact inv_cons hi (hv d)
  ·simp at h
theorem exOp_inv {B:List Nat}{lk lim base:Nat}{dst:Option Nat}{op:AOp}{e:Env}{H':Heap}(hi:Inv B env)(h:exOp lk lim base dst op env H=some (e,H')):Inv B e:=by
 unfold exOp at h
 split at h
 case h_1 l n a x=>
  split at h
  case h_2=>simp at h
  split at h
  case isFalse=>simp at h
  split at h
  case h_1=>
   split at h
   case isFalse=>simp at h
   split at h
   case h_2=>simp at h
   rename_i cs hf
   split at h
   case isFalse=>simp at h
   simp only[Option.some.injEq,Prod.mk.injEq]at h
   obtain⟨rfl,_⟩:=h
   have hh:∀t cs,find env t= .box cs→memB B t=true:=fun t cs ht=>by
    have:=find_ok (B:=B) (t:=t) hi
    rw[ht]at this
    exact this
   exact setAt_inv (hh _ _ hf) hi
  case h_2=>
   split at h
   case h_2=>simp at h
   split at h
   case isFalse=>simp at h
   split at h
   case h_2=>simp at h
   simp only[Option.some.injEq,Prod.mk.injEq]at h
   obtain⟨rfl,_⟩:=h
   exact hi
  case h_3=>simp at h
 case h_2 es bytes x y=>
  split at h
  case h_2=>simp at h
  split at h
  case isFalse=>simp at h
  split at h
  case h_1=>
   split at h
   ·split at h
    case h_2=>simp at h
    rename_i hp
    simp only[Option.some.injEq,Prod.mk.injEq]at h
    obtain⟨rfl,_⟩:=h
    exact put_inv (fun _=>rfl) hi hp
   split at h
   case isFalse=>simp at h
   split at h
   case h_2=>simp at h
   rename_i hp
   simp only[Option.some.injEq,Prod.mk.injEq]at h
   obtain⟨rfl,_⟩:=h
   exact put_inv (fun _=>rfl) hi hp
  case h_2=>
   split at h
   case h_2=>simp at h
   split at h
   case isFalse=>simp at h
   split at h
   case h_2=>simp at h
   split at h
   case h_2=>simp at h
   rename_i hp
   simp only[Option.some.injEq,Prod.mk.injEq]at h
   obtain⟨rfl,_⟩:=h
   exact put_inv (fun _=>rfl) hi hp
  case h_3=>simp at h
 case h_3=>
  split at h
  case h_2=>simp at h
  split at h
  case h_2=>simp at h
  split at h
  case isFalse=>simp at h
  split at h
  case h_2=>simp at h
  simp only[Option.some.injEq,Prod.mk.injEq]at h
  obtain⟨rfl,_⟩:=h
  exact hi
 case h_4=>simp at h
theorem wi_sound {op:AOp}{dst:Option Nat}(h:WI S op dst env H k)(hi:Inv S.B env):∃e h,actOp S.C S.lk S.lim dst op env H=some (e,h)∧k e h∧Inv S.B e:=by
 unfold WI at h
 unfold actOp
 split at h
 case h_1 | h_2=>
  rename_i hc;rw[hc]
  unfold WAct at h
  split at h
  ·rename_i e h' he
   exact⟨e,h',he,h,exOp_inv hi he⟩
  ·exact h.elim
 case h_3=>
  rename_i hc;rw[hc]
  unfold WMake at h
  split at h
  ·rename_i v x hm
   obtain⟨e,h1,h2,h3⟩:=push_sound h hi
   exact⟨e,_,by simp only[hm,h1],h2,h3⟩
  ·exact h.elim
 case h_4=>
  rename_i hc;rw[hc]
  unfold WCl WCall at h
  split at h
  ·rename_i g l hl
   obtain⟨ha,h⟩:=h
   split at h
   ·rename_i v H' hC
    obtain⟨e,h1,h2,h3⟩:=push_sound h hi
    exact⟨e,_,by simp only[hl,ha,if_true,hC,h1],h2,h3⟩
   ·exact h.elim
  ·exact h.elim
 case h_5=>
  rename_i hc1 hc2 hc3 hc4
  unfold WPure at h
  split at h
  ·rename_i v hv
   obtain⟨e,h1,h2,h3⟩:=push_sound h hi
   refine⟨e,_,?_,h2,h3⟩
   split
   ·exact(hc1 _ ‹_›).elim
   ·exact(hc2 ‹_›).elim
   ·exact(hc3 ‹_›).elim
   ·exact(hc4 ‹_›).elim
   ·simp only[hv,h1]
  ·exact h.elim
theorem wr_sound:∀{l:List AI} {k:Kt} {env:Env} {H:Heap},WR S l k env H→Inv S.B env→∃e h,runOps S.C S.lk S.lim l env H=some (e,h)∧k e h∧Inv S.B e
 | [],_,env,H,h,hi=>⟨env,H,rfl,h,hi⟩
 | i::r,k,env,H,h,hi=>by
  rw[wr_cons]at h
  unfold WG at h
  simp only[runOps,stepI]
  split at h
  ·rename_i hg
   obtain⟨e,h',h1,h2,h3⟩:=wi_sound h hi
   simp only[hg,h1]
   exact wr_sound h2 h3
  ·rename_i hg
   obtain⟨e,h1,h2,h3⟩:=push_sound h hi
   simp only[hg,h1]
   exact wr_sound h2 h3
  ·exact h.elim

theorem rdOp_env {op:AOp}(hc:cls op= .env∨∃t,cls op= .memL t)(env:Env)(H H':Heap):rdOp op env H=rdOp op env H':=by
 cases op<;>first | rfl | skip
 all_goals first | (rcases hc with hc | ⟨_,hc⟩<;>cases hc;done) | skip
 case len b a=>cases b<;>rfl
 case ld1 l a=>cases l<;>first | rfl | (rcases hc with hc | ⟨_,hc⟩<;>cases hc)
 case ldA l n a=>cases l<;>first | rfl | (rcases hc with hc | ⟨_,hc⟩<;>cases hc)
theorem exOp_loc {lk lim base:Nat}{dst:Option Nat}{op:AOp}{t:Nat}(hc:cls op= .actL t):exOp lk lim base dst op env H=exOp lk lim 0 dst op env H∧∀e H',exOp lk lim 0 dst op env H=some (e,H')→H'=H:=by
 cases op<;>try (cases hc;done)
 case st l n a x=>
  cases l with
  | none=>cases hc
  | some t'=>
   refine⟨?_,fun e H' h=>?_⟩
   ·simp only[exOp]
    cases cellsV (ev env x) with
    | none=>rfl
    | some new=>
     dsimp only
     by_cases hn:new.length=n
     ·rw[if_pos hn,if_pos hn]
      cases ev env a<;>rfl
     ·rw[if_neg hn,if_neg hn]
   simp only[exOp]at h
   split at h
   case h_2=>simp at h
   split at h
   case isFalse=>simp at h
   split at h
   case h_1=>
    split at h
    case isFalse=>simp at h
    split at h
    case h_2=>simp at h
    split at h
    case isFalse=>simp at h
    simp only[Option.some.injEq,Prod.mk.injEq]at h
    exact h.2.symm
   case h_2 heq _=>simp at heq
   case h_3=>simp at h
 case ld1 l a=>cases l<;>cases hc
 case ldA l n a=>cases l<;>cases hc
theorem easy_wr {i:AI}{r:List AI}(h:drawEasy (i::r)=true):(i.fl=true→wrTgt i.op env=none)∧drawEasy r=true∧(cls i.op= .env∨(∃t,cls i.op= .memL t)∨cls i.op= .memH∨(∃t,cls i.op= .actL t)∨cls i.op= .call∨(cls i.op= .actH∧i.fl=false∧still r=true)):=by
 simp only[drawEasy,Bool.and_eq_true]at h
 refine⟨fun hfl=>?_,h.2,?_⟩
 ·unfold wrTgt
  split
  ·rename_i hop;rw[hop]at h;simp[cls,hfl]at h
  ·rename_i hop;rw[hop]at h;simp[cls,hfl]at h
  ·rename_i hop;rw[hop]at h;simp[cls,hfl]at h
  ·rfl
 have h1:=h.1
 split at h1
 ·exact .inl ‹_›
 ·exact .inr (.inl ⟨_,‹_›⟩)
 ·exact .inr (.inr (.inl ‹_›))
 ·exact .inr (.inr (.inr (.inl ⟨_,‹_›⟩)))
 ·simp only[Bool.and_eq_true,Bool.not_eq_true']at h1
  exact .inr (.inr (.inr (.inr (.inr ⟨‹_›,h1⟩))))
 ·exact .inr (.inr (.inr (.inr (.inl ‹_›))))
 ·cases h1
theorem collW_easy {lk lim base:Nat}:∀{l:List AI} {env:Env} {H:Heap},drawEasy l=true→collW lk lim base l env H=[]
 | [],_,_,_=>rfl
 | i::r,env,H,h=>by
  obtain⟨h1,h2,_⟩:=easy_wr (env:=env) h
  simp only[collW]
  split
  ·rename_i e' H' _
   rw[collW_easy h2]
   simp only[List.append_nil]
   split
   ·split
    ·rename_i hfl
     rw[h1 hfl];rfl
    ·rfl
   ·rfl
  ·rfl
theorem still_nocall:∀{l:List AI},still l=true→l.any isCall=false
 | [],_=>rfl
 | i::r,h=>by
  simp only[still,Bool.and_eq_true]at h
  rw[List.any_cons,still_nocall h.2,Bool.or_false]
  have h1:=h.1
  rw[isCall_eq]
  split at h1
  case h_5=>rename_i hc;rw[hc,h1];rfl
  case h_6=>rename_i hc;rw[hc];cases i.fl<;>rfl
  all_goals first | (cases h1;done) | skip
  all_goals (rename_i hc;rw[hc];rfl)
theorem ws_easy {lk lim base:Nat}{l:List AI}{env:Env}{H:Heap}(h:drawEasy l=true)(b:Nat):wsSel lk lim base l env H b=false:=by
 unfold wsSel
 split
 ·rw[collW_easy h];rfl
 ·rfl
theorem isFree_call {i:AI}(h:cls i.op= .call):isFree i=i.fl:=by
 unfold isFree;rw[h];cases i.fl<;>rfl
theorem isFree_not {i:AI}(h:cls i.op≠.call):isFree i=false:=by
 unfold isFree
 have:(cls i.op==Cls.call)=false:=by simpa using h
 rw[this,Bool.and_false]
theorem wrd_sound {ws:WS}(hws:∀b,ws b=false){base:Nat}:∀{l:List AI} {k:Kt} {env:Env} {H:Heap},drawEasy l=true→(still l=true∨H.length=base)→WRD S l k env H→Inv S.B env→∃e h,runD S.C S.lk S.lim ws base l env H=some (e,h)∧k e h∧Inv S.B e
 | [],_,env,H,_,_,h,hi=>⟨env,H,rfl,h,hi⟩
 | i::r,k,env,H,hd,hs,h,hi=>by
  rw[wrd_cons]at h
  obtain⟨hw,hd2,hcl⟩:=easy_wr (env:=env) hd
  have hok:(isRow i=true→rdTgt i.op env=none)→okT ws i env=true:=fun hrow=>by
   unfold okT
   rw[Bool.and_eq_true,Bool.and_eq_true]
   refine⟨⟨?_,?_⟩,?_⟩
   ·split
    ·rename_i hb
     cases hfl:i.fl with
     | true=>rw[hw hfl]at hb;cases hb
     | false=>rfl
    ·rfl
   ·split
    ·rw[hws];rfl
    ·rfl
   ·cases hr:isRow i with
    | false=>rfl
    | true=>rw[hrow hr];rfl
  have hs2:still r=true∨H.length=base:=by
   rcases hs with hs | hs
   ·simp only[still,Bool.and_eq_true]at hs;exact .inl hs.2
   ·exact .inr hs
  unfold WGD at h
  simp only[runD,stepD]
  split at h
  ·rename_i hg
   have hok:=hok fun hr=>by
    unfold isRow at hr
    simp only[Bool.and_eq_true,beq_iff_eq]at hr
    unfold WID at h
    rw[hr.2]at h
    simp only[hr.1,if_true]at h
    exact h.1
   simp only[hg,hok,if_true]
   have rest:(∀t,cls i.op≠.actL t)→cls i.op≠.actH→cls i.op≠.call→(cls i.op= .memH→i.fl=true→rdTgt i.op env=none)→(match rdOp i.op env H with
     | some v=>(isRp v=false∨rpOp i.op=true)∧WPush S.B i.dst v env H (WRD S r k)
     | none=>False)→∃e h,(match if isFree i=true then actF S.C S.lk S.lim i.dst i.op env H else actD S.C S.lk S.lim base (if r.any isCall=true then base else 0) i.dst i.op i.at_ env H with
      | some (env',H')=>runD S.C S.lk S.lim ws base r env' H'
      | none=>none)=some (e,h)∧k e h∧Inv S.B e:=by
    intro hc1 hc3 hc2 hmr h
    rw[isFree_not hc2,if_neg (by simp)]
    split at h
    ·rename_i v hv
     obtain⟨h1,h2⟩:=h
     obtain⟨e,p1,p2,p3⟩:=push_sound h2 hi
     have hrd:rdOp i.op env (H.take base)=some v:=by
      rcases hs with hs | hs
      ·simp only[still,Bool.and_eq_true]at hs
       have hs1:=hs.1
       rw[←hv]
       split at hs1
       ·exact rdOp_env (.inl ‹_›) _ _ _
       ·exact rdOp_env (.inr ⟨_,‹_›⟩) _ _ _
       ·exact(hc1 _ ‹_›).elim
       ·exact(hc3 ‹_›).elim
       ·exact(hc2 ‹_›).elim
       ·rename_i hm
        have hn:=hmr hm hs1
        exact rd_memH (fun b hb=>by rw[hn]at hb;cases hb) hm
       ·cases hs1
      ·rw[←hs,List.take_length];exact hv
     unfold actD
     rcases hcl with hc | ⟨t,hc⟩ | hc | ⟨t,hc⟩ | hc | hc
     ·rw[hc];simp only[hrd];rw[if_pos h1];simp only[p1];exact wrd_sound hws hd2 hs2 p2 p3
     ·rw[hc];simp only[hrd];rw[if_pos h1];simp only[p1];exact wrd_sound hws hd2 hs2 p2 p3
     ·rw[hc];simp only[hrd];rw[if_pos h1];simp only[p1];exact wrd_sound hws hd2 hs2 p2 p3
     ·exact(hc1 _ hc).elim
     ·exact(hc2 hc).elim
     ·exact(hc3 hc.1).elim
    ·exact h.elim
   unfold WID at h
   split at h
   case h_1 t hc=>
    rw[isFree_not (by rw[hc];simp),if_neg (by simp)]
    unfold WAct at h
    split at h
    ·rename_i e h' he
     have hl:=exOp_loc (lk:=S.lk) (lim:=S.lim) (base:=if r.any isCall=true then base else 0) (dst:=i.dst) (env:=env) (H:=H) hc
     have hH:=hl.2 _ _ he
     subst hH
     unfold actD
     rw[hc]
     simp only[hl.1,he]
     exact wrd_sound hws hd2 hs2 h (exOp_inv hi he)
    ·exact h.elim
   case h_2 hc=>
    obtain⟨hfl,hst⟩:i.fl=false∧still r=true:=by
     rcases hcl with h | ⟨t,h⟩ | h | ⟨t,h⟩ | h | h
     ·rw[hc]at h;cases h
     ·rw[hc]at h;cases h
     ·rw[hc]at h;cases h
     ·rw[hc]at h;cases h
     ·rw[hc]at h;cases h
     ·exact h.2
    rw[isFree_not (by rw[hc];simp),if_neg (by simp),still_nocall hst]
    unfold WAct at h
    split at h
    ·rename_i e h' he
     unfold actD
     rw[hc]
     simp only[Bool.false_eq_true,if_false,he]
     exact wrd_sound hws hd2 (.inl hst) h (exOp_inv hi he)
    ·exact h.elim
   case h_3 hc=>
    rw[isFree_call hc]
    split at h
    ·rename_i hfl
     rw[if_pos hfl]
     split at h
     ·rename_i g l hl
      obtain⟨ha,h⟩:=h
      split at h
      ·rename_i v H' hC
       obtain⟨h1,h2,h3⟩:=h
       obtain⟨e,p1,p2,p3⟩:=push_sound h3 hi
       unfold actF
       simp only[hl,ha,if_true,hC,h1,p1]
       refine wrd_sound hws hd2 ?_ p2 p3
       rcases h2 with h2 | h2
       ·exact .inl h2
       ·rcases hs2 with hs2 | hs2
        ·exact .inl hs2
        ·exact .inr (h2.trans hs2)
      ·exact h.elim
     ·exact h.elim
    ·rename_i hfl
     rw[if_neg hfl]
     have hHb:H.length=base:=by
      rcases hs with hs | hs
      ·simp only[still,hc,Bool.and_eq_true]at hs;exact absurd hs.1 hfl
      ·exact hs
     split at h
     ·rename_i g l hl
      obtain⟨ha,hb,h⟩:=h
      split at h
      ·rename_i v H' hC
       obtain⟨h1,h2,h3⟩:=h
       obtain⟨e,p1,p2,p3⟩:=push_sound h3 hi
       unfold actD
       rw[hc]
       subst hHb
       simp only[hl]
       rw[if_pos ⟨ha,hb⟩]
       simp only[List.take_length,hC]
       rw[if_pos ⟨.inr trivial,h1⟩]
       have e1:H++H'.drop H.length=H':=by
        rcases h2 with rfl | ⟨_,h2⟩
        ·simp
        ·have:=List.take_append_drop H.length H'
         rwa [h2]at this
       simp only[p1,e1]
       refine wrd_sound hws hd2 ?_ p2 p3
       rcases h2 with rfl | ⟨h2,_⟩
       ·exact hs2
       ·exact .inl h2
      ·exact h.elim
     ·exact h.elim
   case h_4 hc=>
    refine rest (fun t e=>by rw[hc]at e;cases e) (fun e=>by rw[hc]at e;cases e) (fun e=>by rw[hc]at e;cases e) (fun _ hfl=>by rw[if_pos hfl]at h;exact h.1) ?_
    split at h
    ·exact h.2
    ·exact h
   case h_5 hc1 hc3 hc2 hc4=>
    exact rest hc1 hc3 hc2 (fun hm _=>absurd hm (by assumption)) h
  ·rename_i hg
   obtain⟨e,h1,h2,h3⟩:=push_sound h hi
   simp only[hg,h1]
   exact wrd_sound hws hd2 hs2 h2 h3
  ·exact h.elim

theorem putP_inv {B:List Nat}:∀{ps:List Nat} {x:List Value} {env e:Env},putP ps x env=some e→Inv B env→Inv B e
 | [],[],_,_,h,hi=>by simp only[putP,Option.some.injEq]at h;subst h;exact hi
 | p::ps,v::vs,env,e,h,hi=>by
  simp only[putP]at h
  exact putP_inv h (inv_cons hi rfl)
 | [],_::_,_,_,h,_=>by simp[putP]at h
 | _::_,[],_,_,h,_=>by simp[putP]at h
theorem frzV_ok {B:List Nat}{t lim:Nat}{H:Heap}{v:AV}(h:vOk B t v=true):vOk B t (frzV lim H v)=true:=by
 by_cases hb:∃cs,v= .box cs
 ·obtain⟨cs,rfl⟩:=hb
  unfold frzV
  dsimp only
  split
  ·split
   ·exact h
   ·rfl
  ·rfl
 ·rw[frzV_ne (fun cs h=>hb ⟨cs,h⟩)]
  split
  ·split
   ·rename_i v' _ hb
    have h3:=zroT_bel hb
    generalize zroT v'=u at h3
    cases u<;>first | rfl | (simp[Hm.below]at h3)
   ·rfl
  ·rfl
theorem inv_frz {B:List Nat}{lim:Nat}{H:Heap}:∀{env:Env},Inv B env→Inv B (frzE lim H env)
 | [],_=>fun p h=>by cases h
 | (t,v)::r,hi=>fun p h=>by
  rcases List.mem_cons.1 h with rfl | h
  ·exact frzV_ok (hi (t,v) (List.mem_cons_self ..))
  ·exact inv_frz (fun q hq=>hi q (List.mem_cons_of_mem _ hq)) p h
theorem wb_sound:∀{c:AC} {Q:Ex→Kt} {env:Env} {H:Heap},WB S c Q env H→Inv S.B env→∃x e h,execW S.C S.lk S.lim c env H=some (x,e,h)∧Q x e h∧Inv S.B e
 | .skip,_,_,_,h,hi=>⟨_,_,_,rfl,h,hi⟩
 | .frz,_,_,_,h,hi=>⟨_,_,_,by simp only[execW,frzC,if_pos (show S.lk≤S.lim∧S.lim≤_ from ⟨h.1,h.2.1⟩)],h.2.2,inv_frz hi⟩
 | .exit _,_,_,_,h,hi=>⟨_,_,_,rfl,h,hi⟩
 | .ret,_,_,_,h,hi=>⟨_,_,_,rfl,h,hi⟩
 | .bad,_,_,_,h,_=>h.elim
 | .regN keep ops,Q,env,H,h,hi=>by
  rw[wb_regN]at h
  obtain⟨e,h',h1,h2,h3⟩:=wr_sound h (inv_restrict hi)
  exact⟨.nrm,e,h',by simp only[execW,h1],h2,h3⟩
 | .regD keep m ops,Q,env,H,h,hi=>by
  simp only[WB]at h
  split at h
  ·rename_i hc
   obtain⟨rfl,hc⟩:=hc
   obtain⟨e,h',h1,h2,h3⟩:=wrd_sound (ws_easy (lk:=S.lk) (lim:=S.lim) (base:=H.length) (env:=restrict keep env) (H:=H) hc) (base:=H.length) hc (.inr rfl) h (inv_restrict hi)
   refine⟨.nrm,e,h',?_,h2,h3⟩
   simp only[execW,List.replicate_zero,List.append_nil]
   rw[h1]
  ·obtain⟨e,h',h1,h2,h3⟩:=h
   exact⟨.nrm,e,h',by simp only[execW,h1],h3,h2⟩
 | .seq a b,Q,env,H,h,hi=>by
  rw[wb_seq]at h
  obtain⟨x,e,h',h1,h2,h3⟩:=wb_sound h hi
  cases x with
  | nrm=>
   obtain⟨x',e',h'',k1,k2,k3⟩:=wb_sound (c:=b) h2 h3
   exact⟨x',e',h'',by simp only[execW,h1];exact k1,k2,k3⟩
  | exit id=>exact⟨_,_,_,by simp only[execW,h1],h2,h3⟩
  | ret=>exact⟨_,_,_,by simp only[execW,h1],h2,h3⟩
 | .cond c a b,Q,env,H,h,hi=>by
  simp only[WB]at h
  split at h
  ·rename_i hc
   obtain⟨x,e,h',h1,h2,h3⟩:=wb_sound h hi
   exact⟨x,e,h',by simp only[execW,hc,if_true];exact h1,h2,h3⟩
  ·rename_i hc
   obtain⟨x,e,h',h1,h2,h3⟩:=wb_sound h hi
   exact⟨x,e,h',by simp only[execW,hc];exact h1,h2,h3⟩
  ·exact h.elim
 | .block id b,Q,env,H,h,hi=>by
  rw[wb_block]at h
  obtain⟨x,e,h',h1,h2,h3⟩:=wb_sound h hi
  cases x with
  | nrm=>exact⟨_,_,_,by simp only[execW,h1],h2,h3⟩
  | ret=>exact⟨_,_,_,by simp only[execW,h1],h2,h3⟩
  | exit id'=>
   rw[blk_exit]at h2
   by_cases hid:id'=id
   ·rw[if_pos hid]at h2
    exact⟨.nrm,e,h',by simp only[execW,h1];rw[if_pos hid],h2,h3⟩
   ·rw[if_neg hid]at h2
    exact⟨.exit id',e,h',by simp only[execW,h1];rw[if_neg hid],h2,h3⟩
 | .loop keep b,Q,env,H,h,hi=>by
  obtain⟨n,h⟩:=h
  simp only[execW]
  induction n generalizing env H with
  | zero=>exact h.elim
  | succ n ih=>
   simp only[itB]at h
   obtain⟨x,e,h',h1,h2,h3⟩:=wb_sound h (inv_restrict hi)
   rw[iterW_eq]
   simp only[h1]
   cases x with
   | nrm=>exact ih e h' h3 h2
   | exit id=>exact⟨_,_,_,rfl,h2,h3⟩
   | ret=>exact⟨_,_,_,rfl,h2,h3⟩
 | .rangeM keep pre x tI tE body,Q,env,H,h,hi=>by
  obtain⟨b,es,hx,h⟩:=h
  simp only[execW,hx]
  have hi0:=inv_restrict (keep:=keep) hi
  have key:∀(l:List (AV×AV)) {e0:Env} {L:Nat} {H:Heap},Inv S.B e0→rmB (WB S body) (tI::keep) tE e0 b es.length L (fun h=>Q .nrm (restrict keep env) h) l H→∃h,roundsM (fun e H=>execW S.C S.lk S.lim body e H) (tI::keep) tE e0 b es.length L l H=some h∧Q .nrm (restrict keep env) h:=by
   intro l
   induction l with
   | nil=>intro e0 L H _ h;exact⟨_,rfl,h⟩
   | cons p l ih=>
    intro e0 L H hi h
    obtain⟨k,v⟩:=p
    simp only[rmB]at h
    obtain⟨x1,e1,H1,h1,h2,h3⟩:=wb_sound (c:=body) h (inv_cons hi rfl)
    cases x1 with
    | exit id=>exact h2.elim
    | ret=>exact h2.elim
    | nrm=>
     obtain⟨h4,h5,h6⟩:=h2
     obtain⟨h,g1,g2⟩:=ih hi h6
     exact⟨h,by simp only[roundsM,h1,sameE_iff.2 h4,h5,and_self,if_true];exact g1,g2⟩
  obtain⟨h,g1,g2⟩:=key es (inv_cons hi0 rfl) h
  rw[g1]
  exact⟨_,_,_,rfl,g2,hi0⟩
 | .rangeF keep it g ps asg body,Q,env,H,h,hi=>by
  obtain⟨l,hl,h⟩:=h
  simp only[execW,hl]
  have hi0:=inv_restrict (keep:=keep) hi
  have key:∀(l:List (List Value)) (H:Heap),rgB (WB S asg) (WB S body) ps Q (restrict keep env) l H→∃x e h,rangeN (fun e H=>execW S.C S.lk S.lim asg e H) (fun e H=>execW S.C S.lk S.lim body e H) ps (restrict keep env) l H=some (x,e,h)∧Q x e h∧Inv S.B e:=by
   intro l
   induction l with
   | nil=>intro H h;exact⟨_,_,_,rfl,h,hi0⟩
   | cons x l ih=>
    intro H h
    simp only[rgB]at h
    split at h
    case h_2=>exact h.elim
    rename_i e1 hp
    obtain⟨x1,e2,H2,h1,h2,h3⟩:=wb_sound (c:=asg) h (putP_inv hp hi0)
    cases x1 with
    | exit id=>exact h2.elim
    | ret=>exact h2.elim
    | nrm=>
     obtain⟨hb,h2⟩:=h2
     obtain⟨x2,e3,H3,k1,k2,k3⟩:=wb_sound (c:=body) h2 h3
     have hr:round1 (fun e H=>execW S.C S.lk S.lim asg e H) (fun e H=>execW S.C S.lk S.lim body e H) ps (restrict keep env) x H=some (x2,e3,H3):=by
      simp only[round1,hp,h1,hb,if_true,k1]
     cases x2 with
     | nrm=>
      obtain⟨x4,e4,H4,g1,g2,g3⟩:=ih H3 k2
      exact⟨x4,e4,H4,by simp only[rangeN,hr];exact g1,g2,g3⟩
     | exit id=>exact⟨.exit id,_,H3,by simp only[rangeN,hr],k2,hi0⟩
     | ret=>exact⟨.ret,_,H3,by simp only[rangeN,hr],k2,hi0⟩
  exact key l H h

theorem enter_inv {B:List Nat}:∀{args:List AV} {k:Nat},args.all argOk=true→Inv B (enterFrom k args)
 | [],_,_=>fun _ h=>by simp[enterFrom]at h
 | v::r,k,h=>by
  simp only[List.all_cons,Bool.and_eq_true]at h
  refine inv_cons (enter_inv h.2) ?_
  have:=h.1
  cases v<;>first | rfl | (simp[argOk,Hm.one]at this)

def Fin (fd:AFn)(H:Heap)(r:AV×Heap):Ex→Kt:=fun x e h=>finish fd H (some (x,e,h))=some r

variable {X:Orc}{A:FuncId→Option AFn}
theorem wb_call {f:FuncId}{lk lim:Nat}{args:List AV}{fd:AFn}{r:AV×Heap}(B:List Nat)(hX:X lk lim f args H=none)(hA:A f=some fd)(hl:args.length=fd.np)(ha:args.all argOk=true)
  (h:WB ⟨callW X A,lk,if fd.trunc then H.length else lim,B⟩ fd.body (Fin fd H r) (enterFrom 0 args) H):callW X A lk lim f args H=some r:=by
 obtain⟨x,e,h1,h2,h3,_⟩:=wb_sound h (enter_inv ha)
 rw[callW_eq hX hA hl,h2]
 exact h3
end
end Go.Hm

namespace Go.Hm
open Go

section
variable {X Y:Orc}{A:FuncId→Option AFn}
end
end Go.Hm

