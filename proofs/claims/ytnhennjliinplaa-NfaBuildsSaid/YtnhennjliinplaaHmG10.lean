/- The machine HM, part 10. -/
import Derived.Test.YtnhennjliinplaaHmG9
import Derived.Test.YtnhennjliinplaaHmG7
set_option linter.all false
namespace Go.Hm
open Go
noncomputable section

def COk (C W:Orc):Prop:=∀lk lim f l H r,l.all argOk=true→C lk lim f l H=some r→W lk lim f l H=some r

def snocR (H:Heap)(x:HB):(Heap→R)→R:=List.rec (motive:=fun _=>(Heap→R)→R) (fun k=>k [x]) (fun a _ ih k=>go ih fun l=>go k (a::l)) H
theorem snocR_eq (x:HB):∀(H:Heap) (k:Heap→R),snocR H x k=k (H++[x])
 | [],_=>rfl
 | a::H,k=>snocR_eq x H fun l=>k (a::l)
def takA {α:Type}(l:List α):Nat→(List α→R)→R:=List.rec (motive:=fun _=>Nat→(List α→R)→R) (fun _ k=>k []) (fun a _ ih n k=>Nat.rec (motive:=fun _=>R) (k []) (fun m _=>go (ih m) fun l=>go k (a::l)) n) l
theorem takA_eq {α:Type}:∀(l:List α) (n:Nat) (k:List α→R),takA l n k=k (l.take n)
 | [],n,k=>by rw[List.take_nil];rfl
 | a::l,0,k=>rfl
 | a::l,n+1,k=>by
  show takA l n (fun l=>k (a::l))=_
  rw[takA_eq l n];rfl
def drpA {α:Type}(l:List α):Nat→(List α→R)→R:=List.rec (motive:=fun _=>Nat→(List α→R)→R) (fun _ k=>k []) (fun a tl ih n k=>Nat.rec (motive:=fun _=>R) (k (a::tl)) (fun m _=>go (ih m) k) n) l
theorem drpA_eq {α:Type}:∀(l:List α) (n:Nat) (k:List α→R),drpA l n k=k (l.drop n)
 | [],n,k=>by rw[List.drop_nil];rfl
 | a::l,0,k=>rfl
 | a::l,n+1,k=>by
  show drpA l n k=_
  rw[drpA_eq l n];rfl
def catA {α:Type}(l m:List α):(List α→R)→R:=List.rec (motive:=fun _=>(List α→R)→R) (fun k=>k m) (fun a _ ih k=>go ih fun l=>go k (a::l)) l
theorem catA_eq {α:Type}(m:List α):∀(l:List α) (k:List α→R),catA l m k=k (l++m)
 | [],_=>rfl
 | a::l,k=>catA_eq m l fun l=>k (a::l)
def catR {α:Type}(l m:List α)(k:List α→R):R:=List.rec (motive:=fun _=>R) (k l) (fun _ _ _=>catA l m k) m
theorem catR_eq {α:Type}(l m:List α)(k:List α→R):catR l m k=k (l++m):=by
 cases m with
 | nil=>rw[List.append_nil];rfl
 | cons a m=>exact catA_eq (a::m) l k
def leB {α:Type}(l:List α):Nat→Bool:=List.rec (motive:=fun _=>Nat→Bool) (fun _=>true) (fun _ _ ih n=>Nat.rec (motive:=fun _=>Bool) false (fun m _=>go ih m) n) l
theorem leB_true {α:Type}:∀{l:List α} {n:Nat},leB l n=true→l.length≤n
 | [],_,_=>Nat.zero_le _
 | _::_,0,h=>by cases h
 | a::l,n+1,h=>Nat.succ_le_succ (leB_true (l:=l) h)

structure LG where
 run:Env→(List AV→R)→R
def okR (v:AV):R→R:=(AV.rec (motive_1:=fun _=>R→R) (motive_2:=fun _=>Unit) (fun _ r=>r) (fun r=>r) (fun _ _ _ r=>r) (fun _ _ _ r=>r) (fun _ _=>fun _=>none) (fun _ _ _ r=>r) (fun _ _ _ _ _ r=>r) (fun _ r=>r) (fun _ _ _ r=>r) (fun _ _ r=>r) (fun _ _=>fun _=>none) (fun _ _=>fun _=>none) (fun _=>none) (fun _=>none) () (fun _ _ _ _=>())) v
theorem okR_some {v:AV}{x:R}{r:AV×Heap}(h:okR v x=some r):argOk v=true∧x=some r:=by
 cases v<;>first | (cases h;done) | exact⟨rfl,h⟩
def gArgs (l:List AO):LG:=List.rec (motive:=fun _=>LG) ⟨fun _ k=>k []⟩ (fun a _ ih=>⟨fun env k=>(gO a).run env fun v=>okR v (ih.run env fun l=>k (v::l))⟩) l
theorem gArgs_some:∀{l:List AO} {env:Env} {k:List AV→R} {r:AV×Heap},(gArgs l).run env k=some r→(l.map (ev env)).all argOk=true∧k (l.map (ev env))=some r
 | [],_,_,_,h=>⟨rfl,h⟩
 | a::l,env,k,r,h=>by
  have h:((gO a).run env fun v=>okR v ((gArgs l).run env fun l=>k (v::l)))=some r:=h
  rw[gO_eq]at h
  obtain⟨h1,h⟩:=okR_some h
  obtain⟨h2,h⟩:=gArgs_some h
  exact⟨by rw[List.map_cons,List.all_cons,h1,h2];rfl,h⟩
def alR (l:List AV):R→R:=List.rec (motive:=fun _=>R→R) (fun r=>r) (fun a _ ih r=>okR a (ih r)) l
theorem alR_some:∀{l:List AV} {x:R} {r:AV×Heap},alR l x=some r→l.all argOk=true∧x=some r
 | [],_,_,h=>⟨rfl,h⟩
 | a::l,x,r,h=>by
  obtain⟨h1,h⟩:=okR_some (show okR a (alR l x)=some r from h)
  obtain⟨h2,h⟩:=alR_some h
  exact⟨by rw[List.all_cons,h1,h2];rfl,h⟩
structure QG where
 run:Env→(FuncId→List AV→R)→R
def aFn (v:AV):(FuncId→List AV→R)→R:=(AV.rec (motive_1:=fun _=>(FuncId→List AV→R)→R) (motive_2:=fun _=>Unit) (fun _=>fun _=>none) (fun _=>none) (fun _ _ _=>fun _=>none) (fun _ _ _=>fun _=>none) (fun _ _=>fun _=>none) (fun _ _ _=>fun _=>none) (fun _ _ _ _ _=>fun _=>none) (fun _=>fun _=>none) (fun f c _ k=>k f c) (fun _ _=>fun _=>none) (fun _ _=>fun _=>none) (fun _ _=>fun _=>none) (fun _=>none) (fun _=>none) () (fun _ _ _ _=>())) v
theorem aFn_some {v:AV}{k:FuncId→List AV→R}{r:AV×Heap}(h:aFn v k=some r):∃f c,v= .fn f c∧k f c=some r:=by
 cases v<;>first | (cases h;done) | exact⟨_,_,rfl,h⟩
def gCl (op:AOp):QG:=match op with
 | .call f args=>pN f fun f=>⟨fun env k=>(gArgs args).run env fun l=>k f l⟩
 | .callv g args=>⟨fun env k=>(gO g).run env fun w=>aFn w fun f cap=>(gArgs args).run env fun l=>catR l cap fun l=>alR l (k f l)⟩
 | _=>⟨fun _ _=>none⟩
theorem gCl_some {op:AOp}{env:Env}{k:FuncId→List AV→R}{r:AV×Heap}(h:(gCl op).run env k=some r):∃f l,clArgs op env=some (f,l)∧l.all argOk=true∧k f l=some r:=by
 unfold gCl at h
 split at h
 case h_1 f args=>
  rw[pN_eq]at h
  obtain⟨h1,h⟩:=gArgs_some (show (gArgs args).run env (fun l=>k f l)=some r from h)
  exact⟨f,_,rfl,h1,h⟩
 case h_2 g args=>
  have h:((gO g).run env fun w=>aFn w fun f cap=>(gArgs args).run env fun l=>catR l cap fun l=>alR l (k f l))=some r:=h
  rw[gO_eq]at h
  obtain⟨f,c,h1,h⟩:=aFn_some h
  obtain⟨_,h⟩:=gArgs_some h
  rw[catR_eq]at h
  obtain⟨h2,h⟩:=alR_some h
  exact⟨f,_,by simp only[clArgs,h1],h2,h⟩
 case h_3=>cases h
def resR (o:R)(k:AV→Heap→R):R:=Option.rec (motive:=fun _=>R) none (fun p=>Prod.rec (motive:=fun _=>R) k p) o
theorem resR_some {o:R}{k:AV→Heap→R}{r:AV×Heap}(h:resR o k=some r):∃v H,o=some (v,H)∧k v H=some r:=by
 cases o with
 | none=>cases h
 | some p=>obtain⟨v,H⟩:=p;exact⟨v,H,rfl,h⟩

structure G where
 run:Orc→Nat→Nat→Nat→Env→Heap→(Env→Heap→R)→R
def mkN (op:AOp)(p:UG)(_:Orc)(_ _ _:Nat)(env:Env)(H:Heap)(k:Env→Heap→R):R:=
 lenR H fun b=>Option.rec (motive:=fun _=>R) none (fun q=>pV0 q.1 fun v=>pHB q.2 fun x=>snocR H x fun H'=>p.run v env H' k) (mkOp op env b)
def clN (q:QG)(p:UG)(C:Orc)(lk lim _:Nat)(env:Env)(H:Heap)(k:Env→Heap→R):R:=
 q.run env fun f l=>resR (C lk lim f l H) fun v H'=>p.run v env H' k
def puN (g:PG)(p:UG)(_:Orc)(_ _ _:Nat)(env:Env)(H:Heap)(k:Env→Heap→R):R:=g.run env H fun v=>p.run v env H k
def acN (g:AG)(_:Orc)(lk lim _:Nat)(env:Env)(H:Heap)(k:Env→Heap→R):R:=g.run lk lim Nat.zero env H k
def gON (B:List Nat)(dst:Option Nat)(op:AOp):G:=match cls op with
 | .actL _=>⟨acN (gA B dst op)⟩
 | .actH=>⟨acN (gA B dst op)⟩
 | .make=>⟨mkN op (gPush B true dst)⟩
 | .call=>⟨clN (gCl op) (gPush B true dst)⟩
 | _=>⟨puN (gP op) (gPush B true dst)⟩
theorem gON_some {B:List Nat}{dst:Option Nat}{op:AOp}{C W:Orc}{lk lim base:Nat}{env:Env}{H:Heap}{k:Env→Heap→R}{r:AV×Heap}(hC:COk C W)(hi:Inv B env)(h:(gON B dst op).run C lk lim base env H k=some r):∃e H',actOp W lk lim dst op env H=some (e,H')∧Inv B e∧k e H'=some r:=by
 unfold gON at h
 unfold actOp
 split at h
 case h_1 hc=>rw[hc];exact gA_some hi h
 case h_2 hc=>rw[hc];exact gA_some hi h
 case h_3 hc=>
  rw[hc]
  have h:(lenR H fun b=>Option.rec (motive:=fun _=>R) none (fun q=>pV0 q.1 fun v=>pHB q.2 fun x=>snocR H x fun H'=>(gPush B true dst).run v env H' k) (mkOp op env b))=some r:=h
  rw[lenR_eq]at h
  cases hm:mkOp op env H.length with
  | none=>rw[hm]at h;cases h
  | some q=>
   rw[hm]at h
   obtain⟨v,x⟩:=q
   have h:(pV0 v fun v=>pHB x fun x=>snocR H x fun H'=>(gPush B true dst).run v env H' k)=some r:=h
   rw[pV0_eq,pHB_eq,snocR_eq]at h
   obtain⟨e,h1,h2,_,h⟩:=gPush_some hi h
   exact⟨e,_,by simp only[h1],h2,h⟩
 case h_4 hc=>
  rw[hc]
  obtain⟨f,l,h1,h2,h⟩:=gCl_some (show (gCl op).run env (fun f l=>resR (C lk lim f l H) fun v H'=>(gPush B true dst).run v env H' k)=some r from h)
  obtain⟨v,H',h3,h⟩:=resR_some h
  obtain⟨e,h4,h5,_,h⟩:=gPush_some hi h
  exact⟨e,_,by simp only[h1,h2,if_true,hC _ _ _ _ _ _ h2 h3,h4],h5,h⟩
 case h_5 hc1 hc2 hc3 hc4=>
  obtain⟨v,h1,h⟩:=gP_some (show (gP op).run env H (fun v=>(gPush B true dst).run v env H k)=some r from h)
  obtain⟨e,h4,h5,_,h⟩:=gPush_some hi h
  refine⟨e,H,?_,h5,h⟩
  split
  ·exact(hc1 _ ‹_›).elim
  ·exact(hc2 ‹_›).elim
  ·exact(hc3 ‹_›).elim
  ·exact(hc4 ‹_›).elim
  ·simp only[h1,h4]
def bEq (a b:Bool):Bool:=Bool.rec (motive:=fun _=>Bool) (bNot b) b a
theorem bEq_eq (a b:Bool):bEq a b=(a==b):=by cases a<;>cases b<;>rfl
def guR (t:Nat)(want:Bool)(g:G)(p:UG)(C:Orc)(lk lim base:Nat)(env:Env)(H:Heap)(k:Env→Heap→R):R:=
 (AV.rec (motive_1:=fun _=>R) (motive_2:=fun _=>Unit) (fun v=>vBool v fun b=>Bool.rec (motive:=fun _=>R) (p.run .und env H k) (g.run C lk lim base env H k) (bEq b want)) (none) (fun _ _ _=>none) (fun _ _ _=>none) (fun _ _=>none) (fun _ _ _=>none) (fun _ _ _ _ _=>none) (fun _=>none) (fun _ _ _=>none) (fun _ _=>none) (fun _ _=>none) (fun _ _=>none) (p.run .und env H k) (none) () (fun _ _ _ _=>())) (findR env t)
def gGu (grd:Option (Nat×Bool))(g:G)(p:UG):G:=Option.rec (motive:=fun _=>G) g (fun q=>pN q.1 fun t=>pB q.2 fun w=>⟨guR t w g p⟩) grd
theorem guR_some {t:Nat}{want:Bool}{g:G}{p:UG}{C:Orc}{lk lim base:Nat}{env:Env}{H:Heap}{k:Env→Heap→R}{r:AV×Heap}(h:guR t want g p C lk lim base env H k=some r):∃b,(match find env t with
  | .val (.bool b)=>some (b==want)
  | .und=>some false
  | _=>none)=some b∧(if b=true then g.run C lk lim base env H k else p.run .und env H k)=some r:=by
 unfold guR at h
 rw[findR_eq]at h
 generalize find env t=w at h
 cases w<;>first | (cases h;done) | exact⟨false,rfl,h⟩ | skip
 rename_i v
 cases v<;>first | (cases h;done) | skip
 rename_i b
 refine⟨b==want,rfl,?_⟩
 have h:Bool.rec (motive:=fun _=>R) (p.run .und env H k) (g.run C lk lim base env H k) (bEq b want)=some r:=h
 rw[bEq_eq]at h
 cases hb:b==want with
 | true=>rw[hb]at h;exact h
 | false=>rw[hb]at h;exact h
theorem gGu_some {i:AI}{g:G}{p:UG}{C:Orc}{lk lim base:Nat}{env:Env}{H:Heap}{k:Env→Heap→R}{r:AV×Heap}(h:(gGu i.grd g p).run C lk lim base env H k=some r):∃b,guardI i env=some b∧(if b=true then g.run C lk lim base env H k else p.run .und env H k)=some r:=by
 unfold guardI
 cases hg:i.grd with
 | none=>rw[hg]at h;exact⟨true,rfl,h⟩
 | some q=>
  obtain⟨t,want⟩:=q
  rw[hg]at h
  have h:(pN t fun t=>pB want fun w=>(⟨guR t w g p⟩:G)).run C lk lim base env H k=some r:=h
  rw[pN_eq,pB_eq]at h
  exact guR_some h
def gIN (B:List Nat)(i:AI):G:=gGu i.grd (gON B i.dst i.op) (gPush B true i.dst)
theorem gIN_some {B:List Nat}{i:AI}{C W:Orc}{lk lim base:Nat}{env:Env}{H:Heap}{k:Env→Heap→R}{r:AV×Heap}(hC:COk C W)(hi:Inv B env)(h:(gIN B i).run C lk lim base env H k=some r):∃e H',stepI W lk lim i env H=some (e,H')∧Inv B e∧k e H'=some r:=by
 obtain⟨b,h1,h⟩:=gGu_some h
 unfold stepI
 rw[h1]
 cases b with
 | true=>exact gON_some hC hi h
 | false=>
  obtain⟨e,h4,h5,_,h⟩:=gPush_some hi (show (gPush B true i.dst).run .und env H k=some r from h)
  exact⟨e,H,by simp only[h4],h5,h⟩
def sqR (a b:G)(C:Orc)(lk lim base:Nat)(env:Env)(H:Heap)(k:Env→Heap→R):R:=a.run C lk lim base env H fun e h=>b.run C lk lim base e h k
def gNs (B:List Nat)(l:List AI):G:=List.rec (motive:=fun _=>G) ⟨fun _ _ _ _ env H k=>k env H⟩ (fun i _ ih=>⟨sqR (gIN B i) ih⟩) l
theorem gNs_some {B:List Nat}{C W:Orc}{lk lim base:Nat}(hC:COk C W):∀{l:List AI} {env:Env} {H:Heap} {k:Env→Heap→R} {r:AV×Heap},Inv B env→(gNs B l).run C lk lim base env H k=some r→∃e H',runOps W lk lim l env H=some (e,H')∧Inv B e∧k e H'=some r
 | [],env,H,k,r,hi,h=>⟨env,H,rfl,hi,h⟩
 | i::l,env,H,k,r,hi,h=>by
  obtain⟨e,H',h1,h2,h⟩:=gIN_some hC hi (show (gIN B i).run C lk lim base env H (fun e h=>(gNs B l).run C lk lim base e h k)=some r from h)
  obtain⟨e2,H2,h3,h4,h⟩:=gNs_some hC h2 h
  exact⟨e2,H2,by simp only[runOps,h1];exact h3,h4,h⟩

def acD (cb:Bool)(g:AG)(_:Orc)(lk lim base:Nat)(env:Env)(H:Heap)(k:Env→Heap→R):R:=Bool.rec (motive:=fun _=>R) (g.run lk lim Nat.zero env H k) (g.run lk lim base env H k) cb
def isHole (x:HB):Bool:=HB.rec (motive:=fun _=>Bool) true (fun _=>false) (fun _=>false) x
theorem isHole_true {x:HB}(h:isHole x=true):x= .hole:=by cases x<;>first | rfl | cases h
def mkD (op:AOp)(at_:Nat)(p:UG)(_:Orc)(_ _ base:Nat)(env:Env)(H:Heap)(k:Env→Heap→R):R:=
 pN (Nat.add base at_) fun b=>Option.rec (motive:=fun _=>R) none (fun q=>nthR H b fun y=>bIf (isHole y) (pV0 q.1 fun v=>pHB q.2 fun x=>setR H b x fun H'=>p.run v env H' k)) (mkOp op env b)
def clF (q:QG)(p:UG)(C:Orc)(lk lim _:Nat)(env:Env)(H:Heap)(k:Env→Heap→R):R:=
 q.run env fun f l=>resR (C lk lim f l H) fun v H'=>p.run v env H' k
def clD (q:QG)(p:UG)(C:Orc)(_ lim base:Nat)(env:Env)(H:Heap)(k:Env→Heap→R):R:=
 q.run env fun f l=>bIf (belL base l) (takA H base fun H0=>resR (C base lim f l H0) fun v H'=>bIf (bOr (leB H' base) (lenEq H base)) (drpA H' base fun tl=>catR H tl fun H2=>p.run v env H2 k))
def puH (g:PG)(p:UG)(_:Orc)(_ _ base:Nat)(env:Env)(H:Heap)(k:Env→Heap→R):R:=takA H base fun H0=>g.run env H0 fun v=>p.run v env H k
def gOD (B:List Nat)(cb fl:Bool)(at_:Nat)(dst:Option Nat)(op:AOp):G:=match cls op with
 | .actL _=>⟨acD cb (gA B dst op)⟩
 | .actH=>⟨acD cb (gA B dst op)⟩
 | .make=>pN at_ fun at_=>⟨mkD op at_ (gPush B true dst)⟩
 | .call=>match fl with
  | true=>⟨clF (gCl op) (gPush B false dst)⟩
  | false=>⟨clD (gCl op) (gPush B false dst)⟩
 | .env=>⟨puN (gP op) (gPush B (rpOp op) dst)⟩
 | .memL _=>⟨puN (gP op) (gPush B (rpOp op) dst)⟩
 | .memH=>⟨puH (gP op) (gPush B (rpOp op) dst)⟩
 | .callF=>⟨fun _ _ _ _ _ _ _=>none⟩
theorem rpo_of {op:AOp}{v:AV}(h:rpOp op=true∨isRp v=false):isRp v=false∨rpOp op=true:=h.symm
theorem gOD_some {B:List Nat}{cb:Bool}{i:AI}{C W:Orc}{lk lim base:Nat}{env:Env}{H:Heap}{k:Env→Heap→R}{r:AV×Heap}(hC:COk C W)(hi:Inv B env)(h:(gOD B cb i.fl i.at_ i.dst i.op).run C lk lim base env H k=some r):∃e H',(if isFree i=true then actF W lk lim i.dst i.op env H else actD W lk lim base (if cb=true then base else 0) i.dst i.op i.at_ env H)=some (e,H')∧Inv B e∧k e H'=some r:=by
 unfold gOD at h
 split at h
 case h_1 hc=>
  rw[isFree_not (by rw[hc];simp),if_neg (by simp)]
  unfold actD;rw[hc]
  cases cb<;>exact gA_some hi h
 case h_2 hc=>
  rw[isFree_not (by rw[hc];simp),if_neg (by simp)]
  unfold actD;rw[hc]
  cases cb<;>exact gA_some hi h
 case h_3 hc=>
  rw[isFree_not (by rw[hc];simp),if_neg (by simp)]
  unfold actD;rw[hc]
  rw[pN_eq]at h
  have h:(pN (Nat.add base i.at_) fun b=>Option.rec (motive:=fun _=>R) none (fun q=>nthR H b fun y=>bIf (isHole y) (pV0 q.1 fun v=>pHB q.2 fun x=>setR H b x fun H'=>(gPush B true i.dst).run v env H' k)) (mkOp i.op env b))=some r:=h
  rw[pN_eq]at h
  have h:Option.rec (motive:=fun _=>R) none (fun q=>nthR H (base+i.at_) fun y=>bIf (isHole y) (pV0 q.1 fun v=>pHB q.2 fun x=>setR H (base+i.at_) x fun H'=>(gPush B true i.dst).run v env H' k)) (mkOp i.op env (base+i.at_))=some r:=h
  cases hm:mkOp i.op env (base+i.at_) with
  | none=>rw[hm]at h;cases h
  | some q=>
   rw[hm]at h
   obtain⟨v,x⟩:=q
   obtain⟨y,h1,h⟩:=nthR_some (show (nthR H (base+i.at_) fun y=>bIf (isHole y) (pV0 v fun v=>pHB x fun x=>setR H (base+i.at_) x fun H'=>(gPush B true i.dst).run v env H' k))=some r from h)
   obtain⟨h2,h⟩:=bIf_some h
   have h2:=isHole_true h2
   subst h2
   rw[pV0_eq,pHB_eq]at h
   obtain⟨_,h⟩:=setR_some h
   obtain⟨e,h4,h5,_,h⟩:=gPush_some hi h
   exact⟨e,_,by simp only[h1,h4],h5,h⟩
 case h_4 hc=>
  rw[isFree_call hc]
  split at h
  ·rename_i hf
   rw[hf,if_pos rfl]
   obtain⟨f,l,h1,h2,h⟩:=gCl_some (show (gCl i.op).run env (fun f l=>resR (C lk lim f l H) fun v H'=>(gPush B false i.dst).run v env H' k)=some r from h)
   obtain⟨v,H',h3,h⟩:=resR_some h
   obtain⟨e,h4,h5,h6,h⟩:=gPush_some hi h
   have h6:isRp v=false:=h6.resolve_left (by simp)
   exact⟨e,_,by unfold actF;simp only[h1,h2,if_true,hC _ _ _ _ _ _ h2 h3,h6,h4],h5,h⟩
  ·rename_i hf
   rw[hf,if_neg (by simp)]
   unfold actD;rw[hc]
   obtain⟨f,l,h1,h2,h⟩:=gCl_some (show (gCl i.op).run env (fun f l=>bIf (belL base l) (takA H base fun H0=>resR (C base lim f l H0) fun v H'=>bIf (bOr (leB H' base) (lenEq H base)) (drpA H' base fun tl=>catR H tl fun H2=>(gPush B false i.dst).run v env H2 k)))=some r from h)
   obtain⟨h3,h⟩:=bIf_some h
   rw[takA_eq]at h
   obtain⟨v,H',h4,h⟩:=resR_some h
   obtain⟨h5,h⟩:=bIf_some h
   rw[drpA_eq,catR_eq]at h
   obtain⟨e,h6,h7,h8,h⟩:=gPush_some hi h
   have h8:isRp v=false:=h8.resolve_left (by simp)
   have h9:H'.length≤base∨H.length=base:=by
    rcases bOr_true h5 with h | h
    ·exact .inl (leB_true h)
    ·exact .inr (lenEq_true h)
   rw[belL_eq]at h3
   refine⟨e,_,?_,h7,h⟩
   simp only[h1]
   rw[if_pos ⟨h2,h3⟩]
   simp only[hC _ _ _ _ _ _ h2 h4]
   rw[if_pos ⟨h9,h8⟩]
   simp only[h6]
 case h_5 hc=>
  rw[isFree_not (by rw[hc];simp),if_neg (by simp)]
  unfold actD;rw[hc]
  obtain⟨v,h1,h⟩:=gP_some (show (gP i.op).run env H (fun v=>(gPush B (rpOp i.op) i.dst).run v env H k)=some r from h)
  obtain⟨e,h4,h5,h6,h⟩:=gPush_some hi h
  rw[rdOp_env (.inl hc) env H (H.take base)]at h1
  refine⟨e,H,?_,h5,h⟩
  simp only[h1]
  rw[if_pos (rpo_of h6)]
  simp only[h4]
 case h_6 t hc=>
  rw[isFree_not (by rw[hc];simp),if_neg (by simp)]
  unfold actD;rw[hc]
  obtain⟨v,h1,h⟩:=gP_some (show (gP i.op).run env H (fun v=>(gPush B (rpOp i.op) i.dst).run v env H k)=some r from h)
  obtain⟨e,h4,h5,h6,h⟩:=gPush_some hi h
  rw[rdOp_env (.inr ⟨t,hc⟩) env H (H.take base)]at h1
  refine⟨e,H,?_,h5,h⟩
  simp only[h1]
  rw[if_pos (rpo_of h6)]
  simp only[h4]
 case h_7 hc=>
  rw[isFree_not (by rw[hc];simp),if_neg (by simp)]
  unfold actD;rw[hc]
  have h:(takA H base fun H0=>(gP i.op).run env H0 fun v=>(gPush B (rpOp i.op) i.dst).run v env H k)=some r:=h
  rw[takA_eq]at h
  obtain⟨v,h1,h⟩:=gP_some h
  obtain⟨e,h4,h5,h6,h⟩:=gPush_some hi h
  refine⟨e,H,?_,h5,h⟩
  simp only[h1]
  rw[if_pos (rpo_of h6)]
  simp only[h4]
 case h_8=>cases h
def gID (B:List Nat)(cb:Bool)(i:AI):G:=gGu i.grd (gOD B cb i.fl i.at_ i.dst i.op) (gPush B true i.dst)
def flCall (i:AI):Bool:=match i.fl with
 | false=>true
 | true=>match cls i.op with
  | .call=>true
  | _=>false
theorem flCall_wr {i:AI}(h:flCall i=true)(env:Env):i.fl=true→wrTgt i.op env=none:=fun hf=>by
 unfold flCall at h
 rw[hf]at h
 dsimp only at h
 split at h
 case h_2=>cases h
 rename_i hc
 unfold wrTgt
 split
 ·rename_i ho;rw[ho]at hc;cases hc
 ·rename_i ho;rw[ho]at hc;cases hc
 ·rename_i ho;rw[ho]at hc;cases hc
 ·rfl
theorem flCall_row {i:AI}(h:flCall i=true):isRow i=false:=by
 unfold isRow
 cases hf:i.fl with
 | false=>rfl
 | true=>
  unfold flCall at h
  rw[hf]at h
  dsimp only at h
  split at h
  case h_2=>cases h
  rename_i hc
  rw[hc];rfl
theorem gID_some {B:List Nat}{cb:Bool}{i:AI}{C W:Orc}{ws:WS}{lk lim base:Nat}{env:Env}{H:Heap}{k:Env→Heap→R}{r:AV×Heap}(hws:∀b,ws b=false)(hf:flCall i=true)(hC:COk C W)(hi:Inv B env)(h:(gID B cb i).run C lk lim base env H k=some r):∃e H',stepD W lk lim ws base (if cb=true then base else 0) i env H=some (e,H')∧Inv B e∧k e H'=some r:=by
 have hok:okT ws i env=true:=by
  have hw:=flCall_wr hf env
  unfold okT
  rw[Bool.and_eq_true,Bool.and_eq_true]
  refine⟨⟨?_,?_⟩,by rw[flCall_row hf];rfl⟩
  ·split
   ·rename_i hb
    cases hfl:i.fl with
    | true=>rw[hw hfl]at hb;cases hb
    | false=>rfl
   ·rfl
  ·split
   ·rw[hws];rfl
   ·rfl
 obtain⟨b,h1,h⟩:=gGu_some h
 unfold stepD
 rw[h1]
 cases b with
 | true=>
  simp only[hok,if_true]
  exact gOD_some hC hi h
 | false=>
  obtain⟨e,h4,h5,_,h⟩:=gPush_some hi (show (gPush B true i.dst).run .und env H k=some r from h)
  exact⟨e,H,by simp only[h4],h5,h⟩
def gDs (B:List Nat)(l:List AI):G:=List.rec (motive:=fun _=>G) ⟨fun _ _ _ _ env H k=>k env H⟩ (fun i l ih=>pB (l.any isCall) fun cb=>⟨sqR (gID B cb i) ih⟩) l
theorem gDs_some {B:List Nat}{C W:Orc}{ws:WS}{lk lim base:Nat}(hws:∀b,ws b=false)(hC:COk C W):∀{l:List AI} {env:Env} {H:Heap} {k:Env→Heap→R} {r:AV×Heap},l.all flCall=true→Inv B env→(gDs B l).run C lk lim base env H k=some r→∃e H',runD W lk lim ws base l env H=some (e,H')∧Inv B e∧k e H'=some r
 | [],env,H,k,r,_,hi,h=>⟨env,H,rfl,hi,h⟩
 | i::l,env,H,k,r,hf,hi,h=>by
  rw[List.all_cons,Bool.and_eq_true]at hf
  have h:(pB (l.any isCall) fun cb=>(⟨sqR (gID B cb i) (gDs B l)⟩:G)).run C lk lim base env H k=some r:=h
  rw[pB_eq]at h
  obtain⟨e,H',h1,h2,h⟩:=gID_some hws hf.1 hC hi (show (gID B (l.any isCall) i).run C lk lim base env H (fun e h=>(gDs B l).run C lk lim base e h k)=some r from h)
  obtain⟨e2,H2,h3,h4,h⟩:=gDs_some hws hC hf.2 h2 h
  exact⟨e2,H2,by simp only[runD,h1];exact h3,h4,h⟩
theorem collW_fl {lk lim base:Nat}:∀{l:List AI} {env:Env} {H:Heap},l.all flCall=true→collW lk lim base l env H=[]
 | [],_,_,_=>rfl
 | i::r,env,H,h=>by
  rw[List.all_cons,Bool.and_eq_true]at h
  simp only[collW]
  split
  ·rename_i e' H' _
   rw[collW_fl h.2]
   simp only[List.append_nil]
   split
   ·split
    ·rename_i hfl
     rw[flCall_wr h.1 env hfl];rfl
    ·rfl
   ·rfl
  ·rfl
theorem ws_fl {lk lim base:Nat}{l:List AI}{env:Env}{H:Heap}(h:l.all flCall=true)(b:Nat):wsSel lk lim base l env H b=false:=by
 unfold wsSel
 split
 ·rw[collW_fl h];rfl
 ·rfl
end
end Go.Hm

namespace Go.Hm
open Go
noncomputable section

structure CG where
 run:Orc→Nat→Nat→Nat→Env→Heap→(Env→Heap→R)→(Nat→Env→Heap→R)→(Env→Heap→R)→R
def cRegN (kp:KG)(g:G)(C:Orc)(_ lk lim:Nat)(env:Env)(H:Heap)(kn:Env→Heap→R)(_:Nat→Env→Heap→R)(_:Env→Heap→R):R:=
 kp.run env fun e=>g.run C lk lim Nat.zero e H kn
def cRegD (kp:KG)(m:List HB)(g:G)(C:Orc)(_ lk lim:Nat)(env:Env)(H:Heap)(kn:Env→Heap→R)(_:Nat→Env→Heap→R)(_:Env→Heap→R):R:=
 kp.run env fun e=>lenR H fun base=>catR H m fun H0=>g.run C lk lim base e H0 kn
def invR (B:List Nat)(env:Env):Bool:=env.all fun p=>vOk B p.1 p.2
theorem invR_ok {B:List Nat}{env:Env}(h:invR B env=true):Inv B env:=fun p hp=>List.all_eq_true.1 h p hp
def slC (C:Orc):Orc:=fun lk lim f l H=>alR l (C lk lim f l H)
def cRegS (B:List Nat)(keep:List Nat)(m:Nat)(ops:List AI)(C:Orc)(_ lk lim:Nat)(env:Env)(H:Heap)(kn:Env→Heap→R)(_:Nat→Env→Heap→R)(_:Env→Heap→R):R:=
 pEnv (restrict keep env) fun env=>pHp (H++List.replicate m .hole) fun H0=>Option.rec (motive:=fun _=>R) none (fun p=>pEnv p.1 fun e=>pHp p.2 fun h=>bIf (invR B e) (kn e h)) (runDK (slC C) lk lim (wsSel lk lim H.length ops env H0) H.length ops env H0)
def cSeq (a b:CG)(C:Orc)(n lk lim:Nat)(env:Env)(H:Heap)(kn:Env→Heap→R)(kx:Nat→Env→Heap→R)(kr:Env→Heap→R):R:=
 a.run C n lk lim env H (fun e h=>b.run C n lk lim e h kn kx kr) kx kr
def cCond (c:BG)(a b:CG)(C:Orc)(n lk lim:Nat)(env:Env)(H:Heap)(kn:Env→Heap→R)(kx:Nat→Env→Heap→R)(kr:Env→Heap→R):R:=
 c.run env fun t=>Bool.rec (motive:=fun _=>R) (b.run C n lk lim env H kn kx kr) (a.run C n lk lim env H kn kx kr) t
def cBlock (id:Nat)(b:CG)(C:Orc)(n lk lim:Nat)(env:Env)(H:Heap)(kn:Env→Heap→R)(kx:Nat→Env→Heap→R)(kr:Env→Heap→R):R:=
 b.run C n lk lim env H kn (fun id' e h=>Bool.rec (motive:=fun _=>R) (kx id' e h) (kn e h) (Nat.beq id' id)) kr
def cLoop (kp:KG)(b:CG)(C:Orc)(n lk lim:Nat)(env:Env)(H:Heap)(_:Env→Heap→R)(kx:Nat→Env→Heap→R)(kr:Env→Heap→R):R:=
 Nat.rec (motive:=fun _=>Env→Heap→R) (fun _ _=>none) (fun _ ih e h=>kp.run e fun e=>b.run C n lk lim e h ih kx kr) n env H
def cRange (keep:List Nat)(it:FuncId→List AV→Heap→Option (List (List Value)))(g:AO)(ps:List Nat)(a b:CG)(C:Orc)(n lk lim:Nat)(env:Env)(H:Heap)(kn:Env→Heap→R)(kx:Nat→Env→Heap→R)(kr:Env→Heap→R):R:=
 pEnv (restrict keep env) fun e0=>Option.rec (motive:=fun _=>R) none (fun items=>List.rec (motive:=fun _=>Heap→R) (fun h=>kn e0 h)
  (fun x _ ih h=>Option.rec (motive:=fun _=>R) none (fun e1=>pEnv e1 fun e1=>a.run C n lk lim e1 h (fun e2 h2=>bIf (noBx e2) (b.run C n lk lim e2 h2 (fun _ h3=>ih h3) (fun id _ h3=>kx id e0 h3) (fun _ h3=>kr e0 h3))) (fun _ _ _=>none) (fun _ _=>none)) (putP ps x e0)) items H) (itemsOf it g ps e0 H)
def gC (B:List Nat)(c:AC):CG:=AC.rec (motive:=fun _=>CG)
 ⟨fun _ _ _ _ env H kn _ _=>kn env H⟩
 (fun keep ops=>⟨cRegN (gKeep keep) (gNs B ops)⟩)
 (fun keep m ops=>Bool.rec (motive:=fun _=>CG) ⟨cRegS B keep m ops⟩ (pLs (List.replicate m .hole) fun m=>⟨cRegD (gKeep keep) m (gDs B ops)⟩) (ops.all flCall))
 (fun _ _ ia ib=>⟨cSeq ia ib⟩)
 (fun c _ _ ia ib=>⟨cCond (gBool c) ia ib⟩)
 (fun id _ ib=>pN id fun id=>⟨cBlock id ib⟩)
 (fun keep _ ib=>⟨cLoop (gKeep keep) ib⟩)
 (fun _ _ _ _ _ _ _=>⟨fun _ _ _ _ _ _ _ _ _=>none⟩)
 (fun keep it g ps _ _ ia ib=>⟨cRange keep it g ps ia ib⟩)
 (fun id=>pN id fun id=>⟨fun _ _ _ _ env H _ kx _=>kx id env H⟩)
 ⟨fun _ _ _ _ env H _ _ kr=>kr env H⟩
 ⟨fun _ _ _ _ _ _ _ _ _=>none⟩
 ⟨fun _ _ lk lim env H kn _ _=>Option.rec (motive:=fun _=>R) none (fun p=>pEnv p.1 fun e=>pHp p.2 fun h=>kn e h) (frzC lk lim env H)⟩ c
def fit (kn:Env→Heap→R)(kx:Nat→Env→Heap→R)(kr:Env→Heap→R):Ex→Env→Heap→R
 | .nrm,e,h=>kn e h
 | .exit id,e,h=>kx id e h
 | .ret,e,h=>kr e h
theorem slC_le {C W:Orc}(hC:COk C W):OLe (slC C) W:=fun lk lim f l H r h=>by
 obtain⟨h1,h2⟩:=alR_some h
 exact hC _ _ _ _ _ _ h1 h2
theorem gC_some {B:List Nat}{C W:Orc}{n lk lim:Nat}(hC:COk C W):∀{c:AC} {env:Env} {H:Heap} {kn:Env→Heap→R} {kx:Nat→Env→Heap→R} {kr:Env→Heap→R} {r:AV×Heap},Inv B env→(gC B c).run C n lk lim env H kn kx kr=some r→∃x e h,execW W lk lim c env H=some (x,e,h)∧Inv B e∧fit kn kx kr x e h=some r
 | .skip,env,H,_,_,_,r,hi,h=>⟨.nrm,env,H,rfl,hi,h⟩
 | .frz,env,H,kn,kx,kr,r,hi,h=>by
  have h:Option.rec (motive:=fun _=>R) none (fun p=>pEnv p.1 fun e=>pHp p.2 fun h=>kn e h) (frzC lk lim env H)=some r:=h
  cases hf:frzC lk lim env H with
  | none=>rw[hf]at h;cases h
  | some p=>
   obtain⟨e,h'⟩:=p
   rw[hf]at h
   have h:(pEnv e fun e=>pHp h' fun h=>kn e h)=some r:=h
   rw[pEnv_eq,pHp_eq]at h
   refine⟨.nrm,e,h',by simp only[execW,hf],?_,h⟩
   unfold frzC at hf
   split at hf
   case isFalse=>cases hf
   simp only[Option.some.injEq,Prod.mk.injEq]at hf
   rw[←hf.1];exact inv_frz hi
 | .exit id,env,H,kn,kx,kr,r,hi,h=>by
  have h:(pN id fun id=>(⟨fun _ _ _ _ env H _ kx _=>kx id env H⟩:CG)).run C n lk lim env H kn kx kr=some r:=h
  rw[pN_eq]at h
  exact⟨.exit id,env,H,rfl,hi,h⟩
 | .ret,env,H,_,_,_,r,hi,h=>⟨.ret,env,H,rfl,hi,h⟩
 | .bad,_,_,_,_,_,_,_,h=>by cases h
 | .regN keep ops,env,H,kn,kx,kr,r,hi,h=>by
  have h:((gKeep keep).run env fun e=>(gNs B ops).run C lk lim Nat.zero e H kn)=some r:=h
  rw[gKeep_eq]at h
  obtain⟨e,H',h1,h2,h⟩:=gNs_some hC (inv_restrict hi) h
  exact⟨.nrm,e,H',by simp only[execW,h1],h2,h⟩
 | .regD keep m ops,env,H,kn,kx,kr,r,hi,h=>by
  have h:(Bool.rec (motive:=fun _=>CG) ⟨cRegS B keep m ops⟩ (pLs (List.replicate m .hole) fun m=>⟨cRegD (gKeep keep) m (gDs B ops)⟩) (ops.all flCall):CG).run C n lk lim env H kn kx kr=some r:=h
  cases hf:ops.all flCall with
  | true=>
   rw[hf]at h
   have h:(pLs (List.replicate m .hole) fun m=>(⟨cRegD (gKeep keep) m (gDs B ops)⟩:CG)).run C n lk lim env H kn kx kr=some r:=h
   rw[pLs_eq]at h
   have h:((gKeep keep).run env fun e=>lenR H fun base=>catR H (List.replicate m .hole) fun H0=>(gDs B ops).run C lk lim base e H0 kn)=some r:=h
   rw[gKeep_eq,lenR_eq,catR_eq]at h
   obtain⟨e,H',h1,h2,h⟩:=gDs_some (ws:=wsSel lk lim H.length ops (restrict keep env) (H++List.replicate m .hole)) (ws_fl hf) hC hf (inv_restrict hi) h
   exact⟨.nrm,e,H',by simp only[execW,h1],h2,h⟩
  | false=>
   rw[hf]at h
   have h:(pEnv (restrict keep env) fun env=>pHp (H++List.replicate m .hole) fun H0=>Option.rec (motive:=fun _=>R) none (fun p=>pEnv p.1 fun e=>pHp p.2 fun h=>bIf (invR B e) (kn e h)) (runDK (slC C) lk lim (wsSel lk lim H.length ops env H0) H.length ops env H0))=some r:=h
   rw[pEnv_eq,pHp_eq,runDK_eq]at h
   cases hr:runD (slC C) lk lim (wsSel lk lim H.length ops (restrict keep env) (H++List.replicate m .hole)) H.length ops (restrict keep env) (H++List.replicate m .hole) with
   | none=>rw[hr]at h;cases h
   | some p=>
    rw[hr]at h
    obtain⟨e,H'⟩:=p
    have h:(pEnv e fun e=>pHp H' fun h=>bIf (invR B e) (kn e h))=some r:=h
    rw[pEnv_eq,pHp_eq]at h
    obtain⟨h1,h⟩:=bIf_some h
    exact⟨.nrm,e,H',by simp only[execW,runD_mono (slC_le hC) hr],invR_ok h1,h⟩
 | .seq a b,env,H,kn,kx,kr,r,hi,h=>by
  have h:(gC B a).run C n lk lim env H (fun e h=>(gC B b).run C n lk lim e h kn kx kr) kx kr=some r:=h
  obtain⟨x,e,H',h1,h2,h⟩:=gC_some hC hi h
  cases x with
  | nrm=>
   obtain⟨x',e',H'',h3,h4,h⟩:=gC_some hC h2 (show (gC B b).run C n lk lim e H' kn kx kr=some r from h)
   exact⟨x',e',H'',by simp only[execW,h1];exact h3,h4,h⟩
  | exit id=>exact⟨.exit id,e,H',by simp only[execW,h1],h2,h⟩
  | ret=>exact⟨.ret,e,H',by simp only[execW,h1],h2,h⟩
 | .cond c a b,env,H,kn,kx,kr,r,hi,h=>by
  have h:((gBool c).run env fun t=>Bool.rec (motive:=fun _=>R) ((gC B b).run C n lk lim env H kn kx kr) ((gC B a).run C n lk lim env H kn kx kr) t)=some r:=h
  obtain⟨t,h1,h⟩:=gBool_some h
  cases t with
  | true=>
   obtain⟨x,e,H',h2,h3,h⟩:=gC_some hC hi (show (gC B a).run C n lk lim env H kn kx kr=some r from h)
   exact⟨x,e,H',by simp only[execW,h1,if_true];exact h2,h3,h⟩
  | false=>
   obtain⟨x,e,H',h2,h3,h⟩:=gC_some hC hi (show (gC B b).run C n lk lim env H kn kx kr=some r from h)
   exact⟨x,e,H',by simp only[execW,h1];exact h2,h3,h⟩
 | .block id b,env,H,kn,kx,kr,r,hi,h=>by
  have h:(pN id fun id=>(⟨cBlock id (gC B b)⟩:CG)).run C n lk lim env H kn kx kr=some r:=h
  rw[pN_eq]at h
  have h:(gC B b).run C n lk lim env H kn (fun id' e h=>Bool.rec (motive:=fun _=>R) (kx id' e h) (kn e h) (Nat.beq id' id)) kr=some r:=h
  obtain⟨x,e,H',h1,h2,h⟩:=gC_some hC hi h
  cases x with
  | nrm=>exact⟨.nrm,e,H',by simp only[execW,h1],h2,h⟩
  | ret=>exact⟨.ret,e,H',by simp only[execW,h1],h2,h⟩
  | exit id'=>
   have h:Bool.rec (motive:=fun _=>R) (kx id' e H') (kn e H') (Nat.beq id' id)=some r:=h
   by_cases hid:id'=id
   ·subst hid
    rw[Nat.beq_refl]at h
    exact⟨.nrm,e,H',by simp only[execW,h1,if_true],h2,h⟩
   ·have hb:Nat.beq id' id=false:=by
     cases hb:Nat.beq id' id with
     | false=>rfl
     | true=>exact(hid (Nat.eq_of_beq_eq_true hb)).elim
    rw[hb]at h
    exact⟨.exit id',e,H',by simp only[execW,h1];rw[if_neg hid],h2,h⟩
 | .loop keep b,env,H,kn,kx,kr,r,hi,h=>by
  simp only[execW]
  have h:(Nat.rec (motive:=fun _=>Env→Heap→R) (fun _ _=>none) (fun _ ih e h=>(gKeep keep).run e fun e=>(gC B b).run C n lk lim e h ih kx kr) n:Env→Heap→R) env H=some r:=h
  have go:∀(m:Nat) (env:Env) (H:Heap),Inv B env→(Nat.rec (motive:=fun _=>Env→Heap→R) (fun _ _=>none) (fun _ ih e h=>(gKeep keep).run e fun e=>(gC B b).run C n lk lim e h ih kx kr) m:Env→Heap→R) env H=some r→∃x e h,iterW (fun env H=>execW W lk lim b (restrict keep env) H) env H=some (x,e,h)∧Inv B e∧fit kn kx kr x e h=some r:=by
   intro m
   induction m with
   | zero=>intro env H _ h;cases h
   | succ m ih=>
    intro env H hi h
    have h:((gKeep keep).run env fun e=>(gC B b).run C n lk lim e H (Nat.rec (motive:=fun _=>Env→Heap→R) (fun _ _=>none) (fun _ ih e h=>(gKeep keep).run e fun e=>(gC B b).run C n lk lim e h ih kx kr) m) kx kr)=some r:=h
    rw[gKeep_eq]at h
    obtain⟨x,e,H',h1,h2,h⟩:=gC_some hC (inv_restrict hi) h
    rw[iterW_eq]
    simp only[h1]
    cases x with
    | nrm=>exact ih e H' h2 h
    | exit id=>exact⟨.exit id,e,H',rfl,h2,h⟩
    | ret=>exact⟨.ret,e,H',rfl,h2,h⟩
  exact go n env H hi h
 | .rangeM keep pre x tI tE body,env,H,kn,kx,kr,r,hi,h=>by
  have h:(none:R)=some r:=h
  cases h
 | .rangeF keep it g ps asg body,env,H,kn,kx,kr,r,hi,h=>by
  simp only[execW]
  have h:(pEnv (restrict keep env) fun e0=>Option.rec (motive:=fun _=>R) none (fun items=>List.rec (motive:=fun _=>Heap→R) (fun h=>kn e0 h)
   (fun x _ ih h=>Option.rec (motive:=fun _=>R) none (fun e1=>pEnv e1 fun e1=>(gC B asg).run C n lk lim e1 h (fun e2 h2=>bIf (noBx e2) ((gC B body).run C n lk lim e2 h2 (fun _ h3=>ih h3) (fun id _ h3=>kx id e0 h3) (fun _ h3=>kr e0 h3))) (fun _ _ _=>none) (fun _ _=>none)) (putP ps x e0)) items H) (itemsOf it g ps e0 H))=some r:=h
  rw[pEnv_eq]at h
  cases hit:itemsOf it g ps (restrict keep env) H with
  | none=>rw[hit]at h;cases h
  | some items=>
   rw[hit]at h
   dsimp only at h ⊢
   have hi0:=inv_restrict (keep:=keep) hi
   have go:∀(l:List (List Value)) (H:Heap),(List.rec (motive:=fun _=>Heap→R) (fun h=>kn (restrict keep env) h)
     (fun x _ ih h=>Option.rec (motive:=fun _=>R) none (fun e1=>pEnv e1 fun e1=>(gC B asg).run C n lk lim e1 h (fun e2 h2=>bIf (noBx e2) ((gC B body).run C n lk lim e2 h2 (fun _ h3=>ih h3) (fun id _ h3=>kx id (restrict keep env) h3) (fun _ h3=>kr (restrict keep env) h3))) (fun _ _ _=>none) (fun _ _=>none)) (putP ps x (restrict keep env))) l:Heap→R) H=some r→
     ∃x e h,rangeN (fun e H=>execW W lk lim asg e H) (fun e H=>execW W lk lim body e H) ps (restrict keep env) l H=some (x,e,h)∧Inv B e∧fit kn kx kr x e h=some r:=by
    intro l
    induction l with
    | nil=>intro H h;exact⟨.nrm,_,H,rfl,hi0,h⟩
    | cons x l ih=>
     intro H h
     cases hp:putP ps x (restrict keep env) with
     | none=>
      dsimp only at h
      rw[hp]at h;cases h
     | some e1=>
      dsimp only at h
      rw[hp]at h
      dsimp only at h
      rw[pEnv_eq]at h
      obtain⟨x1,e2,H2,h1,h2,h3⟩:=gC_some (c:=asg) hC (putP_inv hp hi0) h
      cases x1 with
      | exit id=>cases h3
      | ret=>cases h3
      | nrm=>
       obtain⟨hb,h3⟩:=bIf_some h3
       obtain⟨x2,e3,H3,k1,k2,k3⟩:=gC_some (c:=body) hC h2 h3
       have hr:round1 (fun e H=>execW W lk lim asg e H) (fun e H=>execW W lk lim body e H) ps (restrict keep env) x H=some (x2,e3,H3):=by
        simp only[round1,hp,h1,hb,if_true,k1]
       cases x2 with
       | nrm=>
        obtain⟨x4,e4,H4,g1,g2,g3⟩:=ih H3 k3
        exact⟨x4,e4,H4,by simp only[rangeN,hr];exact g1,g2,g3⟩
       | exit id=>exact⟨.exit id,_,H3,by simp only[rangeN,hr],hi0,k3⟩
       | ret=>exact⟨.ret,_,H3,by simp only[rangeN,hr],hi0,k3⟩
   exact go items H h

def bxOp:AOp→Bool
 | .allocR _=>true
 | .boxR _ _=>true
 | _=>false
def bxI (l:List AI):List Nat:=l.flatMap fun i=>if bxOp i.op=true then i.dst.toList else []
def bxs:AC→List Nat
 | .regN _ ops=>bxI ops
 | .regD _ _ ops=>bxI ops
 | .seq a b=>bxs a++bxs b
 | .cond _ a b=>bxs a++bxs b
 | .block _ b=>bxs b
 | .loop _ b=>bxs b
 | .rangeF _ _ _ _ a b=>bxs a++bxs b
 | .rangeM _ _ _ _ _ b=>bxs b
 | _=>[]
def pD (v:AV):(AV→R)→R:=AV.rec (motive_1:=fun _=>(AV→R)→R) (motive_2:=fun _=>(List AV→R)→R)
 (fun v k=>pVal v fun v=>k (.val v)) (fun k=>k .e0) (fun n _ ih k=>pN n fun n=>ih fun cs=>k (.sl n cs)) (fun _ o ih k=>pN o fun o=>ih fun cs=>k (.rop cs o))
 (fun t o k=>pN t fun t=>pN o fun o=>k (.rp t o)) (fun b g o k=>pN b fun b=>pN g fun g=>pN o fun o=>k (.hp b g o)) (fun b g o n e k=>pN b fun b=>pN g fun g=>pN o fun o=>pN n fun n=>pN e fun e=>k (.hs b g o n e)) (fun b k=>pN b fun b=>k (.mp b))
 (fun f _ ih k=>pN f fun f=>ih fun c=>k (.fn f c)) (fun _ ih k=>ih fun c=>k (.agg c)) (fun _ ih k=>ih fun c=>k (.tup c)) (fun _ ih k=>ih fun c=>k (.box c)) (fun k=>k .und) (fun k=>k .dead)
 (fun k=>k []) (fun _ _ ih1 ih2 k=>go ih1 fun a=>go ih2 fun l=>go k (a::l)) v
def pDL (l:List AV):(List AV→R)→R:=AV.rec_1 (motive_1:=fun _=>(AV→R)→R) (motive_2:=fun _=>(List AV→R)→R)
 (fun v k=>pVal v fun v=>k (.val v)) (fun k=>k .e0) (fun n _ ih k=>pN n fun n=>ih fun cs=>k (.sl n cs)) (fun _ o ih k=>pN o fun o=>ih fun cs=>k (.rop cs o))
 (fun t o k=>pN t fun t=>pN o fun o=>k (.rp t o)) (fun b g o k=>pN b fun b=>pN g fun g=>pN o fun o=>k (.hp b g o)) (fun b g o n e k=>pN b fun b=>pN g fun g=>pN o fun o=>pN n fun n=>pN e fun e=>k (.hs b g o n e)) (fun b k=>pN b fun b=>k (.mp b))
 (fun f _ ih k=>pN f fun f=>ih fun c=>k (.fn f c)) (fun _ ih k=>ih fun c=>k (.agg c)) (fun _ ih k=>ih fun c=>k (.tup c)) (fun _ ih k=>ih fun c=>k (.box c)) (fun k=>k .und) (fun k=>k .dead)
 (fun k=>k []) (fun _ _ ih1 ih2 k=>go ih1 fun a=>go ih2 fun l=>go k (a::l)) l
theorem pD_eq (v:AV):∀k:AV→R,pD v k=k v:=by
 refine AV.rec (motive_1:=fun v=>∀k:AV→R,pD v k=k v) (motive_2:=fun l=>∀k:List AV→R,pDL l k=k l) ?_ ?_ ?_ ?_ ?_ ?_ ?_ ?_ ?_ ?_ ?_ ?_ ?_ ?_ ?_ ?_ v
 ·exact fun v k=>pVal_eq v fun v=>k (.val v)
 ·exact fun k=>rfl
 ·intro n cs ih k;show pN n (fun n=>pDL cs fun cs=>k (.sl n cs))=_;rw[pN_eq,ih]
 ·intro cs o ih k;show pN o (fun o=>pDL cs fun cs=>k (.rop cs o))=_;rw[pN_eq,ih]
 ·intro t o k;show pN t (fun t=>pN o fun o=>k (.rp t o))=_;simp only[pN_eq]
 ·intro b g o k;show pN b (fun b=>pN g fun g=>pN o fun o=>k (.hp b g o))=_;simp only[pN_eq]
 ·intro b g o n e k;show pN b (fun b=>pN g fun g=>pN o fun o=>pN n fun n=>pN e fun e=>k (.hs b g o n e))=_;simp only[pN_eq]
 ·exact fun b k=>pN_eq b fun b=>k (.mp b)
 ·intro f c ih k;show pN f (fun f=>pDL c fun c=>k (.fn f c))=_;rw[pN_eq,ih]
 ·exact fun c ih k=>ih fun c=>k (.agg c)
 ·exact fun c ih k=>ih fun c=>k (.tup c)
 ·exact fun c ih k=>ih fun c=>k (.box c)
 ·exact fun k=>rfl
 ·exact fun k=>rfl
 ·exact fun k=>rfl
 ·intro a l ih1 ih2 k;show pD a (fun a=>pDL l fun l=>k (a::l))=_;rw[ih1,ih2]

structure FG where
 run:Orc→Nat→Nat→Nat→List AV→Heap→R
def finS (fd:AFn)(H:Heap)(e:Env)(h:Heap):R:=Option.rec (motive:=fun _=>R) none (fun p=>pD p.1 fun v=>pLs p.2 fun h=>some (v,h)) (finish fd H (some (.ret,e,h)))
def finT (fd:AFn)(t b:Nat)(H:Heap)(e:Env)(h:Heap):R:=(AV.rec (motive_1:=fun _=>R) (motive_2:=fun _=>Unit) (fun v=>takA h b fun h=>some (.val v,h)) (finS fd H e h) (fun _ _ _=>finS fd H e h) (fun _ _ _=>finS fd H e h) (fun _ _=>finS fd H e h) (fun _ _ _=>finS fd H e h) (fun _ _ _ _ _=>finS fd H e h) (fun _=>finS fd H e h) (fun _ _ _=>finS fd H e h) (fun _ _=>finS fd H e h) (fun _ _=>finS fd H e h) (fun _ _=>finS fd H e h) (finS fd H e h) (finS fd H e h) () (fun _ _ _ _=>())) (findR e t)
structure NG where
 run:Nat→Heap→Env→Heap→R
def gFin (fd:AFn):NG:=match fd.res,fd.trunc with
 | [.tmp t],true=>pN t fun t=>⟨fun b H e h=>finT fd t b H e h⟩
 | _,_=>⟨fun _ H e h=>finS fd H e h⟩
theorem finS_some {fd:AFn}{H:Heap}{e:Env}{h:Heap}{r:AV×Heap}(hh:finS fd H e h=some r):finish fd H (some (.ret,e,h))=some r:=by
 unfold finS at hh
 cases hf:finish fd H (some (.ret,e,h)) with
 | none=>rw[hf]at hh;cases hh
 | some p=>
  rw[hf]at hh
  have hh:(pD p.1 fun v=>pLs p.2 fun h=>some (v,h))=some r:=hh
  rw[pD_eq,pLs_eq]at hh
  exact hh
theorem gFin_some {fd:AFn}{H:Heap}{e:Env}{h:Heap}{r:AV×Heap}(hh:(gFin fd).run H.length H e h=some r):finish fd H (some (.ret,e,h))=some r:=by
 unfold gFin at hh
 split at hh
 ·rename_i t hr ht
  rw[pN_eq]at hh
  have hh:finT fd t H.length H e h=some r:=hh
  unfold finT at hh
  rw[findR_eq]at hh
  cases hv:find e t with
  | val v=>
   rw[hv]at hh
   have hh:(takA h H.length fun h=>some (.val v,h))=some r:=hh
   rw[takA_eq]at hh
   rw[←hh]
   simp only[finish,hr,ht,resOf,resList,resOne,hv,argOk,Hm.one,if_true,frz,Hm.below]
  | _=>rw[hv]at hh;exact finS_some hh
 ·exact finS_some hh
def entR (l:List AV):Nat→(Env→R)→R:=List.rec (motive:=fun _=>Nat→(Env→R)→R) (fun _ k=>k []) (fun a _ ih n k=>pN n fun n=>ih (Nat.succ n) fun e=>k ((n,a)::e)) l
theorem entR_eq:∀(l:List AV) (n:Nat) (k:Env→R),entR l n k=k (enterFrom n l)
 | [],_,_=>rfl
 | a::l,n,k=>by
  show (pN n fun n=>entR l (Nat.succ n) fun e=>k ((n,a)::e))=_
  rw[pN_eq,entR_eq l];rfl
def fnK (np:Nat)(cg:CG)(fin:NG)(C:Orc)(n lk lim:Nat)(args:List AV)(H:Heap):R:=
 bIf (lenEq args np) (entR args Nat.zero fun env=>lenR H fun b=>cg.run C n lk lim env H (fin.run b H) (fun _ _ _=>none) (fin.run b H))
def fnT (np:Nat)(cg:CG)(fin:NG)(C:Orc)(n lk _:Nat)(args:List AV)(H:Heap):R:=
 bIf (lenEq args np) (entR args Nat.zero fun env=>lenR H fun b=>cg.run C n lk b env H (fin.run b H) (fun _ _ _=>none) (fin.run b H))
def gFn (fd:AFn):FG:=pN fd.np fun np=>pLs (bxs fd.body) fun B=>Bool.rec (motive:=fun _=>FG) ⟨fnK np (gC B fd.body) (gFin fd)⟩ ⟨fnT np (gC B fd.body) (gFin fd)⟩ fd.trunc
theorem gFn_some {fd:AFn}{C W:Orc}{n lk lim:Nat}{args:List AV}{H:Heap}{r:AV×Heap}(hC:COk C W)(ha:args.all argOk=true)(h:(gFn fd).run C n lk lim args H=some r):args.length=fd.np∧finish fd H (execW W lk (if fd.trunc then H.length else lim) fd.body (enterFrom 0 args) H)=some r:=by
 unfold gFn at h
 rw[pN_eq,pLs_eq]at h
 have key:∀L,fnK fd.np (gC (bxs fd.body) fd.body) (gFin fd) C n lk L args H=some r→args.length=fd.np∧finish fd H (execW W lk L fd.body (enterFrom 0 args) H)=some r:=by
  intro L h
  obtain⟨h1,h⟩:=bIf_some (show bIf (lenEq args fd.np) (entR args Nat.zero fun env=>lenR H fun b=>(gC (bxs fd.body) fd.body).run C n lk L env H ((gFin fd).run b H) (fun _ _ _=>none) ((gFin fd).run b H))=some r from h)
  rw[entR_eq,lenR_eq]at h
  obtain⟨x,e,H',h2,_,h⟩:=gC_some hC (enter_inv ha) h
  refine⟨lenEq_true h1,?_⟩
  have h2:execW W lk L fd.body (enterFrom 0 args) H=some (x,e,H'):=h2
  rw[h2]
  cases x with
  | nrm=>exact gFin_some h
  | ret=>exact gFin_some h
  | exit id=>cases h
 cases ht:fd.trunc with
 | false=>rw[ht]at h;exact key lim h
 | true=>
  rw[ht]at h
  refine key H.length ?_
  have h:bIf (lenEq args fd.np) (entR args Nat.zero fun env=>lenR H fun b=>(gC (bxs fd.body) fd.body).run C n lk b env H ((gFin fd).run b H) (fun _ _ _=>none) ((gFin fd).run b H))=some r:=h
  obtain⟨h1,h⟩:=bIf_some h
  unfold fnK
  rw[h1]
  rw[entR_eq,lenR_eq]at h
  show (entR args Nat.zero fun env=>lenR H fun b=>_)=some r
  rw[entR_eq,lenR_eq]
  exact h

abbrev Ans:=List (Nat×(Nat→List AV→Heap→Option (AV×Heap)))
def ansFind (t:Ans)(f:Nat):Option (Nat→List AV→Heap→Option (AV×Heap)):=match t with
 | []=>none
 | (g,F)::r=>if f=g then some F else ansFind r f
def ansK (F:Nat→List AV→Heap→Option (AV×Heap))(_:Orc)(_ lk _:Nat)(l:List AV)(H:Heap):R:=resR (F lk l H) fun v H=>pD v fun v=>some (v,H)
def primK (X:Orc)(f:Nat)(_:Orc)(_ lk lim:Nat)(l:List AV)(H:Heap):R:=resR (X lk lim f l H) fun v H=>pD v fun v=>pHp H fun H=>some (v,H)
def gF (X:Orc)(pr:Nat→Bool)(A:FuncId→Option AFn)(t:Ans)(f:FuncId):FG:=match ansFind t f with
 | some F=>⟨ansK F⟩
 | none=>match pr f with
  | true=>⟨primK X f⟩
  | false=>match A f with
   | some fd=>gFn fd
   | none=>⟨fun _ _ _ _ _ _=>none⟩
def callE (T:FuncId→FG)(N n:Nat):Orc:=Nat.rec (motive:=fun _=>Orc) (fun _ _ _ _ _=>none) (fun _ ih lk lim f l H=>(T f).run ih N lk lim l H) n
section
variable {X:Orc}{A:FuncId→Option AFn}{pr:Nat→Bool}{t:Ans}
theorem ansFind_mem:∀{t:Ans} {f:Nat} {F:Nat→List AV→Heap→Option (AV×Heap)},ansFind t f=some F→(f,F)∈t
 | [],_,_,h=>by cases h
 | (g,F')::r,f,F,h=>by
  simp only[ansFind]at h
  split at h
  ·rename_i e
   subst e
   simp only[Option.some.injEq]at h
   subst h
   exact List.mem_cons_self ..
  ·exact List.mem_cons_of_mem _ (ansFind_mem h)
theorem callE_ok (hX:∀f,pr f=false→∀lk lim l H,X lk lim f l H=none)(ht:∀p∈t,∀lk lim l H r,p.2 lk l H=some r→callW X A lk lim p.1 l H=some r)(N:Nat):∀n,COk (callE (gF X pr A t) N n) (callW X A)
 | 0=>fun _ _ _ _ _ _ _ h=>by cases h
 | n+1=>fun lk lim f l H r ha h=>by
  have ih:=callE_ok hX ht N n
  have h:(gF X pr A t f).run (callE (gF X pr A t) N n) N lk lim l H=some r:=h
  unfold gF at h
  split at h
  ·rename_i F hF
   obtain⟨v,H',h1,h⟩:=resR_some (show resR (F lk l H) (fun v H=>pD v fun v=>some (v,H))=some r from h)
   rw[pD_eq]at h
   exact ht _ (ansFind_mem hF) _ _ _ _ _ (h1.trans h)
  ·split at h
   ·obtain⟨v,H',h1,h⟩:=resR_some (show resR (X lk lim f l H) (fun v H=>pD v fun v=>pHp H fun H=>some (v,H))=some r from h)
    rw[pD_eq,pHp_eq]at h
    exact callW_prim (h1.trans h)
   ·rename_i hp
    split at h
    ·rename_i fd hA
     obtain⟨h1,h2⟩:=gFn_some ih ha h
     rw[callW_eq (hX f hp _ _ _ _) hA h1]
     exact h2
    ·cases h
end
theorem run_W {X:Orc}{A:FuncId→Option AFn}{pr:Nat→Bool}{t:Ans}(hX:∀f,pr f=false→∀lk lim l H,X lk lim f l H=none)(ht:∀p∈t,∀lk lim l H r,p.2 lk l H=some r→callW X A lk lim p.1 l H=some r)(N n:Nat)(D:Orc)(hD:D=callE (gF X pr A t) N n)(lk lim:Nat)(f:FuncId)(l:List AV)(H:Heap)(r:AV×Heap)(ha:l.all argOk=true)(h:D lk lim f l H=some r):callW X A lk lim f l H=some r:=by
 subst hD
 exact callE_ok hX ht N n _ _ _ _ _ _ ha h
end
end Go.Hm

namespace Go.Hm
open Go
section
variable {S:Cx}{dst:Option Nat}{env:Env}{H:Heap}{k:Kt}{fl st:Bool}
def WPureD (B:List Nat)(r:Option AV)(rpo:Bool)(dst:Option Nat)(env:Env)(H:Heap)(k:Kt):Prop:=match r with
 | some v=>(isRp v=false∨rpo=true)∧WPush B dst v env H k
 | none=>False
def WClF (S:Cx)(st:Bool)(r:Option (FuncId×List AV))(dst:Option Nat)(env:Env)(H:Heap)(k:Kt):Prop:=match r with
 | some (g,l)=>l.all argOk=true∧(match S.C S.lk S.lim g l H with
  | some (v,H')=>isRp v=false∧(st=true∨H'.length=H.length)∧WPush S.B dst v env H' k
  | none=>False)
 | none=>False
def WClD (S:Cx)(st:Bool)(r:Option (FuncId×List AV))(dst:Option Nat)(env:Env)(H:Heap)(k:Kt):Prop:=match r with
 | some (g,l)=>l.all argOk=true∧belowL H.length l=true∧(match S.C H.length S.lim g l H with
  | some (v,H')=>isRp v=false∧(H'=H∨(st=true∧H'.take H.length=H))∧WPush S.B dst v env H' k
  | none=>False)
 | none=>False
theorem wi_mv (x:AO):WI S (.mv x) dst env H k=WPure S.B (rdOp (.mv x) env H) dst env H k:=rfl
theorem wi_mvD (x:AO):WID S fl st (.mv x) dst env H k=WPureD S.B (rdOp (.mv x) env H) true dst env H k:=rfl
theorem wi_pick (c:AO)(a:AO)(b:AO):WI S (.pick c a b) dst env H k=WPure S.B (rdOp (.pick c a b) env H) dst env H k:=rfl
theorem wi_pickD (c:AO)(a:AO)(b:AO):WID S fl st (.pick c a b) dst env H k=WPureD S.B (rdOp (.pick c a b) env H) true dst env H k:=rfl
theorem wi_allocR (z:List AV):WI S (.allocR z) dst env H k=WPure S.B (rdOp (.allocR z) env H) dst env H k:=rfl
theorem wi_allocRD (z:List AV):WID S fl st (.allocR z) dst env H k=WPureD S.B (rdOp (.allocR z) env H) false dst env H k:=rfl
theorem wi_boxR (n:Nat)(x:AO):WI S (.boxR n x) dst env H k=WPure S.B (rdOp (.boxR n x) env H) dst env H k:=rfl
theorem wi_boxRD (n:Nat)(x:AO):WID S fl st (.boxR n x) dst env H k=WPureD S.B (rdOp (.boxR n x) env H) false dst env H k:=rfl
theorem wi_allocH (z:List AV):WI S (.allocH z) dst env H k=WMake S.B (mkOp (.allocH z) env H.length) dst env H k:=rfl
theorem wi_boxH (n:Nat)(x:AO):WI S (.boxH n x) dst env H k=WMake S.B (mkOp (.boxH n x) env H.length) dst env H k:=rfl
theorem wi_build (z:List AV)(parts:List (Nat×Nat×AO)):WI S (.build z parts) dst env H k=WPure S.B (rdOp (.build z parts) env H) dst env H k:=rfl
theorem wi_buildD (z:List AV)(parts:List (Nat×Nat×AO)):WID S fl st (.build z parts) dst env H k=WPureD S.B (rdOp (.build z parts) env H) false dst env H k:=rfl
theorem wi_buildS (n:Nat)(z:List AV)(parts:List (Nat×Nat×AO)):WI S (.buildS n z parts) dst env H k=WPure S.B (rdOp (.buildS n z parts) env H) dst env H k:=rfl
theorem wi_buildSD (n:Nat)(z:List AV)(parts:List (Nat×Nat×AO)):WID S fl st (.buildS n z parts) dst env H k=WPureD S.B (rdOp (.buildS n z parts) env H) false dst env H k:=rfl
theorem wi_buildH (n:Nat)(es:Nat)(z:List AV)(parts:List (Nat×Nat×AO)):WI S (.buildH n es z parts) dst env H k=WMake S.B (mkOp (.buildH n es z parts) env H.length) dst env H k:=rfl
theorem wi_ld1L (t:Nat)(a:AO):WI S (.ld1 (some t) a) dst env H k=WPure S.B (rdOp (.ld1 (some t) a) env H) dst env H k:=rfl
theorem wi_ld1LD (t:Nat)(a:AO):WID S fl st (.ld1 (some t) a) dst env H k=WPureD S.B (rdOp (.ld1 (some t) a) env H) false dst env H k:=rfl
theorem wi_ld1 (a:AO):WI S (.ld1 none a) dst env H k=WPure S.B (rdOp (.ld1 none a) env H) dst env H k:=rfl
theorem wi_ld1D (a:AO):WID S false st (.ld1 none a) dst env H k=WPureD S.B (rdOp (.ld1 none a) env H) false dst env H k:=rfl
theorem wi_ld1R (a:AO):WID S true st (.ld1 none a) dst env H k=(rdTgt (.ld1 none a) env=none∧WPureD S.B (rdOp (.ld1 none a) env H) false dst env H k):=rfl
theorem wi_ldAL (t:Nat)(n:Nat)(a:AO):WI S (.ldA (some t) n a) dst env H k=WPure S.B (rdOp (.ldA (some t) n a) env H) dst env H k:=rfl
theorem wi_ldALD (t:Nat)(n:Nat)(a:AO):WID S fl st (.ldA (some t) n a) dst env H k=WPureD S.B (rdOp (.ldA (some t) n a) env H) false dst env H k:=rfl
theorem wi_ldA (n:Nat)(a:AO):WI S (.ldA none n a) dst env H k=WPure S.B (rdOp (.ldA none n a) env H) dst env H k:=rfl
theorem wi_ldAD (n:Nat)(a:AO):WID S false st (.ldA none n a) dst env H k=WPureD S.B (rdOp (.ldA none n a) env H) false dst env H k:=rfl
theorem wi_ldAR (n:Nat)(a:AO):WID S true st (.ldA none n a) dst env H k=(rdTgt (.ldA none n a) env=none∧WPureD S.B (rdOp (.ldA none n a) env H) false dst env H k):=rfl
theorem wi_stL (t:Nat)(n:Nat)(a:AO)(x:AO):WI S (.st (some t) n a x) dst env H k=WAct (exOp S.lk S.lim 0 dst (.st (some t) n a x) env H) k:=rfl
theorem wi_stLD (t:Nat)(n:Nat)(a:AO)(x:AO):WID S fl st (.st (some t) n a x) dst env H k=WAct (exOp S.lk S.lim 0 dst (.st (some t) n a x) env H) k:=rfl
theorem wi_st (n:Nat)(a:AO)(x:AO):WI S (.st none n a x) dst env H k=WAct (exOp S.lk S.lim 0 dst (.st none n a x) env H) k:=rfl
theorem wi_stD (n:Nat)(a:AO)(x:AO):WID S fl st (.st none n a x) dst env H k=WAct (exOp S.lk S.lim 0 dst (.st none n a x) env H) k:=rfl
theorem wi_nilc (x:AO):WI S (.nilc x) dst env H k=WPure S.B (rdOp (.nilc x) env H) dst env H k:=rfl
theorem wi_nilcD (x:AO):WID S fl st (.nilc x) dst env H k=WPureD S.B (rdOp (.nilc x) env H) true dst env H k:=rfl
theorem wi_bini (op:BinOp)(x:AO)(y:AO):WI S (.bini op x y) dst env H k=WPure S.B (rdOp (.bini op x y) env H) dst env H k:=rfl
theorem wi_biniD (op:BinOp)(x:AO)(y:AO):WID S fl st (.bini op x y) dst env H k=WPureD S.B (rdOp (.bini op x y) env H) false dst env H k:=rfl
theorem wi_bins (op:BinOp)(x:AO)(y:AO):WI S (.bins op x y) dst env H k=WPure S.B (rdOp (.bins op x y) env H) dst env H k:=rfl
theorem wi_binsD (op:BinOp)(x:AO)(y:AO):WID S fl st (.bins op x y) dst env H k=WPureD S.B (rdOp (.bins op x y) env H) false dst env H k:=rfl
theorem wi_eqb (neg:Bool)(x:AO)(y:AO):WI S (.eqb neg x y) dst env H k=WPure S.B (rdOp (.eqb neg x y) env H) dst env H k:=rfl
theorem wi_eqbD (neg:Bool)(x:AO)(y:AO):WID S fl st (.eqb neg x y) dst env H k=WPureD S.B (rdOp (.eqb neg x y) env H) false dst env H k:=rfl
theorem wi_eqp (neg:Bool)(x:AO)(y:AO):WI S (.eqp neg x y) dst env H k=WPure S.B (rdOp (.eqp neg x y) env H) dst env H k:=rfl
theorem wi_eqpD (neg:Bool)(x:AO)(y:AO):WID S fl st (.eqp neg x y) dst env H k=WPureD S.B (rdOp (.eqp neg x y) env H) false dst env H k:=rfl
theorem wi_eqf (neg:Bool)(x:AO)(y:AO):WI S (.eqf neg x y) dst env H k=WPure S.B (rdOp (.eqf neg x y) env H) dst env H k:=rfl
theorem wi_eqfD (neg:Bool)(x:AO)(y:AO):WID S fl st (.eqf neg x y) dst env H k=WPureD S.B (rdOp (.eqf neg x y) env H) false dst env H k:=rfl
theorem wi_eqa (neg:Bool)(ks:List Nat)(x:AO)(y:AO):WI S (.eqa neg ks x y) dst env H k=WPure S.B (rdOp (.eqa neg ks x y) env H) dst env H k:=rfl
theorem wi_eqaD (neg:Bool)(ks:List Nat)(x:AO)(y:AO):WID S fl st (.eqa neg ks x y) dst env H k=WPureD S.B (rdOp (.eqa neg ks x y) env H) false dst env H k:=rfl
theorem wi_not (x:AO):WI S (.not x) dst env H k=WPure S.B (rdOp (.not x) env H) dst env H k:=rfl
theorem wi_notD (x:AO):WID S fl st (.not x) dst env H k=WPureD S.B (rdOp (.not x) env H) false dst env H k:=rfl
theorem wi_negi (x:AO):WI S (.negi x) dst env H k=WPure S.B (rdOp (.negi x) env H) dst env H k:=rfl
theorem wi_negiD (x:AO):WID S fl st (.negi x) dst env H k=WPureD S.B (rdOp (.negi x) env H) false dst env H k:=rfl
theorem wi_xori (x:AO):WI S (.xori x) dst env H k=WPure S.B (rdOp (.xori x) env H) dst env H k:=rfl
theorem wi_xoriD (x:AO):WID S fl st (.xori x) dst env H k=WPureD S.B (rdOp (.xori x) env H) false dst env H k:=rfl
theorem wi_cvi (q:IntKind)(x:AO):WI S (.cvi q x) dst env H k=WPure S.B (rdOp (.cvi q x) env H) dst env H k:=rfl
theorem wi_cviD (q:IntKind)(x:AO):WID S fl st (.cvi q x) dst env H k=WPureD S.B (rdOp (.cvi q x) env H) false dst env H k:=rfl
theorem wi_b2s (x:AO):WI S (.b2s x) dst env H k=WPure S.B (rdOp (.b2s x) env H) dst env H k:=rfl
theorem wi_b2sD (x:AO):WID S false st (.b2s x) dst env H k=WPureD S.B (rdOp (.b2s x) env H) false dst env H k:=rfl
theorem wi_b2sR (x:AO):WID S true st (.b2s x) dst env H k=(rdTgt (.b2s x) env=none∧WPureD S.B (rdOp (.b2s x) env H) false dst env H k):=rfl
theorem wi_s2b (x:AO):WI S (.s2b x) dst env H k=WPure S.B (rdOp (.s2b x) env H) dst env H k:=rfl
theorem wi_s2bD (x:AO):WID S fl st (.s2b x) dst env H k=WPureD S.B (rdOp (.s2b x) env H) false dst env H k:=rfl
theorem wi_mkf (f:FuncId)(caps:List AO):WI S (.mkf f caps) dst env H k=WPure S.B (rdOp (.mkf f caps) env H) dst env H k:=rfl
theorem wi_mkfD (f:FuncId)(caps:List AO):WID S fl st (.mkf f caps) dst env H k=WPureD S.B (rdOp (.mkf f caps) env H) false dst env H k:=rfl
theorem wi_mks (es:Nat)(bytes:Nat)(z:List AV)(l:AO):WI S (.mks es bytes z l) dst env H k=WMake S.B (mkOp (.mks es bytes z l) env H.length) dst env H k:=rfl
theorem wi_slS (x:AO)(lo:Option AO)(hi:Option AO):WI S (.slS x lo hi) dst env H k=WPure S.B (rdOp (.slS x lo hi) env H) dst env H k:=rfl
theorem wi_slSD (x:AO)(lo:Option AO)(hi:Option AO):WID S fl st (.slS x lo hi) dst env H k=WPureD S.B (rdOp (.slS x lo hi) env H) false dst env H k:=rfl
theorem wi_slC (es:Nat)(x:AO)(lo:Option AO)(hi:Option AO):WI S (.slC es x lo hi) dst env H k=WPure S.B (rdOp (.slC es x lo hi) env H) dst env H k:=rfl
theorem wi_slCD (es:Nat)(x:AO)(lo:Option AO)(hi:Option AO):WID S fl st (.slC es x lo hi) dst env H k=WPureD S.B (rdOp (.slC es x lo hi) env H) false dst env H k:=rfl
theorem wi_sl00 (x:AO):WI S (.sl00 x) dst env H k=WPure S.B (rdOp (.sl00 x) env H) dst env H k:=rfl
theorem wi_sl00D (x:AO):WID S fl st (.sl00 x) dst env H k=WPureD S.B (rdOp (.sl00 x) env H) false dst env H k:=rfl
theorem wi_fldA (off:Nat)(x:AO):WI S (.fldA off x) dst env H k=WPure S.B (rdOp (.fldA off x) env H) dst env H k:=rfl
theorem wi_fldAD (off:Nat)(x:AO):WID S fl st (.fldA off x) dst env H k=WPureD S.B (rdOp (.fldA off x) env H) true dst env H k:=rfl
theorem wi_fld (off:Nat)(n:Nat)(isAgg:Bool)(x:AO):WI S (.fld off n isAgg x) dst env H k=WPure S.B (rdOp (.fld off n isAgg x) env H) dst env H k:=rfl
theorem wi_fldD (off:Nat)(n:Nat)(isAgg:Bool)(x:AO):WID S fl st (.fld off n isAgg x) dst env H k=WPureD S.B (rdOp (.fld off n isAgg x) env H) false dst env H k:=rfl
theorem wi_ixA (es:Nat)(x:AO)(i:AO):WI S (.ixA es x i) dst env H k=WPure S.B (rdOp (.ixA es x i) env H) dst env H k:=rfl
theorem wi_ixAD (es:Nat)(x:AO)(i:AO):WID S fl st (.ixA es x i) dst env H k=WPureD S.B (rdOp (.ixA es x i) env H) false dst env H k:=rfl
theorem wi_ixR (len:Nat)(es:Nat)(a:AO)(i:AO):WI S (.ixR len es a i) dst env H k=WPure S.B (rdOp (.ixR len es a i) env H) dst env H k:=rfl
theorem wi_ixRD (len:Nat)(es:Nat)(a:AO)(i:AO):WID S fl st (.ixR len es a i) dst env H k=WPureD S.B (rdOp (.ixR len es a i) env H) true dst env H k:=rfl
theorem wi_ixS (x:AO)(i:AO):WI S (.ixS x i) dst env H k=WPure S.B (rdOp (.ixS x i) env H) dst env H k:=rfl
theorem wi_ixSD (x:AO)(i:AO):WID S fl st (.ixS x i) dst env H k=WPureD S.B (rdOp (.ixS x i) env H) false dst env H k:=rfl
theorem wi_ixG (len:Nat)(es:Nat)(isAgg:Bool)(x:AO)(i:AO):WI S (.ixG len es isAgg x i) dst env H k=WPure S.B (rdOp (.ixG len es isAgg x i) env H) dst env H k:=rfl
theorem wi_ixGD (len:Nat)(es:Nat)(isAgg:Bool)(x:AO)(i:AO):WID S fl st (.ixG len es isAgg x i) dst env H k=WPureD S.B (rdOp (.ixG len es isAgg x i) env H) false dst env H k:=rfl
theorem wi_ext (x:AO)(i:Nat):WI S (.ext x i) dst env H k=WPure S.B (rdOp (.ext x i) env H) dst env H k:=rfl
theorem wi_extD (x:AO)(i:Nat):WID S fl st (.ext x i) dst env H k=WPureD S.B (rdOp (.ext x i) env H) false dst env H k:=rfl
theorem wi_len (str:Bool)(x:AO):WI S (.len str x) dst env H k=WPure S.B (rdOp (.len str x) env H) dst env H k:=rfl
theorem wi_lenD (str:Bool)(x:AO):WID S fl st (.len str x) dst env H k=WPureD S.B (rdOp (.len str x) env H) false dst env H k:=rfl
theorem wi_lenK (n:Nat):WI S (.lenK n) dst env H k=WPure S.B (rdOp (.lenK n) env H) dst env H k:=rfl
theorem wi_lenKD (n:Nat):WID S fl st (.lenK n) dst env H k=WPureD S.B (rdOp (.lenK n) env H) false dst env H k:=rfl
theorem wi_call (f:FuncId)(args:List AO):WI S (.call f args) dst env H k=WCl S (clArgs (.call f args) env) dst env H k:=rfl
theorem wi_callD (f:FuncId)(args:List AO):WID S true st (.call f args) dst env H k=WClF S st (clArgs (.call f args) env) dst env H k:=rfl
theorem wi_callE (f:FuncId)(args:List AO):WID S false st (.call f args) dst env H k=WClD S st (clArgs (.call f args) env) dst env H k:=rfl
theorem wi_callv (g:AO)(args:List AO):WI S (.callv g args) dst env H k=WCl S (clArgs (.callv g args) env) dst env H k:=rfl
theorem wi_callvD (g:AO)(args:List AO):WID S true st (.callv g args) dst env H k=WClF S st (clArgs (.callv g args) env) dst env H k:=rfl
theorem wi_callvE (g:AO)(args:List AO):WID S false st (.callv g args) dst env H k=WClD S st (clArgs (.callv g args) env) dst env H k:=rfl
theorem wi_app (es:Nat)(bytes:Nat)(x:AO)(y:AO):WI S (.app es bytes x y) dst env H k=WAct (exOp S.lk S.lim 0 dst (.app es bytes x y) env H) k:=rfl
theorem wi_appD (es:Nat)(bytes:Nat)(x:AO)(y:AO):WID S fl st (.app es bytes x y) dst env H k=WAct (exOp S.lk S.lim 0 dst (.app es bytes x y) env H) k:=rfl
theorem wi_mm (mx:Bool)(args:List AO):WI S (.mm mx args) dst env H k=WPure S.B (rdOp (.mm mx args) env H) dst env H k:=rfl
theorem wi_mmD (mx:Bool)(args:List AO):WID S fl st (.mm mx args) dst env H k=WPureD S.B (rdOp (.mm mx args) env H) false dst env H k:=rfl
theorem wi_mkm:WI S .mkm dst env H k=WMake S.B (mkOp .mkm env H.length) dst env H k:=rfl
theorem wi_mlk (ag:Bool)(ks:List Nat)(z:AV)(ok:Bool)(m:AO)(k2:AO):WI S (.mlk ag ks z ok m k2) dst env H k=WPure S.B (rdOp (.mlk ag ks z ok m k2) env H) dst env H k:=rfl
theorem wi_mlkD (ag:Bool)(ks:List Nat)(z:AV)(ok:Bool)(m:AO)(k2:AO):WID S false st (.mlk ag ks z ok m k2) dst env H k=WPureD S.B (rdOp (.mlk ag ks z ok m k2) env H) false dst env H k:=rfl
theorem wi_mlkR (ag:Bool)(ks:List Nat)(z:AV)(ok:Bool)(m:AO)(k2:AO):WID S true st (.mlk ag ks z ok m k2) dst env H k=(rdTgt (.mlk ag ks z ok m k2) env=none∧WPureD S.B (rdOp (.mlk ag ks z ok m k2) env H) false dst env H k):=rfl
theorem wi_mlen (m:AO):WI S (.mlen m) dst env H k=WPure S.B (rdOp (.mlen m) env H) dst env H k:=rfl
theorem wi_mlenD (m:AO):WID S false st (.mlen m) dst env H k=WPureD S.B (rdOp (.mlen m) env H) false dst env H k:=rfl
theorem wi_mlenR (m:AO):WID S true st (.mlen m) dst env H k=(rdTgt (.mlen m) env=none∧WPureD S.B (rdOp (.mlen m) env H) false dst env H k):=rfl
theorem wi_mup (ag:Bool)(ks:List Nat)(m:AO)(k2:AO)(v:AO):WI S (.mup ag ks m k2 v) dst env H k=WAct (exOp S.lk S.lim 0 dst (.mup ag ks m k2 v) env H) k:=rfl
theorem wi_mupD (ag:Bool)(ks:List Nat)(m:AO)(k2:AO)(v:AO):WID S fl st (.mup ag ks m k2 v) dst env H k=WAct (exOp S.lk S.lim 0 dst (.mup ag ks m k2 v) env H) k:=rfl
end
attribute [simp] WPureD WClF WClD rdTgt
attribute [simp] wi_mv wi_mvD wi_pick wi_pickD wi_allocR wi_allocRD wi_boxR wi_boxRD wi_allocH wi_boxH wi_build wi_buildD
attribute [simp] wi_buildS wi_buildSD wi_buildH wi_ld1L wi_ld1LD wi_ld1 wi_ld1D wi_ld1R wi_ldAL wi_ldALD wi_ldA wi_ldAD
attribute [simp] wi_ldAR wi_stL wi_stLD wi_st wi_stD wi_nilc wi_nilcD wi_bini wi_biniD wi_bins wi_binsD wi_eqb
attribute [simp] wi_eqbD wi_eqp wi_eqpD wi_eqf wi_eqfD wi_eqa wi_eqaD wi_not wi_notD wi_negi wi_negiD wi_xori
attribute [simp] wi_xoriD wi_cvi wi_cviD wi_b2s wi_b2sD wi_b2sR wi_s2b wi_s2bD wi_mkf wi_mkfD wi_mks wi_slS
attribute [simp] wi_slSD wi_slC wi_slCD wi_sl00 wi_sl00D wi_fldA wi_fldAD wi_fld wi_fldD wi_ixA wi_ixAD wi_ixR
attribute [simp] wi_ixRD wi_ixS wi_ixSD wi_ixG wi_ixGD wi_ext wi_extD wi_len wi_lenD wi_lenK wi_lenKD wi_call
attribute [simp] wi_callD wi_callE wi_callv wi_callvD wi_callvE wi_app wi_appD wi_mm wi_mmD wi_mkm wi_mlk wi_mlkD
attribute [simp] wi_mlkR wi_mlen wi_mlenD wi_mlenR wi_mup wi_mupD
end Go.Hm

namespace Go.Hm
open Go

abbrev I (x:Int):AV:=.val (.int .i64 x)
abbrev Bo (b:Bool):AV:=.val (.bool b)
abbrev Sg (l:List UInt8):AV:=.val (.string ⟨⟨l⟩⟩)
def ints (l:List Int):List AV:=l.map I
def bools (l:List Bool):List AV:=l.map Bo
theorem ints_len (l:List Int):(ints l).length=l.length:=by simp[ints]
theorem ints_get (l:List Int)(i:Nat):(ints l)[i]?=l[i]?.map I:=by simp[ints]
theorem bools_len (l:List Bool):(bools l).length=l.length:=by simp[bools]
theorem bools_get (l:List Bool)(i:Nat):(bools l)[i]?=l[i]?.map Bo:=by simp[bools]
theorem bools_set (l:List Bool)(i:Nat)(b:Bool):(bools l).set i (Bo b)=bools (l.set i b):=by simp[bools,List.map_set]
theorem replaceAt_one {cs:List AV}{k:Nat}(v:AV)(h:k<cs.length):replaceAt cs k [v]=cs.set k v:=by
 simp only[replaceAt,List.length_cons,List.length_nil]
 rw[List.set_eq_take_append_cons_drop,if_pos h]
 simp
theorem Sg_get (l:List UInt8)(i:Nat):(⟨⟨l⟩⟩:ByteArray)[i]?=l[i]?:=by
 rw[getElem?_def,getElem?_def]
 rfl

theorem wrapu8 {x:Int}(h1:0≤x)(h2:x≤255):IntKind.u8.wrap x=x:=by
 simp[IntKind.wrap,IntKind.signed,IntKind.bits];omega
theorem wrapu64 {x:Int}(h1:0≤x)(h2:x≤18446744073709551615):IntKind.u64.wrap x=x:=by
 simp[IntKind.wrap,IntKind.signed,IntKind.bits];omega
section
variable {S:Cx}{Q:Ex→Kt}{env:Env}{H:Heap}
def FinT (rs:List ARes)(t:Bool)(H:Heap)(r:AV×Heap):Ex→Kt:=fun x e h=>finish ⟨0,.skip,rs,t⟩ H (some (x,e,h))=some r
theorem finT_ret {rs:List ARes}{t:Bool}{H':Heap}{r:AV×Heap}:FinT rs t H r .ret env H'=(finish ⟨0,.skip,rs,t⟩ H (some (.ret,env,H'))=some r):=rfl
theorem finT_nrm {rs:List ARes}{t:Bool}{H':Heap}{r:AV×Heap}:FinT rs t H r .nrm env H'=(finish ⟨0,.skip,rs,t⟩ H (some (.nrm,env,H'))=some r):=rfl
variable {X:Orc}{A:FuncId→Option AFn}
theorem wb_callB {f:FuncId}{lk lim np:Nat}{args:List AV}{b:AC}{rs:List ARes}{t:Bool}{r:AV×Heap}(B:List Nat)(hX:X lk lim f args H=none)(hA:A f=some ⟨np,b,rs,t⟩)(hl:args.length=np)(ha:args.all argOk=true)
  (h:WB ⟨callW X A,lk,if t then H.length else lim,B⟩ b (FinT rs t H r) (enterFrom 0 args) H):callW X A lk lim f args H=some r:=by
 refine wb_call B hX hA hl ha (wb_mono h fun x e h' hh=>?_)
 exact hh
section
variable {σ:Type}{keep:List Nat}{E:σ→Env}{G:σ→Heap}{inv:σ→Prop}{μ:σ→Nat}{s:σ}
theorem rnd_nrm:Rnd keep E G inv μ s Q .nrm env H=∃s',inv s'∧μ s'<μ s∧restrict keep env=E s'∧H=G s':=rfl
theorem rnd_exit {id:Nat}:Rnd keep E G inv μ s Q (.exit id) env H=Q (.exit id) env H:=rfl
theorem rnd_ret:Rnd keep E G inv μ s Q .ret env H=Q .ret env H:=rfl
end
def Rnd0 (Q:Ex→Kt):Ex→Kt:=fun x e h=>match x with
  | .nrm=>False
  | .exit id=>Q (.exit id) e h
  | .ret=>Q .ret e h
theorem rnd0_exit {id:Nat}:Rnd0 Q (.exit id) env H=Q (.exit id) env H:=rfl
theorem rnd0_ret:Rnd0 Q .ret env H=Q .ret env H:=rfl
theorem wb_loop0 {keep:List Nat}{b:AC}(h:WB S b (Rnd0 Q) (restrict keep env) H):WB S (.loop keep b) Q env H:=by
 refine⟨1,?_⟩
 simp only[itB]
 refine wb_mono h fun x e h hh=>?_
 cases x with
 | nrm=>exact hh.elim
 | exit id=>exact hh
 | ret=>exact hh
end
attribute [simp] rnd0_exit rnd0_ret wb_true wb_false rnd_exit rnd_ret finT_ret finT_nrm wb_regD drawEasy
attribute [simp] wr_nil wr_cons wrd_nil wrd_cons WG WGD WPush WPure WAct WMake WCall WCl memB vOk still
attribute [simp] wb_skip wb_exit wb_ret wb_seq wb_block wb_regN fol_nrm fol_exit fol_ret blk_nrm blk_ret blk_exit Fin finish
theorem frz_val (lim:Nat)(H:Heap)(d:Nat)(v:Value):frz lim H d (.val v)=some (.val v):=by cases d<;>rfl
theorem frz_e0 (lim:Nat)(H:Heap)(d:Nat):frz lim H d .e0=some .e0:=by cases d<;>rfl
theorem frz_sl (lim:Nat)(H:Heap)(d n:Nat)(cs:List AV):frz lim H d (.sl n cs)=some (.sl n cs):=by cases d<;>rfl
attribute [simp] frz frz_val frz_e0 frz_sl mapO below belowL
theorem bel_ints (lim:Nat)(l:List Int):belowL lim (ints l)=true:=by
 induction l with
 | nil=>rfl
 | cons a l ih=>simp only[ints,List.map_cons,belowL,below,Bool.true_and];exact ih
theorem map_frz_ints (lim:Nat)(H:Heap)(d:Nat)(l:List Int):mapO (frz lim H d) (ints l)=some (ints l):=by
 induction l with
 | nil=>rfl
 | cons a l ih=>
  simp only[ints,List.map_cons,mapO,frz_val]at ih ⊢
  rw[ih]

def nts (l:List Nat):List AV:=l.map fun (n:Nat)=>I n
theorem nts_len (l:List Nat):(nts l).length=l.length:=by simp[nts]
theorem bel_nts (lim:Nat)(l:List Nat):belowL lim (nts l)=true:=by
 induction l with
 | nil=>rfl
 | cons a l ih=>simp only[nts,List.map_cons,belowL,below,Bool.true_and];exact ih
theorem map_frz_nts (lim:Nat)(H:Heap)(d:Nat)(l:List Nat):mapO (frz lim H d) (nts l)=some (nts l):=by
 induction l with
 | nil=>rfl
 | cons a l ih=>
  simp only[nts,List.map_cons,mapO,frz_val]at ih ⊢
  rw[ih]
theorem set_last (H:Heap)(x y:HB):(H++[x]).set H.length y=H++[y]:=by simp
theorem bools_ge (l:List Bool)(i:Nat)(h:i<(bools l).length):(bools l)[i]=Bo (l[i]'(by rwa [bools_len]at h)):=by simp[bools]
theorem ints_ge (l:List Int)(i:Nat)(h:i<(ints l).length):(ints l)[i]=I (l[i]'(by rwa [ints_len]at h)):=by simp[ints]
theorem nts_ge (l:List Nat)(i:Nat)(h:i<(nts l).length):(nts l)[i]=I (l[i]'(by rwa [nts_len]at h)):=by simp[nts]
theorem nts_take (l:List Nat)(n:Nat)(h:l.length≤n):(nts l).take n=nts l:=List.take_of_length_le (by rwa [nts_len])
theorem ints_take (l:List Int)(n:Nat)(h:l.length≤n):(ints l).take n=ints l:=List.take_of_length_le (by rwa [ints_len])
theorem not_succ_lt (n:Nat):(n+1<n)=False:=by simp
theorem replaceAt_1 (v w:AV):replaceAt [v] 0 [w]=[w]:=rfl
attribute [simp] nts_ge ints_ge bools_ge nts_len ints_len bools_len nts_take ints_take map_frz_nts map_frz_ints bel_nts bel_ints not_succ_lt replaceAt_1
theorem get_at0 (H l:Heap):(H++l)[H.length]?=l[0]?:=by
 rw[List.getElem?_append_right (Nat.le_refl _),Nat.sub_self]
theorem get_at (H l:Heap)(j:Nat):(H++l)[H.length+j]?=l[j]?:=by
 rw[List.getElem?_append_right (by omega)];congr 1;omega
theorem set_at0 (H l:Heap)(x:HB):(H++l).set H.length x=H++l.set 0 x:=by
 rw[List.set_append_right _ _ (Nat.le_refl _),Nat.sub_self]
theorem set_at (H l:Heap)(j:Nat)(x:HB):(H++l).set (H.length+j) x=H++l.set j x:=by
 rw[List.set_append_right _ _ (by omega)];congr 2;omega
end Go.Hm

namespace Go.Hm
open Go
section
variable {S:Cx}{Q:Ex→Kt}{env:Env}{H:Heap}{k:Kt}
def WMakeM (B:List Nat)(r:Option (AV×HB))(b:Nat)(dst:Option Nat)(env:Env)(H:Heap)(k:Kt):Prop:=match r with
 | some (v,x)=>H[b]?=some .hole∧WPush B dst v env (H.set b x) k
 | none=>False
def WIM (S:Cx)(base:Nat)(i:AI)(env:Env)(H:Heap)(k:Kt):Prop:=match cls i.op with
 | .actL _ | .actH=>WAct (exOp S.lk S.lim 0 i.dst i.op env H) k
 | .make=>WMakeM S.B (mkOp i.op env (base+i.at_)) (base+i.at_) i.dst env H k
 | .call=>False
 | _=>WPureD S.B (rdOp i.op env (H.take base)) (rpOp i.op) i.dst env H k
def WGM (S:Cx)(base:Nat)(g:Option Bool)(i:AI)(env:Env)(H:Heap)(k:Kt):Prop:=match g with
 | some true=>WIM S base i env H k
 | some false=>WPush S.B i.dst .und env H k
 | none=>False
def WRM (S:Cx)(base:Nat):List AI→Kt→Kt
 | [],k,env,H=>k env H
 | i::r,k,env,H=>WGM S base (guardI i env) i env H (WRM S base r k)
theorem wrm_nil {base:Nat}:WRM S base [] k env H=k env H:=rfl
theorem wrm_cons {base:Nat}{i:AI}{r:List AI}:WRM S base (i::r) k env H=WGM S base (guardI i env) i env H (WRM S base r k):=rfl
end
theorem inv_nil (B:List Nat):Inv B []:=fun _ h=>by simp at h
theorem inv_cons2 {B:List Nat}{env:Env}{d:Nat}{v:AV}(h:vOk B d v=true)(hi:Inv B env):Inv B ((d,v)::env):=inv_cons hi h
attribute [simp] wrm_nil wrm_cons WGM WIM WMakeM
end Go.Hm

