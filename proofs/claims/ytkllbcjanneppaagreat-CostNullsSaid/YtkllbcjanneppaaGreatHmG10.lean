/- The machine HM, part 10. -/
import Derived.Test.YtkllbcjanneppaaGreatHmG8
set_option linter.unusedSimpArgs false
set_option linter.unusedVariables false
namespace Go.Hm
open Go
section
variable {S:Cx}{dst:Option Nat}{env:Env}{H:Heap}{k:Kt}{fl st:Bool}
def aJ (B:List Nat)(r:Option AV)(rpo:Bool)(dst:Option Nat)(env:Env)(H:Heap)(k:Kt):Prop:=match r with
 | some v=>(dV v=false∨rpo=true)∧c8 B dst v env H k
 | none=>False
def H5 (S:Cx)(st:Bool)(r:Option (FuncId×List AV))(dst:Option Nat)(env:Env)(H:Heap)(k:Kt):Prop:=match r with
 | some (g,l)=>l.all aO=true∧(match S.C S.lk S.lim g l H with
  | some (v,H')=>dV v=false∧(st=true∨H'.length=H.length)∧c8 S.B dst v env H' k
  | none=>False)
 | none=>False
def H6 (S:Cx)(r:Option (FuncId×List AV))(dst:Option Nat)(env:Env)(H:Heap)(k:Kt):Prop:=match r with
 | some (g,l)=>l.all aO=true∧belowL H.length l=true∧(match S.C H.length S.lim g l H with
  | some (v,H')=>dV v=false∧H'=H∧c8 S.B dst v env H k
  | none=>False)
 | none=>False
theorem Kp (x:AO):WI S (.mv x) dst env H k=a8 S.B (au (.mv x) env H) dst env H k:=rfl
theorem H7 (x:AO):WID S fl st (.mv x) dst env H k=aJ S.B (au (.mv x) env H) true dst env H k:=rfl
theorem Eu (c:AO)(a:AO)(b:AO):WI S (.pick c a b) dst env H k=a8 S.B (au (.pick c a b) env H) dst env H k:=rfl
theorem AY (c:AO)(a:AO)(b:AO):WID S fl st (.pick c a b) dst env H k=aJ S.B (au (.pick c a b) env H) true dst env H k:=rfl
theorem yT (z:List AV):WI S (.allocR z) dst env H k=a8 S.B (au (.allocR z) env H) dst env H k:=rfl
theorem vO (z:List AV):WID S fl st (.allocR z) dst env H k=aJ S.B (au (.allocR z) env H) false dst env H k:=rfl
theorem Ev (n:Nat)(x:AO):WI S (.boxR n x) dst env H k=a8 S.B (au (.boxR n x) env H) dst env H k:=rfl
theorem AZ (n:Nat)(x:AO):WID S fl st (.boxR n x) dst env H k=aJ S.B (au (.boxR n x) env H) false dst env H k:=rfl
theorem yU (z:List AV):WI S (.allocH z) dst env H k=kG S.B (cg (.allocH z) env H.length) dst env H k:=rfl
theorem Ew (n:Nat)(x:AO):WI S (.boxH n x) dst env H k=kG S.B (cg (.boxH n x) env H.length) dst env H k:=rfl
theorem A0 (z:List AV)(parts:List (Nat×Nat×AO)):WI S (.build z parts) dst env H k=a8 S.B (au (.build z parts) env H) dst env H k:=rfl
theorem yV (z:List AV)(parts:List (Nat×Nat×AO)):WID S fl st (.build z parts) dst env H k=aJ S.B (au (.build z parts) env H) false dst env H k:=rfl
theorem yW (n:Nat)(z:List AV)(parts:List (Nat×Nat×AO)):WI S (.buildS n z parts) dst env H k=a8 S.B (au (.buildS n z parts) env H) dst env H k:=rfl
theorem vP (n:Nat)(z:List AV)(parts:List (Nat×Nat×AO)):WID S fl st (.buildS n z parts) dst env H k=aJ S.B (au (.buildS n z parts) env H) false dst env H k:=rfl
theorem yX (n:Nat)(es:Nat)(z:List AV)(parts:List (Nat×Nat×AO)):WI S (.buildH n es z parts) dst env H k=kG S.B (cg (.buildH n es z parts) env H.length) dst env H k:=rfl
theorem Ey (t:Nat)(a:AO):WI S (.ld1 (some t) a) dst env H k=a8 S.B (au (.ld1 (some t) a) env H) dst env H k:=rfl
theorem A1 (t:Nat)(a:AO):WID S fl st (.ld1 (some t) a) dst env H k=aJ S.B (au (.ld1 (some t) a) env H) false dst env H k:=rfl
theorem H8 (a:AO):WI S (.ld1 none a) dst env H k=a8 S.B (au (.ld1 none a) env H) dst env H k:=rfl
theorem Ez (a:AO):WID S false st (.ld1 none a) dst env H k=aJ S.B (au (.ld1 none a) env H) false dst env H k:=rfl
theorem EA (a:AO):WID S true st (.ld1 none a) dst env H k=(bV (.ld1 none a) env=none∧aJ S.B (au (.ld1 none a) env H) false dst env H k):=rfl
theorem EB (t:Nat)(n:Nat)(a:AO):WI S (.ldA (some t) n a) dst env H k=a8 S.B (au (.ldA (some t) n a) env H) dst env H k:=rfl
theorem A2 (t:Nat)(n:Nat)(a:AO):WID S fl st (.ldA (some t) n a) dst env H k=aJ S.B (au (.ldA (some t) n a) env H) false dst env H k:=rfl
theorem H9 (n:Nat)(a:AO):WI S (.ldA none n a) dst env H k=a8 S.B (au (.ldA none n a) env H) dst env H k:=rfl
theorem EC (n:Nat)(a:AO):WID S false st (.ldA none n a) dst env H k=aJ S.B (au (.ldA none n a) env H) false dst env H k:=rfl
theorem ED (n:Nat)(a:AO):WID S true st (.ldA none n a) dst env H k=(bV (.ldA none n a) env=none∧aJ S.B (au (.ldA none n a) env H) false dst env H k):=rfl
theorem a6 (t:Nat)(n:Nat)(a:AO)(x:AO):WI S (.st (some t) n a x) dst env H k=im (b6 S.lk S.lim 0 dst (.st (some t) n a x) env H) k:=rfl
theorem EE (t:Nat)(n:Nat)(a:AO)(x:AO):WID S fl st (.st (some t) n a x) dst env H k=im (b6 S.lk S.lim 0 dst (.st (some t) n a x) env H) k:=rfl
theorem aB (n:Nat)(a:AO)(x:AO):WI S (.st none n a x) dst env H k=im (b6 S.lk S.lim 0 dst (.st none n a x) env H) k:=rfl
theorem lM (n:Nat)(a:AO)(x:AO):WID S fl st (.st none n a x) dst env H k=im (b6 S.lk S.lim 0 dst (.st none n a x) env H) k:=rfl
theorem EF (x:AO):WI S (.nilc x) dst env H k=a8 S.B (au (.nilc x) env H) dst env H k:=rfl
theorem A3 (x:AO):WID S fl st (.nilc x) dst env H k=aJ S.B (au (.nilc x) env H) true dst env H k:=rfl
theorem EG (op:BinOp)(x:AO)(y:AO):WI S (.bini op x y) dst env H k=a8 S.B (au (.bini op x y) env H) dst env H k:=rfl
theorem A4 (op:BinOp)(x:AO)(y:AO):WID S fl st (.bini op x y) dst env H k=aJ S.B (au (.bini op x y) env H) false dst env H k:=rfl
theorem EH (op:BinOp)(x:AO)(y:AO):WI S (.bins op x y) dst env H k=a8 S.B (au (.bins op x y) env H) dst env H k:=rfl
theorem A5 (op:BinOp)(x:AO)(y:AO):WID S fl st (.bins op x y) dst env H k=aJ S.B (au (.bins op x y) env H) false dst env H k:=rfl
theorem Ia (neg:Bool)(x:AO)(y:AO):WI S (.eqb neg x y) dst env H k=a8 S.B (au (.eqb neg x y) env H) dst env H k:=rfl
theorem EI (neg:Bool)(x:AO)(y:AO):WID S fl st (.eqb neg x y) dst env H k=aJ S.B (au (.eqb neg x y) env H) false dst env H k:=rfl
theorem Ib (neg:Bool)(x:AO)(y:AO):WI S (.eqp neg x y) dst env H k=a8 S.B (au (.eqp neg x y) env H) dst env H k:=rfl
theorem EJ (neg:Bool)(x:AO)(y:AO):WID S fl st (.eqp neg x y) dst env H k=aJ S.B (au (.eqp neg x y) env H) false dst env H k:=rfl
theorem Ic (neg:Bool)(x:AO)(y:AO):WI S (.eqf neg x y) dst env H k=a8 S.B (au (.eqf neg x y) env H) dst env H k:=rfl
theorem EK (neg:Bool)(x:AO)(y:AO):WID S fl st (.eqf neg x y) dst env H k=aJ S.B (au (.eqf neg x y) env H) false dst env H k:=rfl
theorem Ie (neg:Bool)(ks:List Nat)(x:AO)(y:AO):WI S (.eqa neg ks x y) dst env H k=a8 S.B (au (.eqa neg ks x y) env H) dst env H k:=rfl
theorem EL (neg:Bool)(ks:List Nat)(x:AO)(y:AO):WID S fl st (.eqa neg ks x y) dst env H k=aJ S.B (au (.eqa neg ks x y) env H) false dst env H k:=rfl
theorem Ig (x:AO):WI S (.not x) dst env H k=a8 S.B (au (.not x) env H) dst env H k:=rfl
theorem EM (x:AO):WID S fl st (.not x) dst env H k=aJ S.B (au (.not x) env H) false dst env H k:=rfl
theorem EN (x:AO):WI S (.negi x) dst env H k=a8 S.B (au (.negi x) env H) dst env H k:=rfl
theorem A6 (x:AO):WID S fl st (.negi x) dst env H k=aJ S.B (au (.negi x) env H) false dst env H k:=rfl
theorem EO (x:AO):WI S (.xori x) dst env H k=a8 S.B (au (.xori x) env H) dst env H k:=rfl
theorem A8 (x:AO):WID S fl st (.xori x) dst env H k=aJ S.B (au (.xori x) env H) false dst env H k:=rfl
theorem Ih (q:IntKind)(x:AO):WI S (.cvi q x) dst env H k=a8 S.B (au (.cvi q x) env H) dst env H k:=rfl
theorem EP (q:IntKind)(x:AO):WID S fl st (.cvi q x) dst env H k=aJ S.B (au (.cvi q x) env H) false dst env H k:=rfl
theorem Ii (x:AO):WI S (.b2s x) dst env H k=a8 S.B (au (.b2s x) env H) dst env H k:=rfl
theorem ER (x:AO):WID S false st (.b2s x) dst env H k=aJ S.B (au (.b2s x) env H) false dst env H k:=rfl
theorem ES (x:AO):WID S true st (.b2s x) dst env H k=(bV (.b2s x) env=none∧aJ S.B (au (.b2s x) env H) false dst env H k):=rfl
theorem Ij (x:AO):WI S (.s2b x) dst env H k=a8 S.B (au (.s2b x) env H) dst env H k:=rfl
theorem ET (x:AO):WID S fl st (.s2b x) dst env H k=aJ S.B (au (.s2b x) env H) false dst env H k:=rfl
theorem Ik (f:FuncId)(caps:List AO):WI S (.mkf f caps) dst env H k=a8 S.B (au (.mkf f caps) env H) dst env H k:=rfl
theorem EU (f:FuncId)(caps:List AO):WID S fl st (.mkf f caps) dst env H k=aJ S.B (au (.mkf f caps) env H) false dst env H k:=rfl
theorem e9 (es:Nat)(bytes:Nat)(z:List AV)(l:AO):WI S (.mks es bytes z l) dst env H k=kG S.B (cg (.mks es bytes z l) env H.length) dst env H k:=rfl
theorem Il (x:AO)(lo:Option AO)(hi:Option AO):WI S (.slS x lo hi) dst env H k=a8 S.B (au (.slS x lo hi) env H) dst env H k:=rfl
theorem EV (x:AO)(lo:Option AO)(hi:Option AO):WID S fl st (.slS x lo hi) dst env H k=aJ S.B (au (.slS x lo hi) env H) false dst env H k:=rfl
theorem Im (es:Nat)(x:AO)(lo:Option AO)(hi:Option AO):WI S (.slC es x lo hi) dst env H k=a8 S.B (au (.slC es x lo hi) env H) dst env H k:=rfl
theorem EW (es:Nat)(x:AO)(lo:Option AO)(hi:Option AO):WID S fl st (.slC es x lo hi) dst env H k=aJ S.B (au (.slC es x lo hi) env H) false dst env H k:=rfl
theorem EX (x:AO):WI S (.sl00 x) dst env H k=a8 S.B (au (.sl00 x) env H) dst env H k:=rfl
theorem Ba (x:AO):WID S fl st (.sl00 x) dst env H k=aJ S.B (au (.sl00 x) env H) false dst env H k:=rfl
theorem EY (off:Nat)(x:AO):WI S (.fldA off x) dst env H k=a8 S.B (au (.fldA off x) env H) dst env H k:=rfl
theorem Bb (off:Nat)(x:AO):WID S fl st (.fldA off x) dst env H k=aJ S.B (au (.fldA off x) env H) true dst env H k:=rfl
theorem Ip (off:Nat)(n:Nat)(isAgg:Bool)(x:AO):WI S (.fld off n isAgg x) dst env H k=a8 S.B (au (.fld off n isAgg x) env H) dst env H k:=rfl
theorem EZ (off:Nat)(n:Nat)(isAgg:Bool)(x:AO):WID S fl st (.fld off n isAgg x) dst env H k=aJ S.B (au (.fld off n isAgg x) env H) false dst env H k:=rfl
theorem Iq (es:Nat)(x:AO)(i:AO):WI S (.ixA es x i) dst env H k=a8 S.B (au (.ixA es x i) env H) dst env H k:=rfl
theorem E0 (es:Nat)(x:AO)(i:AO):WID S fl st (.ixA es x i) dst env H k=aJ S.B (au (.ixA es x i) env H) false dst env H k:=rfl
theorem Ir (len:Nat)(es:Nat)(a:AO)(i:AO):WI S (.ixR len es a i) dst env H k=a8 S.B (au (.ixR len es a i) env H) dst env H k:=rfl
theorem Fa (len:Nat)(es:Nat)(a:AO)(i:AO):WID S fl st (.ixR len es a i) dst env H k=aJ S.B (au (.ixR len es a i) env H) true dst env H k:=rfl
theorem Is (x:AO)(i:AO):WI S (.ixS x i) dst env H k=a8 S.B (au (.ixS x i) env H) dst env H k:=rfl
theorem Fb (x:AO)(i:AO):WID S fl st (.ixS x i) dst env H k=aJ S.B (au (.ixS x i) env H) false dst env H k:=rfl
theorem It (len:Nat)(es:Nat)(isAgg:Bool)(x:AO)(i:AO):WI S (.ixG len es isAgg x i) dst env H k=a8 S.B (au (.ixG len es isAgg x i) env H) dst env H k:=rfl
theorem Fd (len:Nat)(es:Nat)(isAgg:Bool)(x:AO)(i:AO):WID S fl st (.ixG len es isAgg x i) dst env H k=aJ S.B (au (.ixG len es isAgg x i) env H) false dst env H k:=rfl
theorem Iu (x:AO)(i:Nat):WI S (.ext x i) dst env H k=a8 S.B (au (.ext x i) env H) dst env H k:=rfl
theorem Fe (x:AO)(i:Nat):WID S fl st (.ext x i) dst env H k=aJ S.B (au (.ext x i) env H) false dst env H k:=rfl
theorem Iv (str:Bool)(x:AO):WI S (.len str x) dst env H k=a8 S.B (au (.len str x) env H) dst env H k:=rfl
theorem Ff (str:Bool)(x:AO):WID S fl st (.len str x) dst env H k=aJ S.B (au (.len str x) env H) false dst env H k:=rfl
theorem Fg (n:Nat):WI S (.lenK n) dst env H k=a8 S.B (au (.lenK n) env H) dst env H k:=rfl
theorem Bc (n:Nat):WID S fl st (.lenK n) dst env H k=aJ S.B (au (.lenK n) env H) false dst env H k:=rfl
theorem Fh (f:FuncId)(args:List AO):WI S (.call f args) dst env H k=WCl S (bf (.call f args) env) dst env H k:=rfl
theorem Bd (f:FuncId)(args:List AO):WID S true st (.call f args) dst env H k=H5 S st (bf (.call f args) env) dst env H k:=rfl
theorem Be (f:FuncId)(args:List AO):WID S false st (.call f args) dst env H k=H6 S (bf (.call f args) env) dst env H k:=rfl
theorem Bf (g:AO)(args:List AO):WI S (.callv g args) dst env H k=WCl S (bf (.callv g args) env) dst env H k:=rfl
theorem yY (g:AO)(args:List AO):WID S true st (.callv g args) dst env H k=H5 S st (bf (.callv g args) env) dst env H k:=rfl
theorem yZ (g:AO)(args:List AO):WID S false st (.callv g args) dst env H k=H6 S (bf (.callv g args) env) dst env H k:=rfl
theorem og (es:Nat)(bytes:Nat)(x:AO)(y:AO):WI S (.app es bytes x y) dst env H k=im (b6 S.lk S.lim 0 dst (.app es bytes x y) env H) k:=rfl
theorem Fi (es:Nat)(bytes:Nat)(x:AO)(y:AO):WID S fl st (.app es bytes x y) dst env H k=im (b6 S.lk S.lim 0 dst (.app es bytes x y) env H) k:=rfl
theorem Kq (mx:Bool)(args:List AO):WI S (.mm mx args) dst env H k=a8 S.B (au (.mm mx args) env H) dst env H k:=rfl
theorem Iw (mx:Bool)(args:List AO):WID S fl st (.mm mx args) dst env H k=aJ S.B (au (.mm mx args) env H) false dst env H k:=rfl
theorem Ix:WI S .mkm dst env H k=kG S.B (cg .mkm env H.length) dst env H k:=rfl
theorem Iy (ag:Bool)(ks:List Nat)(z:AV)(ok:Bool)(m:AO)(k2:AO):WI S (.mlk ag ks z ok m k2) dst env H k=a8 S.B (au (.mlk ag ks z ok m k2) env H) dst env H k:=rfl
theorem Fj (ag:Bool)(ks:List Nat)(z:AV)(ok:Bool)(m:AO)(k2:AO):WID S false st (.mlk ag ks z ok m k2) dst env H k=aJ S.B (au (.mlk ag ks z ok m k2) env H) false dst env H k:=rfl
theorem Fk (ag:Bool)(ks:List Nat)(z:AV)(ok:Bool)(m:AO)(k2:AO):WID S true st (.mlk ag ks z ok m k2) dst env H k=(bV (.mlk ag ks z ok m k2) env=none∧aJ S.B (au (.mlk ag ks z ok m k2) env H) false dst env H k):=rfl
theorem Fl (m:AO):WI S (.mlen m) dst env H k=a8 S.B (au (.mlen m) env H) dst env H k:=rfl
theorem Bh (m:AO):WID S false st (.mlen m) dst env H k=aJ S.B (au (.mlen m) env H) false dst env H k:=rfl
theorem Bi (m:AO):WID S true st (.mlen m) dst env H k=(bV (.mlen m) env=none∧aJ S.B (au (.mlen m) env H) false dst env H k):=rfl
theorem iG (ag:Bool)(ks:List Nat)(m:AO)(k2:AO)(v:AO):WI S (.mup ag ks m k2 v) dst env H k=im (b6 S.lk S.lim 0 dst (.mup ag ks m k2 v) env H) k:=rfl
theorem Fm (ag:Bool)(ks:List Nat)(m:AO)(k2:AO)(v:AO):WID S fl st (.mup ag ks m k2 v) dst env H k=im (b6 S.lk S.lim 0 dst (.mup ag ks m k2 v) env H) k:=rfl
end
attribute [simp] aJ H5 H6 bV
attribute [simp] Kp H7 Eu AY yT vO Ev AZ yU Ew A0 yV
attribute [simp] yW vP yX Ey A1 H8 Ez EA EB A2 H9 EC
attribute [simp] ED a6 EE aB lM EF A3 EG A4 EH A5 Ia
attribute [simp] EI Ib EJ Ic EK Ie EL Ig EM EN A6 EO
attribute [simp] A8 Ih EP Ii ER ES Ij ET Ik EU e9 Il
attribute [simp] EV Im EW EX Ba EY Bb Ip EZ Iq E0 Ir
attribute [simp] Fa Is Fb It Fd Iu Fe Iv Ff Fg Bc Fh
attribute [simp] Bd Be Bf yY yZ og Fi Kq Iw Ix Iy Fj
attribute [simp] Fk Fl Bh Bi iG Fm
end Go.Hm

namespace Go.Hm
open Go

abbrev I (x:Int):AV:=.val (.int .i64 x)
abbrev Bo (b:Bool):AV:=.val (.bool b)
abbrev Sg (l:List UInt8):AV:=.val (.string ⟨⟨l⟩⟩)
def ints (l:List Int):List AV:=l.map I
def bools (l:List Bool):List AV:=l.map Bo
theorem aY (l:List Int):(ints l).length=l.length:=by simp [ints]
theorem aG (l:List Bool):(bools l).length=l.length:=by simp [bools]
theorem aF (l:List Bool)(i:Nat):(bools l)[i]?=l[i]?.map Bo:=by simp [bools]
theorem cy (l:List Bool)(i:Nat)(b:Bool):(bools l).set i (Bo b)=bools (l.set i b):=by simp [bools,List.map_set]
theorem bd {cs:List AV}{k:Nat}(v:AV)(h:k < cs.length):aj cs k [v]=cs.set k v:=by
 simp only [aj,List.length_cons,List.length_nil];rw [List.set_eq_take_append_cons_drop,if_pos h];simp
theorem cq (l:List UInt8):(⟨⟨l⟩⟩:ByteArray).size=l.length:=rfl
theorem jM (l:List UInt8)(i:Nat):(⟨⟨l⟩⟩:ByteArray)[i]?=l[i]?:=by
 rw [getElem?_def,getElem?_def];rfl

section
variable {S:Cx}{Q:Ex→Kt}{env:Env}{H:Heap}
def rD (rs:List ARes)(t:Bool)(H:Heap)(r:AV×Heap):Ex→Kt:=fun x e h=>ck ⟨0,.skip,rs,t⟩ H (some (x,e,h))=some r
theorem Bj {rs:List ARes}{t:Bool}{H':Heap}{r:AV×Heap}:rD rs t H r .ret env H'=(ck ⟨0,.skip,rs,t⟩ H (some (.ret,env,H'))=some r):=rfl
theorem Bk {rs:List ARes}{t:Bool}{H':Heap}{r:AV×Heap}:rD rs t H r .nrm env H'=(ck ⟨0,.skip,rs,t⟩ H (some (.nrm,env,H'))=some r):=rfl
variable {X:Orc}{A:FuncId→Option AFn}
theorem aq {f:FuncId}{lk lim np:Nat}{args:List AV}{b:AC}{rs:List ARes}{t:Bool}{r:AV×Heap}(B:List Nat)(hX:X lk lim f args H=none)(hA:A f=some ⟨np,b,rs,t⟩)(hl:args.length=np)(ha:args.all aO=true)
  (h:WB ⟨ah X A,lk,if t then H.length else lim,B⟩ b (rD rs t H r) (aZ 0 args) H):ah X A lk lim f args H=some r:=by
 refine Et B hX hA hl ha (cX h fun x e h' hh=>?_);exact hh
section
variable {σ:Type}{keep:List Nat}{E:σ→Env}{G:σ→Heap}{inv:σ→Prop}{μ:σ→Nat}{s:σ}
theorem ao:Rnd keep E G inv μ s Q .nrm env H=∃s',inv s'∧μ s' < μ s∧ab keep env=E s'∧H=G s':=rfl
theorem cP {id:Nat}:Rnd keep E G inv μ s Q (.exit id) env H=Q (.exit id) env H:=rfl
theorem Fo:Rnd keep E G inv μ s Q .ret env H=Q .ret env H:=rfl
end
def Iz (Q:Ex→Kt):Ex→Kt:=fun x e h=>match x with
  | .nrm=>False
  | .exit id=>Q (.exit id) e h
  | .ret=>Q .ret e h
theorem y4 {id:Nat}:Iz Q (.exit id) env H=Q (.exit id) env H:=rfl
theorem Bl:Iz Q .ret env H=Q .ret env H:=rfl
theorem Bn {keep:List Nat}{b:AC}(h:WB S b (Iz Q) (ab keep env) H):WB S (.loop keep b) Q env H:=by
 refine ⟨1,?_⟩;simp only [itB];refine cX h fun x e h hh=>?_;cases x with
 | nrm=>exact hh.elim
 | exit id=>exact hh
 | ret=>exact hh
end
attribute [simp] y4 Bl ai af cP Fo Bj Bk aD cN
attribute [simp] HZ rz Eo oa WG WGD c8 a8 im kG xt WCl rx vOk fE
attribute [simp] aC dn HY an ar ae ak bG Em bi En aI Fin ck
theorem gI (lim:Nat)(H:Heap)(d:Nat)(v:Value):frz lim H d (.val v)=some (.val v):=by cases d<;>rfl
theorem vQ (lim:Nat)(H:Heap)(d:Nat):frz lim H d .e0=some .e0:=by cases d<;>rfl
theorem vR (lim:Nat)(H:Heap)(d n:Nat)(cs:List AV):frz lim H d (.sl n cs)=some (.sl n cs):=by cases d<;>rfl
attribute [simp] frz gI vQ vR eh below belowL
theorem bel_ints (lim:Nat)(l:List Int):belowL lim (ints l)=true:=by
 induction l with
 | nil=>rfl
 | cons a l ih=>simp only [ints,List.map_cons,belowL,below,Bool.true_and];exact ih
theorem rE (lim:Nat)(H:Heap)(d:Nat)(l:List Int):eh (frz lim H d) (ints l)=some (ints l):=by
 induction l with
 | nil=>rfl
 | cons a l ih=>
  simp only [ints,List.map_cons,eh,gI] at ih ⊢;rw [ih]

def nts (l:List Nat):List AV:=l.map fun (n:Nat)=>I n
theorem dI (l:List Nat):(nts l).length=l.length:=by simp [nts]
theorem Fp (l:List Nat)(i:Nat):(nts l)[i]?=l[i]?.map fun (n:Nat)=>I n:=by simp [nts]
theorem Fq (l m:List Nat):nts (l++m)=nts l++nts m:=by simp [nts]
theorem Fs (lim:Nat)(l:List Nat):belowL lim (nts l)=true:=by
 induction l with
 | nil=>rfl
 | cons a l ih=>simp only [nts,List.map_cons,belowL,below,Bool.true_and];exact ih
theorem tO (lim:Nat)(H:Heap)(d:Nat)(l:List Nat):eh (frz lim H d) (nts l)=some (nts l):=by
 induction l with
 | nil=>rfl
 | cons a l ih=>
  simp only [nts,List.map_cons,eh,gI] at ih ⊢;rw [ih]
theorem Bp (l:List Bool)(i:Nat)(h:i < (bools l).length):(bools l)[i]=Bo (l[i]'(by rwa [aG] at h)):=by simp [bools]
theorem Ft (l:List Int)(i:Nat)(h:i < (ints l).length):(ints l)[i]=I (l[i]'(by rwa [aY] at h)):=by simp [ints]
theorem Bq (l:List Nat)(i:Nat)(h:i < (nts l).length):(nts l)[i]=I (l[i]'(by rwa [dI] at h)):=by simp [nts]
theorem Br (l:List Nat)(n:Nat)(h:l.length≤n):(nts l).take n=nts l:=List.take_of_length_le (by rwa [dI])
theorem y5 (l:List Int)(n:Nat)(h:l.length≤n):(ints l).take n=ints l:=List.take_of_length_le (by rwa [aY])
theorem tP (n:Nat):(n+1 < n)=False:=by simp
theorem tQ (v w:AV):aj [v] 0 [w]=[w]:=rfl
attribute [simp] Bq Ft Bp dI aY aG Br y5 tO rE Fs bel_ints tP tQ
theorem get_at0 (H l:Heap):(H++l)[H.length]?=l[0]?:=by
 rw [List.getElem?_append_right (Nat.le_refl _),Nat.sub_self]
theorem get_at (H l:Heap)(j:Nat):(H++l)[H.length+j]?=l[j]?:=by
 rw [List.getElem?_append_right (by omega)];congr 1;omega
theorem Fu (H l:Heap)(x:HB):(H++l).set H.length x=H++l.set 0 x:=by
 rw [List.set_append_right _ _ (Nat.le_refl _),Nat.sub_self]
theorem set_at (H l:Heap)(j:Nat)(x:HB):(H++l).set (H.length+j) x=H++l.set j x:=by
 rw [List.set_append_right _ _ (by omega)];congr 2;omega
theorem take_at (H l:Heap):(H++l).take H.length=H:=by simp
theorem qa {S:Cx}{Q:Ex→Kt}{env:Env}{H:Heap}{keep ps:List Nat}{it:FuncId→List AV→Heap→Option (List (List Value))}{g:AO}{asg body:AC}(l:List (List Value))(G:Nat→Heap→Prop)(env0:Env)(he:ab keep env=env0){f:FuncId}{cap:List AV}
  (hb:ep env0=true) (hf:ev env0 g= .fn f cap) (hi:it f cap H=some l) (hs:l.all (fun x=>x.length==ps.length)=true) (h0:G 0 H)
  (hround:∀i x h,l[i]?=some x→G i h→∃e,ik ps x env0=some e∧WB S asg (Nrm (WB S body (RgE G i Q env0))) e h) (hend:∀h,G l.length h→Q .nrm env0 h):WB S (.rangeF keep it g ps asg body) Q env H:=by
 subst he;refine AU l G ?_ h0 hround hend;unfold i7;rw [if_pos hb,hf];dsimp only;rw [hi];dsimp only;rw [if_pos hs]
theorem xz {k:Kt}{env:Env}{H:Heap}(hb:ep env=true)(h:k env H):Nrm k .nrm env H:=⟨hb,h⟩
theorem xA {G:Nat→Heap→Prop}{i:Nat}{Q:Ex→Kt}{env e:Env}{h:Heap}:RgE G i Q env .nrm e h=G (i+1) h:=rfl
end Go.Hm

namespace Go.Hm
open Go
section
variable {S:Cx}{Q:Ex→Kt}{env:Env}{H:Heap}{k:Kt}
def jN:List AI→Bool
 | []=>true
 | i::r=>(match cls i.op with
  | .call=>false
  | _=>!i.fl)&&jN r
def vS (B:List Nat)(r:Option (AV×HB))(b:Nat)(dst:Option Nat)(env:Env)(H:Heap)(k:Kt):Prop:=match r with
 | some (v,x)=>H[b]?=some .hole∧c8 B dst v env (H.set b x) k
 | none=>False
def WIM (S:Cx)(base:Nat)(i:AI)(env:Env)(H:Heap)(k:Kt):Prop:=match cls i.op with
 | .actL _ | .actH=>im (b6 S.lk S.lim 0 i.dst i.op env H) k
 | .make=>vS S.B (cg i.op env (base+i.at_)) (base+i.at_) i.dst env H k
 | .call=>False
 | _=>aJ S.B (au i.op env (H.take base)) (jB i.op) i.dst env H k
def WGM (S:Cx)(base:Nat)(g:Option Bool)(i:AI)(env:Env)(H:Heap)(k:Kt):Prop:=match g with
 | some true=>WIM S base i env H k
 | some false=>c8 S.B i.dst .und env H k
 | none=>False
def WRM (S:Cx)(base:Nat):List AI→Kt→Kt
 | [],k,env,H=>k env H
 | i::r,k,env,H=>WGM S base (guardI i env) i env H (WRM S base r k)
theorem Fv {base:Nat}:WRM S base [] k env H=k env H:=rfl
theorem tR {base:Nat}{i:AI}{r:List AI}:WRM S base (i::r) k env H=WGM S base (guardI i env) i env H (WRM S base r k):=rfl
theorem lO:∀{l:List AI},jN l=true→l.any (·.fl)=false∧l.any isCall=false
 | [],_=>⟨rfl,rfl⟩
 | i::r,h=>by
  simp only [jN,Bool.and_eq_true] at h;obtain ⟨h1,h2⟩:=lO h.2;have h3:=h.1;rw [List.any_cons,List.any_cons,h1,h2,Bool.or_false,Bool.or_false];rw [pP];split at h3
  ·cases h3
  ·rename_i hc;have h3:i.fl=false:=by simpa using h3
   refine ⟨h3,?_⟩;cases hq:cls i.op<;>first | rfl | exact (hc hq).elim
theorem IA {i:AI}(hfl:i.fl=false):okT (fun _=>false) i env=true:=by
 unfold okT;rw [Bool.and_eq_true,Bool.and_eq_true];refine ⟨⟨?_,?_⟩,by unfold isRow;rw [hfl];rfl⟩
 ·split
  ·rw [hfl];rfl
  ·rfl
 ·split<;>rfl
theorem f5 {base:Nat}:∀{l:List AI} {k:Kt} {env:Env} {H:Heap},jN l=true→WRM S base l k env H→Inv S.B env→∃e h,cI S.C S.lk S.lim (fun _=>false) base l env H=some (e,h)∧k e h∧Inv S.B e
 | [],_,env,H,_,h,hi=>⟨env,H,rfl,h,hi⟩
 | i::r,k,env,H,hd,h,hi=>by
  rw [tR] at h;obtain ⟨hfl,hca⟩:=lO hd;have hfl:i.fl=false:=by simp only [List.any_cons,Bool.or_eq_false_iff] at hfl;exact hfl.1
  have hcr:r.any isCall=false:=by simp only [List.any_cons,Bool.or_eq_false_iff] at hca;exact hca.2
  have hd2:jN r=true:=by simp only [jN,Bool.and_eq_true] at hd;exact hd.2
  have hif:isFree i=false:=by unfold isFree;rw [hfl];rfl
  unfold WGM at h;simp only [cI,cZ,hcr];split at h
  ·rename_i hg;simp only [hg,IA hfl,if_true,hif,Bool.false_eq_true,if_false];unfold WIM at h;unfold eV;split at h;case h_1 | h_2=>
    rename_i hc;rw [hc];unfold im at h;split at h
    ·rename_i e h' he;simp only [he];exact f5 hd2 h (kH hi he)
    ·exact h.elim
   case h_3=>
    rename_i hc;rw [hc];unfold vS at h;split at h
    ·rename_i v x hm;obtain ⟨h0,h⟩:=h;obtain ⟨e,p1,p2,p3⟩:=bM h hi;simp only [hm,h0,p1];exact f5 hd2 p2 p3
    ·exact h.elim
   case h_4=>exact h.elim
   case h_5=>
    rename_i hc1 hc2 hc3 hc4;unfold aJ at h;split at h
    ·rename_i v hv;obtain ⟨h0,h⟩:=h;obtain ⟨e,p1,p2,p3⟩:=bM h hi;simp only [hv];rw [if_pos h0];simp only [p1];exact f5 hd2 p2 p3
    ·exact h.elim
  ·rename_i hg;obtain ⟨e,h1,h2,h3⟩:=bM h hi;simp only [hg,h1];exact f5 hd2 h2 h3
  ·exact h.elim
theorem Fw {keep:List Nat}{m:Nat}{ops:List AI}(hd:jN ops=true)(hm:¬m=0)(hi:Inv S.B (ab keep env))(h:WRM S H.length ops (Q .nrm) (ab keep env) (H++List.replicate m .hole)):WB S (.regD keep m ops) Q env H:=by
 have hws:iq S.lk S.lim H.length ops (ab keep env) (H++List.replicate m .hole)=fun _=>false:=by
  unfold iq;rw [(lO hd).1];rfl
 show (if _ then _ else _);rw [if_neg (fun h=>hm h.1)];obtain ⟨e,h1,h2,h3,h4⟩:=f5 hd h hi;exact ⟨e,h1,by rw [hws];exact h2,h4,h3⟩
end
theorem kJ (B:List Nat):Inv B []:=fun _ h=>by simp at h
theorem bg {B:List Nat}{env:Env}{d:Nat}{v:AV}(h:vOk B d v=true)(hi:Inv B env):Inv B ((d,v)::env):=e8 hi h
attribute [simp] Fv tR WGM WIM vS
end Go.Hm

