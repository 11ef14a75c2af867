/- The machine HM, part 10. -/
import Derived.Test.YtkllbcjanneppaaGreatHmG8
set_option linter.all false
namespace Go.Hm
open Go
section
variable {S:Cx}{dst:Option Nat}{env:Env}{H:Heap}{k:Kt}{fl st:Bool}
def aL (B:List Nat)(r:Option AV)(rpo:Bool)(dst:Option Nat)(env:Env)(H:Heap)(k:Kt):Prop:=match r with
 | some v=>(eo v=false\/rpo=true)/\dr B dst v env H k
 | none=>False
def K3 (S:Cx)(st:Bool)(r:Option (FuncId×List AV))(dst:Option Nat)(env:Env)(H:Heap)(k:Kt):Prop:=match r with
 | some (g,l)=>l.all a7=true/\(match S.C S.lk S.lim g l H with
  | some (v,H')=>eo v=false/\(st=true\/H'.length=H.length)/\dr S.B dst v env H' k
  | none=>False)
 | none=>False
def K4 (S:Cx)(r:Option (FuncId×List AV))(dst:Option Nat)(env:Env)(H:Heap)(k:Kt):Prop:=match r with
 | some (g,l)=>l.all a7=true/\belowL H.length l=true/\(match S.C H.length S.lim g l H with
  | some (v,H')=>eo v=false/\H'=H/\dr S.B dst v env H k
  | none=>False)
 | none=>False
theorem Nm (x:AO):WI S (.mv x) dst env H k=bf S.B (aw (.mv x) env H) dst env H k:=rfl
theorem K5 (x:AO):WID S fl st (.mv x) dst env H k=aL S.B (aw (.mv x) env H) true dst env H k:=rfl
theorem Ht (c:AO)(a:AO)(b:AO):WI S (.pick c a b) dst env H k=bf S.B (aw (.pick c a b) env H) dst env H k:=rfl
theorem Dw (c:AO)(a:AO)(b:AO):WID S fl st (.pick c a b) dst env H k=aL S.B (aw (.pick c a b) env H) true dst env H k:=rfl
theorem BD (z:List AV):WI S (.allocR z) dst env H k=bf S.B (aw (.allocR z) env H) dst env H k:=rfl
theorem yb (z:List AV):WID S fl st (.allocR z) dst env H k=aL S.B (aw (.allocR z) env H) false dst env H k:=rfl
theorem Hu (n:Nat)(x:AO):WI S (.boxR n x) dst env H k=bf S.B (aw (.boxR n x) env H) dst env H k:=rfl
theorem Dx (n:Nat)(x:AO):WID S fl st (.boxR n x) dst env H k=aL S.B (aw (.boxR n x) env H) false dst env H k:=rfl
theorem BE (z:List AV):WI S (.allocH z) dst env H k=l7 S.B (cA (.allocH z) env H.length) dst env H k:=rfl
theorem Hv (n:Nat)(x:AO):WI S (.boxH n x) dst env H k=l7 S.B (cA (.boxH n x) env H.length) dst env H k:=rfl
theorem Dy (z:List AV)(parts:List (Nat×Nat×AO)):WI S (.build z parts) dst env H k=bf S.B (aw (.build z parts) env H) dst env H k:=rfl
theorem BF (z:List AV)(parts:List (Nat×Nat×AO)):WID S fl st (.build z parts) dst env H k=aL S.B (aw (.build z parts) env H) false dst env H k:=rfl
theorem BG (n:Nat)(z:List AV)(parts:List (Nat×Nat×AO)):WI S (.buildS n z parts) dst env H k=bf S.B (aw (.buildS n z parts) env H) dst env H k:=rfl
theorem yc (n:Nat)(z:List AV)(parts:List (Nat×Nat×AO)):WID S fl st (.buildS n z parts) dst env H k=aL S.B (aw (.buildS n z parts) env H) false dst env H k:=rfl
theorem BH (n:Nat)(es:Nat)(z:List AV)(parts:List (Nat×Nat×AO)):WI S (.buildH n es z parts) dst env H k=l7 S.B (cA (.buildH n es z parts) env H.length) dst env H k:=rfl
theorem Hw (t:Nat)(a:AO):WI S (.ld1 (some t) a) dst env H k=bf S.B (aw (.ld1 (some t) a) env H) dst env H k:=rfl
theorem Dz (t:Nat)(a:AO):WID S fl st (.ld1 (some t) a) dst env H k=aL S.B (aw (.ld1 (some t) a) env H) false dst env H k:=rfl
theorem K6 (a:AO):WI S (.ld1 none a) dst env H k=bf S.B (aw (.ld1 none a) env H) dst env H k:=rfl
theorem Hz (a:AO):WID S false st (.ld1 none a) dst env H k=aL S.B (aw (.ld1 none a) env H) false dst env H k:=rfl
theorem HA (a:AO):WID S true st (.ld1 none a) dst env H k=(b9 (.ld1 none a) env=none/\aL S.B (aw (.ld1 none a) env H) false dst env H k):=rfl
theorem HC (t:Nat)(n:Nat)(a:AO):WI S (.ldA (some t) n a) dst env H k=bf S.B (aw (.ldA (some t) n a) env H) dst env H k:=rfl
theorem DA (t:Nat)(n:Nat)(a:AO):WID S fl st (.ldA (some t) n a) dst env H k=aL S.B (aw (.ldA (some t) n a) env H) false dst env H k:=rfl
theorem K7 (n:Nat)(a:AO):WI S (.ldA none n a) dst env H k=bf S.B (aw (.ldA none n a) env H) dst env H k:=rfl
theorem HD (n:Nat)(a:AO):WID S false st (.ldA none n a) dst env H k=aL S.B (aw (.ldA none n a) env H) false dst env H k:=rfl
theorem HE (n:Nat)(a:AO):WID S true st (.ldA none n a) dst env H k=(b9 (.ldA none n a) env=none/\aL S.B (aw (.ldA none n a) env H) false dst env H k):=rfl
theorem bd (t:Nat)(n:Nat)(a:AO)(x:AO):WI S (.st (some t) n a x) dst env H k=jc (cr S.lk S.lim 0 dst (.st (some t) n a x) env H) k:=rfl
theorem HF (t:Nat)(n:Nat)(a:AO)(x:AO):WID S fl st (.st (some t) n a x) dst env H k=jc (cr S.lk S.lim 0 dst (.st (some t) n a x) env H) k:=rfl
theorem aE (n:Nat)(a:AO)(x:AO):WI S (.st none n a x) dst env H k=jc (cr S.lk S.lim 0 dst (.st none n a x) env H) k:=rfl
theorem nu (n:Nat)(a:AO)(x:AO):WID S fl st (.st none n a x) dst env H k=jc (cr S.lk S.lim 0 dst (.st none n a x) env H) k:=rfl
theorem HG (x:AO):WI S (.nilc x) dst env H k=bf S.B (aw (.nilc x) env H) dst env H k:=rfl
theorem DB (x:AO):WID S fl st (.nilc x) dst env H k=aL S.B (aw (.nilc x) env H) true dst env H k:=rfl
theorem HI (op:BinOp)(x:AO)(y:AO):WI S (.bini op x y) dst env H k=bf S.B (aw (.bini op x y) env H) dst env H k:=rfl
theorem DC (op:BinOp)(x:AO)(y:AO):WID S fl st (.bini op x y) dst env H k=aL S.B (aw (.bini op x y) env H) false dst env H k:=rfl
theorem HJ (op:BinOp)(x:AO)(y:AO):WI S (.bins op x y) dst env H k=bf S.B (aw (.bins op x y) env H) dst env H k:=rfl
theorem DD (op:BinOp)(x:AO)(y:AO):WID S fl st (.bins op x y) dst env H k=aL S.B (aw (.bins op x y) env H) false dst env H k:=rfl
theorem K8 (neg:Bool)(x:AO)(y:AO):WI S (.eqb neg x y) dst env H k=bf S.B (aw (.eqb neg x y) env H) dst env H k:=rfl
theorem HK (neg:Bool)(x:AO)(y:AO):WID S fl st (.eqb neg x y) dst env H k=aL S.B (aw (.eqb neg x y) env H) false dst env H k:=rfl
theorem K9 (neg:Bool)(x:AO)(y:AO):WI S (.eqp neg x y) dst env H k=bf S.B (aw (.eqp neg x y) env H) dst env H k:=rfl
theorem HL (neg:Bool)(x:AO)(y:AO):WID S fl st (.eqp neg x y) dst env H k=aL S.B (aw (.eqp neg x y) env H) false dst env H k:=rfl
theorem La (neg:Bool)(x:AO)(y:AO):WI S (.eqf neg x y) dst env H k=bf S.B (aw (.eqf neg x y) env H) dst env H k:=rfl
theorem HN (neg:Bool)(x:AO)(y:AO):WID S fl st (.eqf neg x y) dst env H k=aL S.B (aw (.eqf neg x y) env H) false dst env H k:=rfl
theorem Lb (neg:Bool)(ks:List Nat)(x:AO)(y:AO):WI S (.eqa neg ks x y) dst env H k=bf S.B (aw (.eqa neg ks x y) env H) dst env H k:=rfl
theorem HO (neg:Bool)(ks:List Nat)(x:AO)(y:AO):WID S fl st (.eqa neg ks x y) dst env H k=aL S.B (aw (.eqa neg ks x y) env H) false dst env H k:=rfl
theorem Lc (x:AO):WI S (.not x) dst env H k=bf S.B (aw (.not x) env H) dst env H k:=rfl
theorem HP (x:AO):WID S fl st (.not x) dst env H k=aL S.B (aw (.not x) env H) false dst env H k:=rfl
theorem HQ (x:AO):WI S (.negi x) dst env H k=bf S.B (aw (.negi x) env H) dst env H k:=rfl
theorem DE (x:AO):WID S fl st (.negi x) dst env H k=aL S.B (aw (.negi x) env H) false dst env H k:=rfl
theorem HR (x:AO):WI S (.xori x) dst env H k=bf S.B (aw (.xori x) env H) dst env H k:=rfl
theorem DF (x:AO):WID S fl st (.xori x) dst env H k=aL S.B (aw (.xori x) env H) false dst env H k:=rfl
theorem Ld (q:IntKind)(x:AO):WI S (.cvi q x) dst env H k=bf S.B (aw (.cvi q x) env H) dst env H k:=rfl
theorem HS (q:IntKind)(x:AO):WID S fl st (.cvi q x) dst env H k=aL S.B (aw (.cvi q x) env H) false dst env H k:=rfl
theorem Lf (x:AO):WI S (.b2s x) dst env H k=bf S.B (aw (.b2s x) env H) dst env H k:=rfl
theorem HT (x:AO):WID S false st (.b2s x) dst env H k=aL S.B (aw (.b2s x) env H) false dst env H k:=rfl
theorem HU (x:AO):WID S true st (.b2s x) dst env H k=(b9 (.b2s x) env=none/\aL S.B (aw (.b2s x) env H) false dst env H k):=rfl
theorem Lg (x:AO):WI S (.s2b x) dst env H k=bf S.B (aw (.s2b x) env H) dst env H k:=rfl
theorem HV (x:AO):WID S fl st (.s2b x) dst env H k=aL S.B (aw (.s2b x) env H) false dst env H k:=rfl
theorem Lh (f:FuncId)(caps:List AO):WI S (.mkf f caps) dst env H k=bf S.B (aw (.mkf f caps) env H) dst env H k:=rfl
theorem HW (f:FuncId)(caps:List AO):WID S fl st (.mkf f caps) dst env H k=aL S.B (aw (.mkf f caps) env H) false dst env H k:=rfl
theorem fN (es:Nat)(bytes:Nat)(z:List AV)(l:AO):WI S (.mks es bytes z l) dst env H k=l7 S.B (cA (.mks es bytes z l) env H.length) dst env H k:=rfl
theorem Li (x:AO)(lo:Option AO)(hi:Option AO):WI S (.slS x lo hi) dst env H k=bf S.B (aw (.slS x lo hi) env H) dst env H k:=rfl
theorem HX (x:AO)(lo:Option AO)(hi:Option AO):WID S fl st (.slS x lo hi) dst env H k=aL S.B (aw (.slS x lo hi) env H) false dst env H k:=rfl
theorem Lj (es:Nat)(x:AO)(lo:Option AO)(hi:Option AO):WI S (.slC es x lo hi) dst env H k=bf S.B (aw (.slC es x lo hi) env H) dst env H k:=rfl
theorem HY (es:Nat)(x:AO)(lo:Option AO)(hi:Option AO):WID S fl st (.slC es x lo hi) dst env H k=aL S.B (aw (.slC es x lo hi) env H) false dst env H k:=rfl
theorem HZ (x:AO):WI S (.sl00 x) dst env H k=bf S.B (aw (.sl00 x) env H) dst env H k:=rfl
theorem DG (x:AO):WID S fl st (.sl00 x) dst env H k=aL S.B (aw (.sl00 x) env H) false dst env H k:=rfl
theorem H5 (off:Nat)(x:AO):WI S (.fldA off x) dst env H k=bf S.B (aw (.fldA off x) env H) dst env H k:=rfl
theorem DI (off:Nat)(x:AO):WID S fl st (.fldA off x) dst env H k=aL S.B (aw (.fldA off x) env H) true dst env H k:=rfl
theorem Lk (off:Nat)(n:Nat)(isAgg:Bool)(x:AO):WI S (.fld off n isAgg x) dst env H k=bf S.B (aw (.fld off n isAgg x) env H) dst env H k:=rfl
theorem H6 (off:Nat)(n:Nat)(isAgg:Bool)(x:AO):WID S fl st (.fld off n isAgg x) dst env H k=aL S.B (aw (.fld off n isAgg x) env H) false dst env H k:=rfl
theorem Ll (es:Nat)(x:AO)(i:AO):WI S (.ixA es x i) dst env H k=bf S.B (aw (.ixA es x i) env H) dst env H k:=rfl
theorem H7 (es:Nat)(x:AO)(i:AO):WID S fl st (.ixA es x i) dst env H k=aL S.B (aw (.ixA es x i) env H) false dst env H k:=rfl
theorem Lm (len:Nat)(es:Nat)(a:AO)(i:AO):WI S (.ixR len es a i) dst env H k=bf S.B (aw (.ixR len es a i) env H) dst env H k:=rfl
theorem H8 (len:Nat)(es:Nat)(a:AO)(i:AO):WID S fl st (.ixR len es a i) dst env H k=aL S.B (aw (.ixR len es a i) env H) true dst env H k:=rfl
theorem Ln (x:AO)(i:AO):WI S (.ixS x i) dst env H k=bf S.B (aw (.ixS x i) env H) dst env H k:=rfl
theorem H9 (x:AO)(i:AO):WID S fl st (.ixS x i) dst env H k=aL S.B (aw (.ixS x i) env H) false dst env H k:=rfl
theorem Lo (len:Nat)(es:Nat)(isAgg:Bool)(x:AO)(i:AO):WI S (.ixG len es isAgg x i) dst env H k=bf S.B (aw (.ixG len es isAgg x i) env H) dst env H k:=rfl
theorem Ia (len:Nat)(es:Nat)(isAgg:Bool)(x:AO)(i:AO):WID S fl st (.ixG len es isAgg x i) dst env H k=aL S.B (aw (.ixG len es isAgg x i) env H) false dst env H k:=rfl
theorem Lp (x:AO)(i:Nat):WI S (.ext x i) dst env H k=bf S.B (aw (.ext x i) env H) dst env H k:=rfl
theorem Ib (x:AO)(i:Nat):WID S fl st (.ext x i) dst env H k=aL S.B (aw (.ext x i) env H) false dst env H k:=rfl
theorem Lq (str:Bool)(x:AO):WI S (.len str x) dst env H k=bf S.B (aw (.len str x) env H) dst env H k:=rfl
theorem Ic (str:Bool)(x:AO):WID S fl st (.len str x) dst env H k=aL S.B (aw (.len str x) env H) false dst env H k:=rfl
theorem Ie (n:Nat):WI S (.lenK n) dst env H k=bf S.B (aw (.lenK n) env H) dst env H k:=rfl
theorem DJ (n:Nat):WID S fl st (.lenK n) dst env H k=aL S.B (aw (.lenK n) env H) false dst env H k:=rfl
theorem Ig (f:FuncId)(args:List AO):WI S (.call f args) dst env H k=WCl S (bj (.call f args) env) dst env H k:=rfl
theorem DK (f:FuncId)(args:List AO):WID S true st (.call f args) dst env H k=K3 S st (bj (.call f args) env) dst env H k:=rfl
theorem DL (f:FuncId)(args:List AO):WID S false st (.call f args) dst env H k=K4 S (bj (.call f args) env) dst env H k:=rfl
theorem DN (g:AO)(args:List AO):WI S (.callv g args) dst env H k=WCl S (bj (.callv g args) env) dst env H k:=rfl
theorem BI (g:AO)(args:List AO):WID S true st (.callv g args) dst env H k=K3 S st (bj (.callv g args) env) dst env H k:=rfl
theorem BJ (g:AO)(args:List AO):WID S false st (.callv g args) dst env H k=K4 S (bj (.callv g args) env) dst env H k:=rfl
theorem qk (es:Nat)(bytes:Nat)(x:AO)(y:AO):WI S (.app es bytes x y) dst env H k=jc (cr S.lk S.lim 0 dst (.app es bytes x y) env H) k:=rfl
theorem Ih (es:Nat)(bytes:Nat)(x:AO)(y:AO):WID S fl st (.app es bytes x y) dst env H k=jc (cr S.lk S.lim 0 dst (.app es bytes x y) env H) k:=rfl
theorem Nn (mx:Bool)(args:List AO):WI S (.mm mx args) dst env H k=bf S.B (aw (.mm mx args) env H) dst env H k:=rfl
theorem Lr (mx:Bool)(args:List AO):WID S fl st (.mm mx args) dst env H k=aL S.B (aw (.mm mx args) env H) false dst env H k:=rfl
theorem Ls:WI S .mkm dst env H k=l7 S.B (cA .mkm env H.length) dst env H k:=rfl
theorem Lu (ag:Bool)(ks:List Nat)(z:AV)(ok:Bool)(m:AO)(k2:AO):WI S (.mlk ag ks z ok m k2) dst env H k=bf S.B (aw (.mlk ag ks z ok m k2) env H) dst env H k:=rfl
theorem Ii (ag:Bool)(ks:List Nat)(z:AV)(ok:Bool)(m:AO)(k2:AO):WID S false st (.mlk ag ks z ok m k2) dst env H k=aL S.B (aw (.mlk ag ks z ok m k2) env H) false dst env H k:=rfl
theorem Ij (ag:Bool)(ks:List Nat)(z:AV)(ok:Bool)(m:AO)(k2:AO):WID S true st (.mlk ag ks z ok m k2) dst env H k=(b9 (.mlk ag ks z ok m k2) env=none/\aL S.B (aw (.mlk ag ks z ok m k2) env H) false dst env H k):=rfl
theorem Ik (m:AO):WI S (.mlen m) dst env H k=bf S.B (aw (.mlen m) env H) dst env H k:=rfl
theorem DP (m:AO):WID S false st (.mlen m) dst env H k=aL S.B (aw (.mlen m) env H) false dst env H k:=rfl
theorem DQ (m:AO):WID S true st (.mlen m) dst env H k=(b9 (.mlen m) env=none/\aL S.B (aw (.mlen m) env H) false dst env H k):=rfl
theorem jq (ag:Bool)(ks:List Nat)(m:AO)(k2:AO)(v:AO):WI S (.mup ag ks m k2 v) dst env H k=jc (cr S.lk S.lim 0 dst (.mup ag ks m k2 v) env H) k:=rfl
theorem Il (ag:Bool)(ks:List Nat)(m:AO)(k2:AO)(v:AO):WID S fl st (.mup ag ks m k2 v) dst env H k=jc (cr S.lk S.lim 0 dst (.mup ag ks m k2 v) env H) k:=rfl
end
attribute [simp] aL K3 K4 b9
attribute [simp] Nm K5 Ht Dw BD yb Hu Dx BE Hv Dy BF
attribute [simp] BG yc BH Hw Dz K6 Hz HA HC DA K7 HD
attribute [simp] HE bd HF aE nu HG DB HI DC HJ DD K8
attribute [simp] HK K9 HL La HN Lb HO Lc HP HQ DE HR
attribute [simp] DF Ld HS Lf HT HU Lg HV Lh HW fN Li
attribute [simp] HX Lj HY HZ DG H5 DI Lk H6 Ll H7 Lm
attribute [simp] H8 Ln H9 Lo Ia Lp Ib Lq Ic Ie DJ Ig
attribute [simp] DK DL DN BI BJ qk Ih Nn Lr Ls Lu Ii
attribute [simp] Ij Ik DP DQ jq Il

abbrev I (x:Int):AV:=.val (.int .i64 x)
abbrev Bo (b:Bool):AV:=.val (.bool b)
abbrev Sg (l:List UInt8):AV:=.val (.string ⟨⟨l⟩⟩)
def ints (l:List Int):List AV:=l.map I
def bools (l:List Bool):List AV:=l.map Bo
theorem aV (l:List Int):(ints l).length=l.length:=by simp[ints]
theorem aH (l:List Bool):(bools l).length=l.length:=by simp[bools]
theorem aF (l:List Bool)(i:Nat):(bools l)[i]?=l[i]?.map Bo:=by simp[bools]
theorem cJ (l:List Bool)(i:Nat)(b:Bool):(bools l).set i (Bo b)=bools (l.set i b):=by simp[bools,List.map_set]
theorem bg {cs:List AV}{k:Nat}(v:AV)(h:k<cs.length):an cs k [v]=cs.set k v:=by
 simp only[an,List.length_cons,List.length_nil];rw[List.set_eq_take_append_cons_drop,if_pos h];simp
theorem bo (l:List UInt8):(⟨⟨l⟩⟩:ByteArray).size=l.length:=rfl
theorem ln (l:List UInt8)(i:Nat):(⟨⟨l⟩⟩:ByteArray)[i]?=l[i]?:=by
 rw[getElem?_def,getElem?_def];rfl

section
variable {S:Cx}{Q:Ex->Kt}{env:Env}{H:Heap}
def oO (rs:List ARes)(t:Bool)(H:Heap)(r:AV×Heap):Ex->Kt:=fun x e h=>cB ⟨0,.skip,rs,t⟩ H (some (x,e,h))=some r
theorem DR {rs:List ARes}{t:Bool}{H':Heap}{r:AV×Heap}:oO rs t H r .ret env H'=(cB ⟨0,.skip,rs,t⟩ H (some (.ret,env,H'))=some r):=rfl
theorem DS {rs:List ARes}{t:Bool}{H':Heap}{r:AV×Heap}:oO rs t H r .nrm env H'=(cB ⟨0,.skip,rs,t⟩ H (some (.nrm,env,H'))=some r):=rfl
variable {X:Orc}{A:FuncId->Option AFn}
theorem ar {f:FuncId}{lk lim np:Nat}{args:List AV}{b:AC}{rs:List ARes}{t:Bool}{r:AV×Heap}(B:List Nat)(hX:X lk lim f args H=none)(hA:A f=some ⟨np,b,rs,t⟩)(hl:args.length=np)(ha:args.all a7=true)
  (h:WB ⟨aj X A,lk,if t then H.length else lim,B⟩ b (oO rs t H r) (aP 0 args) H):aj X A lk lim f args H=some r:=by
 refine Hs B hX hA hl ha (dk h fun x e h' hh=>?_);exact hh
section
variable {σ:Type}{keep:List Nat}{E:σ->Env}{G:σ->Heap}{inv:σ->Prop}{μ:σ->Nat}{s:σ}
theorem ao:Rnd keep E G inv μ s Q .nrm env H=∃s',inv s'/\μ s'<μ s/\ab keep env=E s'/\H=G s':=rfl
theorem bQ {id:Nat}:Rnd keep E G inv μ s Q (.exit id) env H=Q (.exit id) env H:=rfl
theorem Im:Rnd keep E G inv μ s Q .ret env H=Q .ret env H:=rfl
end
def Lv (Q:Ex->Kt):Ex->Kt:=fun x e h=>match x with
  | .nrm=>False
  | .exit id=>Q (.exit id) e h
  | .ret=>Q .ret e h
theorem BK {id:Nat}:Lv Q (.exit id) env H=Q (.exit id) env H:=rfl
theorem DT:Lv Q .ret env H=Q .ret env H:=rfl
theorem DU {keep:List Nat}{b:AC}(h:WB S b (Lv Q) (ab keep env) H):WB S (.loop keep b) Q env H:=by
 refine⟨1,?_⟩;simp only[itB];refine dk h fun x e h hh=>?_;cases x with
 | nrm=>exact hh.elim
 | exit id=>exact hh
 | ret=>exact hh
end
attribute [simp] BK DT ak af bQ Im DR DS aB df
attribute [simp] K1 tR Ho qg WG WGD dr bf jc l7 zG WCl tO vOk gB
attribute [simp] aA bT tQ ai ap ae ah a8 zH a6 Hn aG Fin cB
theorem gC (lim:Nat)(H:Heap)(d:Nat)(v:Value):frz lim H d (.val v)=some (.val v):=by cases d<;>rfl
theorem tV (lim:Nat)(H:Heap)(d:Nat):frz lim H d .e0=some .e0:=by cases d<;>rfl
theorem tW (lim:Nat)(H:Heap)(d n:Nat)(cs:List AV):frz lim H d (.sl n cs)=some (.sl n cs):=by cases d<;>rfl
attribute [simp] frz gC tV tW ep below belowL
theorem bel_ints (lim:Nat)(l:List Int):belowL lim (ints l)=true:=by
 induction l with
 | nil=>rfl
 | cons a l ih=>simp only[ints,List.map_cons,belowL,below,Bool.true_and];exact ih
theorem tX (lim:Nat)(H:Heap)(d:Nat)(l:List Int):ep (frz lim H d) (ints l)=some (ints l):=by
 induction l with
 | nil=>rfl
 | cons a l ih=>
  simp only[ints,List.map_cons,ep,gC]at ih |-;rw[ih]

def nts (l:List Nat):List AV:=l.map fun (n:Nat)=>I n
theorem dW (l:List Nat):(nts l).length=l.length:=by simp[nts]
theorem Ip (l:List Nat)(i:Nat):(nts l)[i]?=l[i]?.map fun (n:Nat)=>I n:=by simp[nts]
theorem Iq (l m:List Nat):nts (l++m)=nts l++nts m:=by simp[nts]
theorem Ir (lim:Nat)(l:List Nat):belowL lim (nts l)=true:=by
 induction l with
 | nil=>rfl
 | cons a l ih=>simp only[nts,List.map_cons,belowL,below,Bool.true_and];exact ih
theorem vS (lim:Nat)(H:Heap)(d:Nat)(l:List Nat):ep (frz lim H d) (nts l)=some (nts l):=by
 induction l with
 | nil=>rfl
 | cons a l ih=>
  simp only[nts,List.map_cons,ep,gC]at ih |-;rw[ih]
theorem DV (l:List Bool)(i:Nat)(h:i<(bools l).length):(bools l)[i]=Bo (l[i]'(by rwa [aH]at h)):=by simp[bools]
theorem Is (l:List Int)(i:Nat)(h:i<(ints l).length):(ints l)[i]=I (l[i]'(by rwa [aV]at h)):=by simp[ints]
theorem yd (l:List Nat)(i:Nat)(h:i<(nts l).length):(nts l)[i]=I (l[i]'(by rwa [dW]at h)):=by simp[nts]
theorem DW (l:List Nat)(n:Nat)(h:l.length<=n):(nts l).take n=nts l:=List.take_of_length_le (by rwa [dW])
theorem BL (l:List Int)(n:Nat)(h:l.length<=n):(ints l).take n=ints l:=List.take_of_length_le (by rwa [aV])
theorem vT (n:Nat):(n+1<n)=False:=by simp
theorem vU (v w:AV):an [v] 0 [w]=[w]:=rfl
attribute [simp] yd Is DV dW aV aH DW BL vS tX Ir bel_ints vT vU
theorem get_at0 (H l:Heap):(H++l)[H.length]?=l[0]?:=by
 rw[List.getElem?_append_right (Nat.le_refl _),Nat.sub_self]
theorem get_at (H l:Heap)(j:Nat):(H++l)[H.length+j]?=l[j]?:=by
 rw[List.getElem?_append_right (by omega)];congr 1;omega
theorem It (H l:Heap)(x:HB):(H++l).set H.length x=H++l.set 0 x:=by
 rw[List.set_append_right _ _ (Nat.le_refl _),Nat.sub_self]
theorem set_at (H l:Heap)(j:Nat)(x:HB):(H++l).set (H.length+j) x=H++l.set j x:=by
 rw[List.set_append_right _ _ (by omega)];congr 2;omega
theorem take_at (H l:Heap):(H++l).take H.length=H:=by simp
theorem sj {S:Cx}{Q:Ex->Kt}{env:Env}{H:Heap}{keep ps:List Nat}{it:FuncId->List AV->Heap->Option (List (List Value))}{g:AO}{asg body:AC}(l:List (List Value))(G:Nat->Heap->Prop)(env0:Env)(he:ab keep env=env0){f:FuncId}{cap:List AV}
  (hb:eT env0=true) (hf:ev env0 g= .fn f cap) (hi:it f cap H=some l) (hs:l.all (fun x=>x.length==ps.length)=true) (h0:G 0 H)
  (hround:∀i x h,l[i]?=some x->G i h->∃e,ja ps x env0=some e/\WB S asg (Nrm (WB S body (RgE G i Q env0))) e h) (hend:∀h,G l.length h->Q .nrm env0 h):WB S (.rangeF keep it g ps asg body) Q env H:=by
 subst he;refine Dt l G ?_ h0 hround hend;unfold jP;rw[if_pos hb,hf];dsimp only;rw[hi];dsimp only;rw[if_pos hs]
theorem zP {k:Kt}{env:Env}{H:Heap}(hb:eT env=true)(h:k env H):Nrm k .nrm env H:=⟨hb,h⟩
theorem zQ {G:Nat->Heap->Prop}{i:Nat}{Q:Ex->Kt}{env e:Env}{h:Heap}:RgE G i Q env .nrm e h=G (i+1) h:=rfl
section
variable {S:Cx}{Q:Ex->Kt}{env:Env}{H:Heap}{k:Kt}
def lq:List AI->Bool
 | []=>true
 | i::r=>(match cls i.op with
  | .call=>false
  | _=>!i.fl)&&lq r
def ye (B:List Nat)(r:Option (AV×HB))(b:Nat)(dst:Option Nat)(env:Env)(H:Heap)(k:Kt):Prop:=match r with
 | some (v,x)=>H[b]?=some .hole/\dr B dst v env (H.set b x) k
 | none=>False
def WIM (S:Cx)(base:Nat)(i:AI)(env:Env)(H:Heap)(k:Kt):Prop:=match cls i.op with
 | .actL _ | .actH=>jc (cr S.lk S.lim 0 i.dst i.op env H) k
 | .make=>ye S.B (cA i.op env (base+i.at_)) (base+i.at_) i.dst env H k
 | .call=>False
 | _=>aL S.B (aw i.op env (H.take base)) (k5 i.op) i.dst env H k
def WGM (S:Cx)(base:Nat)(g:Option Bool)(i:AI)(env:Env)(H:Heap)(k:Kt):Prop:=match g with
 | some true=>WIM S base i env H k
 | some false=>dr S.B i.dst .und env H k
 | none=>False
def WRM (S:Cx)(base:Nat):List AI->Kt->Kt
 | [],k,env,H=>k env H
 | i::r,k,env,H=>WGM S base (guardI i env) i env H (WRM S base r k)
theorem Iu {base:Nat}:WRM S base [] k env H=k env H:=rfl
theorem vV {base:Nat}{i:AI}{r:List AI}:WRM S base (i::r) k env H=WGM S base (guardI i env) i env H (WRM S base r k):=rfl
theorem nw:∀{l:List AI},lq l=true->l.any (·.fl)=false/\l.any isCall=false
 | [],_=>⟨rfl,rfl⟩
 | i::r,h=>by
  simp only[lq,Bool.and_eq_true]at h;obtain⟨h1,h2⟩:=nw h.2;have h3:=h.1;rw[List.any_cons,List.any_cons,h1,h2,Bool.or_false,Bool.or_false];rw[rR];split at h3
  ·cases h3
  ·rename_i hc;have h3:i.fl=false:=by simpa using h3
   refine⟨h3,?_⟩;cases hq:cls i.op<;>first | rfl | exact(hc hq).elim
theorem Lw {i:AI}(hfl:i.fl=false):okT (fun _=>false) i env=true:=by
 unfold okT;rw[Bool.and_eq_true,Bool.and_eq_true];refine⟨⟨?_,?_⟩,by unfold isRow;rw[hfl];rfl⟩
 ·split
  ·rw[hfl];rfl
  ·rfl
 ·split<;>rfl
theorem ic {base:Nat}:∀{l:List AI} {k:Kt} {env:Env} {H:Heap},lq l=true->WRM S base l k env H->Inv S.B env->∃e h,cX S.C S.lk S.lim (fun _=>false) base l env H=some (e,h)/\k e h/\Inv S.B e
 | [],_,env,H,_,h,hi=>⟨env,H,rfl,h,hi⟩
 | i::r,k,env,H,hd,h,hi=>by
  rw[vV]at h;obtain⟨hfl,hca⟩:=nw hd;have hfl:i.fl=false:=by simp only[List.any_cons,Bool.or_eq_false_iff]at hfl;exact hfl.1
  have hcr:r.any isCall=false:=by simp only[List.any_cons,Bool.or_eq_false_iff]at hca;exact hca.2
  have hd2:lq r=true:=by simp only[lq,Bool.and_eq_true]at hd;exact hd.2
  have hif:isFree i=false:=by unfold isFree;rw[hfl];rfl
  unfold WGM at h;simp only[cX,dq,hcr];split at h
  ·rename_i hg;simp only[hg,Lw hfl,if_true,hif,Bool.false_eq_true,if_false];unfold WIM at h;unfold fG;split at h;case h_1 | h_2=>
    rename_i hc;rw[hc];unfold jc at h;split at h
    ·rename_i e h' he;simp only[he];exact ic hd2 h (l8 hi he)
    ·exact h.elim
   case h_3=>
    rename_i hc;rw[hc];unfold ye at h;split at h
    ·rename_i v x hm;obtain⟨h0,h⟩:=h;obtain⟨e,p1,p2,p3⟩:=bP h hi;simp only[hm,h0,p1];exact ic hd2 p2 p3
    ·exact h.elim
   case h_4=>exact h.elim
   case h_5=>
    rename_i hc1 hc2 hc3 hc4;unfold aL at h;split at h
    ·rename_i v hv;obtain⟨h0,h⟩:=h;obtain⟨e,p1,p2,p3⟩:=bP h hi;simp only[hv];rw[if_pos h0];simp only[p1];exact ic hd2 p2 p3
    ·exact h.elim
  ·rename_i hg;obtain⟨e,h1,h2,h3⟩:=bP h hi;simp only[hg,h1];exact ic hd2 h2 h3
  ·exact h.elim
theorem Iv {keep:List Nat}{m:Nat}{ops:List AI}(hd:lq ops=true)(hm:¬m=0)(hi:Inv S.B (ab keep env))(h:WRM S H.length ops (Q .nrm) (ab keep env) (H++List.replicate m .hole)):WB S (.regD keep m ops) Q env H:=by
 have hws:je S.lk S.lim H.length ops (ab keep env) (H++List.replicate m .hole)=fun _=>false:=by
  unfold je;rw[(nw hd).1];rfl
 show (if _ then _ else _);rw[if_neg (fun h=>hm h.1)];obtain⟨e,h1,h2,h3,h4⟩:=ic hd h hi;exact⟨e,h1,by rw[hws];exact h2,h4,h3⟩
end
theorem ma (B:List Nat):Inv B []:=fun _ h=>by simp at h
theorem bm {B:List Nat}{env:Env}{d:Nat}{v:AV}(h:vOk B d v=true)(hi:Inv B env):Inv B ((d,v)::env):=fM hi h
attribute [simp] Iu vV WGM WIM ye
end Go.Hm

