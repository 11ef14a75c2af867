/- The machine HM, part 10. -/
import Derived.Test.YtgbpioccaenjaaaGreatHmG8
set_option linter.unusedSimpArgs false
set_option linter.unusedVariables false
namespace Go.Hm
open Go
section
variable {S : Cx} {dst : Option Nat} {env : Env} {H : Heap} {k : Kt} {fl st : Bool}
def WPureD (B : List Nat) (r : Option AV) (rpo : Bool) (dst : Option Nat) (env : Env) (H : Heap) (k : Kt) : Prop:=match r with
 | some v => (isRp v = false ∨ rpo = true) ∧ WPush B dst v env H k
 | none => False
def WClF (S : Cx) (st : Bool) (r : Option (FuncId × List AV)) (dst : Option Nat) (env : Env) (H : Heap) (k : Kt) : Prop:=match r with
 | some (g,l) => l.all argOk = true ∧ (match S.C S.lk S.lim g l H with
  | some (v,H') => isRp v = false ∧ (st = true ∨ H'.length = H.length) ∧ WPush S.B dst v env H' k
  | none => False)
 | none => False
def WClD (S : Cx) (r : Option (FuncId × List AV)) (dst : Option Nat) (env : Env) (H : Heap) (k : Kt) : Prop:=match r with
 | some (g,l) => l.all argOk = true ∧ belowL H.length l = true ∧ (match S.C H.length S.lim g l H with
  | some (v,H') => isRp v = false ∧ H' = H ∧ WPush S.B dst v env H k
  | none => False)
 | none => False
theorem wi_mv (x : AO) : WI S (.mv x) dst env H k = WPure S.B (rdOp (.mv x) env H) dst env H k:=rfl
theorem wi_mvD (x : AO) : WID S fl st (.mv x) dst env H k = WPureD S.B (rdOp (.mv x) env H) true dst env H k:=rfl
theorem wi_pick (c : AO) (a : AO) (b : AO) : WI S (.pick c a b) dst env H k = WPure S.B (rdOp (.pick c a b) env H) dst env H k:=rfl
theorem wi_pickD (c : AO) (a : AO) (b : AO) : WID S fl st (.pick c a b) dst env H k = WPureD S.B (rdOp (.pick c a b) env H) true dst env H k:=rfl
theorem wi_allocR (z : List AV) : WI S (.allocR z) dst env H k = WPure S.B (rdOp (.allocR z) env H) dst env H k:=rfl
theorem wi_allocRD (z : List AV) : WID S fl st (.allocR z) dst env H k = WPureD S.B (rdOp (.allocR z) env H) false dst env H k:=rfl
theorem wi_boxR (n : Nat) (x : AO) : WI S (.boxR n x) dst env H k = WPure S.B (rdOp (.boxR n x) env H) dst env H k:=rfl
theorem wi_boxRD (n : Nat) (x : AO) : WID S fl st (.boxR n x) dst env H k = WPureD S.B (rdOp (.boxR n x) env H) false dst env H k:=rfl
theorem wi_allocH (z : List AV) : WI S (.allocH z) dst env H k = WMake S.B (mkOp (.allocH z) env H.length) dst env H k:=rfl
theorem wi_boxH (n : Nat) (x : AO) : WI S (.boxH n x) dst env H k = WMake S.B (mkOp (.boxH n x) env H.length) dst env H k:=rfl
theorem wi_build (z : List AV) (parts : List (Nat × Nat × AO)) : WI S (.build z parts) dst env H k = WPure S.B (rdOp (.build z parts) env H) dst env H k:=rfl
theorem wi_buildD (z : List AV) (parts : List (Nat × Nat × AO)) : WID S fl st (.build z parts) dst env H k = WPureD S.B (rdOp (.build z parts) env H) false dst env H k:=rfl
theorem wi_buildS (n : Nat) (z : List AV) (parts : List (Nat × Nat × AO)) : WI S (.buildS n z parts) dst env H k = WPure S.B (rdOp (.buildS n z parts) env H) dst env H k:=rfl
theorem wi_buildSD (n : Nat) (z : List AV) (parts : List (Nat × Nat × AO)) : WID S fl st (.buildS n z parts) dst env H k = WPureD S.B (rdOp (.buildS n z parts) env H) false dst env H k:=rfl
theorem wi_buildH (n : Nat) (es : Nat) (z : List AV) (parts : List (Nat × Nat × AO)) : WI S (.buildH n es z parts) dst env H k = WMake S.B (mkOp (.buildH n es z parts) env H.length) dst env H k:=rfl
theorem wi_ld1L (t : Nat) (a : AO) : WI S (.ld1 (some t) a) dst env H k = WPure S.B (rdOp (.ld1 (some t) a) env H) dst env H k:=rfl
theorem wi_ld1LD (t : Nat) (a : AO) : WID S fl st (.ld1 (some t) a) dst env H k = WPureD S.B (rdOp (.ld1 (some t) a) env H) false dst env H k:=rfl
theorem wi_ld1 (a : AO) : WI S (.ld1 none a) dst env H k = WPure S.B (rdOp (.ld1 none a) env H) dst env H k:=rfl
theorem wi_ld1D (a : AO) : WID S false st (.ld1 none a) dst env H k = WPureD S.B (rdOp (.ld1 none a) env H) false dst env H k:=rfl
theorem wi_ld1R (a : AO) : WID S true st (.ld1 none a) dst env H k = (rdTgt (.ld1 none a) env = none ∧ WPureD S.B (rdOp (.ld1 none a) env H) false dst env H k):=rfl
theorem wi_ldAL (t : Nat) (n : Nat) (a : AO) : WI S (.ldA (some t) n a) dst env H k = WPure S.B (rdOp (.ldA (some t) n a) env H) dst env H k:=rfl
theorem wi_ldALD (t : Nat) (n : Nat) (a : AO) : WID S fl st (.ldA (some t) n a) dst env H k = WPureD S.B (rdOp (.ldA (some t) n a) env H) false dst env H k:=rfl
theorem wi_ldA (n : Nat) (a : AO) : WI S (.ldA none n a) dst env H k = WPure S.B (rdOp (.ldA none n a) env H) dst env H k:=rfl
theorem wi_ldAD (n : Nat) (a : AO) : WID S false st (.ldA none n a) dst env H k = WPureD S.B (rdOp (.ldA none n a) env H) false dst env H k:=rfl
theorem wi_ldAR (n : Nat) (a : AO) : WID S true st (.ldA none n a) dst env H k = (rdTgt (.ldA none n a) env = none ∧ WPureD S.B (rdOp (.ldA none n a) env H) false dst env H k):=rfl
theorem wi_stL (t : Nat) (n : Nat) (a : AO) (x : AO) : WI S (.st (some t) n a x) dst env H k = WAct (exOp S.lk S.lim 0 dst (.st (some t) n a x) env H) k:=rfl
theorem wi_stLD (t : Nat) (n : Nat) (a : AO) (x : AO) : WID S fl st (.st (some t) n a x) dst env H k = WAct (exOp S.lk S.lim 0 dst (.st (some t) n a x) env H) k:=rfl
theorem wi_st (n : Nat) (a : AO) (x : AO) : WI S (.st none n a x) dst env H k = WAct (exOp S.lk S.lim 0 dst (.st none n a x) env H) k:=rfl
theorem wi_stD (n : Nat) (a : AO) (x : AO) : WID S fl st (.st none n a x) dst env H k = WAct (exOp S.lk S.lim 0 dst (.st none n a x) env H) k:=rfl
theorem wi_nilc (x : AO) : WI S (.nilc x) dst env H k = WPure S.B (rdOp (.nilc x) env H) dst env H k:=rfl
theorem wi_nilcD (x : AO) : WID S fl st (.nilc x) dst env H k = WPureD S.B (rdOp (.nilc x) env H) true dst env H k:=rfl
theorem wi_bini (op : BinOp) (x : AO) (y : AO) : WI S (.bini op x y) dst env H k = WPure S.B (rdOp (.bini op x y) env H) dst env H k:=rfl
theorem wi_biniD (op : BinOp) (x : AO) (y : AO) : WID S fl st (.bini op x y) dst env H k = WPureD S.B (rdOp (.bini op x y) env H) false dst env H k:=rfl
theorem wi_bins (op : BinOp) (x : AO) (y : AO) : WI S (.bins op x y) dst env H k = WPure S.B (rdOp (.bins op x y) env H) dst env H k:=rfl
theorem wi_binsD (op : BinOp) (x : AO) (y : AO) : WID S fl st (.bins op x y) dst env H k = WPureD S.B (rdOp (.bins op x y) env H) false dst env H k:=rfl
theorem wi_eqb (neg : Bool) (x : AO) (y : AO) : WI S (.eqb neg x y) dst env H k = WPure S.B (rdOp (.eqb neg x y) env H) dst env H k:=rfl
theorem wi_eqbD (neg : Bool) (x : AO) (y : AO) : WID S fl st (.eqb neg x y) dst env H k = WPureD S.B (rdOp (.eqb neg x y) env H) false dst env H k:=rfl
theorem wi_eqp (neg : Bool) (x : AO) (y : AO) : WI S (.eqp neg x y) dst env H k = WPure S.B (rdOp (.eqp neg x y) env H) dst env H k:=rfl
theorem wi_eqpD (neg : Bool) (x : AO) (y : AO) : WID S fl st (.eqp neg x y) dst env H k = WPureD S.B (rdOp (.eqp neg x y) env H) false dst env H k:=rfl
theorem wi_eqf (neg : Bool) (x : AO) (y : AO) : WI S (.eqf neg x y) dst env H k = WPure S.B (rdOp (.eqf neg x y) env H) dst env H k:=rfl
theorem wi_eqfD (neg : Bool) (x : AO) (y : AO) : WID S fl st (.eqf neg x y) dst env H k = WPureD S.B (rdOp (.eqf neg x y) env H) false dst env H k:=rfl
theorem wi_eqa (neg : Bool) (ks : List Nat) (x : AO) (y : AO) : WI S (.eqa neg ks x y) dst env H k = WPure S.B (rdOp (.eqa neg ks x y) env H) dst env H k:=rfl
theorem wi_eqaD (neg : Bool) (ks : List Nat) (x : AO) (y : AO) : WID S fl st (.eqa neg ks x y) dst env H k = WPureD S.B (rdOp (.eqa neg ks x y) env H) false dst env H k:=rfl
theorem wi_not (x : AO) : WI S (.not x) dst env H k = WPure S.B (rdOp (.not x) env H) dst env H k:=rfl
theorem wi_notD (x : AO) : WID S fl st (.not x) dst env H k = WPureD S.B (rdOp (.not x) env H) false dst env H k:=rfl
theorem wi_negi (x : AO) : WI S (.negi x) dst env H k = WPure S.B (rdOp (.negi x) env H) dst env H k:=rfl
theorem wi_negiD (x : AO) : WID S fl st (.negi x) dst env H k = WPureD S.B (rdOp (.negi x) env H) false dst env H k:=rfl
theorem wi_xori (x : AO) : WI S (.xori x) dst env H k = WPure S.B (rdOp (.xori x) env H) dst env H k:=rfl
theorem wi_xoriD (x : AO) : WID S fl st (.xori x) dst env H k = WPureD S.B (rdOp (.xori x) env H) false dst env H k:=rfl
theorem wi_cvi (q : IntKind) (x : AO) : WI S (.cvi q x) dst env H k = WPure S.B (rdOp (.cvi q x) env H) dst env H k:=rfl
theorem wi_cviD (q : IntKind) (x : AO) : WID S fl st (.cvi q x) dst env H k = WPureD S.B (rdOp (.cvi q x) env H) false dst env H k:=rfl
theorem wi_b2s (x : AO) : WI S (.b2s x) dst env H k = WPure S.B (rdOp (.b2s x) env H) dst env H k:=rfl
theorem wi_b2sD (x : AO) : WID S false st (.b2s x) dst env H k = WPureD S.B (rdOp (.b2s x) env H) false dst env H k:=rfl
theorem wi_b2sR (x : AO) : WID S true st (.b2s x) dst env H k = (rdTgt (.b2s x) env = none ∧ WPureD S.B (rdOp (.b2s x) env H) false dst env H k):=rfl
theorem wi_s2b (x : AO) : WI S (.s2b x) dst env H k = WPure S.B (rdOp (.s2b x) env H) dst env H k:=rfl
theorem wi_s2bD (x : AO) : WID S fl st (.s2b x) dst env H k = WPureD S.B (rdOp (.s2b x) env H) false dst env H k:=rfl
theorem wi_mkf (f : FuncId) (caps : List AO) : WI S (.mkf f caps) dst env H k = WPure S.B (rdOp (.mkf f caps) env H) dst env H k:=rfl
theorem wi_mkfD (f : FuncId) (caps : List AO) : WID S fl st (.mkf f caps) dst env H k = WPureD S.B (rdOp (.mkf f caps) env H) false dst env H k:=rfl
theorem wi_mks (es : Nat) (bytes : Nat) (z : List AV) (l : AO) : WI S (.mks es bytes z l) dst env H k = WMake S.B (mkOp (.mks es bytes z l) env H.length) dst env H k:=rfl
theorem wi_slS (x : AO) (lo : Option AO) (hi : Option AO) : WI S (.slS x lo hi) dst env H k = WPure S.B (rdOp (.slS x lo hi) env H) dst env H k:=rfl
theorem wi_slSD (x : AO) (lo : Option AO) (hi : Option AO) : WID S fl st (.slS x lo hi) dst env H k = WPureD S.B (rdOp (.slS x lo hi) env H) false dst env H k:=rfl
theorem wi_slC (es : Nat) (x : AO) (lo : Option AO) (hi : Option AO) : WI S (.slC es x lo hi) dst env H k = WPure S.B (rdOp (.slC es x lo hi) env H) dst env H k:=rfl
theorem wi_slCD (es : Nat) (x : AO) (lo : Option AO) (hi : Option AO) : WID S fl st (.slC es x lo hi) dst env H k = WPureD S.B (rdOp (.slC es x lo hi) env H) false dst env H k:=rfl
theorem wi_sl00 (x : AO) : WI S (.sl00 x) dst env H k = WPure S.B (rdOp (.sl00 x) env H) dst env H k:=rfl
theorem wi_sl00D (x : AO) : WID S fl st (.sl00 x) dst env H k = WPureD S.B (rdOp (.sl00 x) env H) false dst env H k:=rfl
theorem wi_fldA (off : Nat) (x : AO) : WI S (.fldA off x) dst env H k = WPure S.B (rdOp (.fldA off x) env H) dst env H k:=rfl
theorem wi_fldAD (off : Nat) (x : AO) : WID S fl st (.fldA off x) dst env H k = WPureD S.B (rdOp (.fldA off x) env H) true dst env H k:=rfl
theorem wi_fld (off : Nat) (n : Nat) (isAgg : Bool) (x : AO) : WI S (.fld off n isAgg x) dst env H k = WPure S.B (rdOp (.fld off n isAgg x) env H) dst env H k:=rfl
theorem wi_fldD (off : Nat) (n : Nat) (isAgg : Bool) (x : AO) : WID S fl st (.fld off n isAgg x) dst env H k = WPureD S.B (rdOp (.fld off n isAgg x) env H) false dst env H k:=rfl
theorem wi_ixA (es : Nat) (x : AO) (i : AO) : WI S (.ixA es x i) dst env H k = WPure S.B (rdOp (.ixA es x i) env H) dst env H k:=rfl
theorem wi_ixAD (es : Nat) (x : AO) (i : AO) : WID S fl st (.ixA es x i) dst env H k = WPureD S.B (rdOp (.ixA es x i) env H) false dst env H k:=rfl
theorem wi_ixR (len : Nat) (es : Nat) (a : AO) (i : AO) : WI S (.ixR len es a i) dst env H k = WPure S.B (rdOp (.ixR len es a i) env H) dst env H k:=rfl
theorem wi_ixRD (len : Nat) (es : Nat) (a : AO) (i : AO) : WID S fl st (.ixR len es a i) dst env H k = WPureD S.B (rdOp (.ixR len es a i) env H) true dst env H k:=rfl
theorem wi_ixS (x : AO) (i : AO) : WI S (.ixS x i) dst env H k = WPure S.B (rdOp (.ixS x i) env H) dst env H k:=rfl
theorem wi_ixSD (x : AO) (i : AO) : WID S fl st (.ixS x i) dst env H k = WPureD S.B (rdOp (.ixS x i) env H) false dst env H k:=rfl
theorem wi_ixG (len : Nat) (es : Nat) (isAgg : Bool) (x : AO) (i : AO) : WI S (.ixG len es isAgg x i) dst env H k = WPure S.B (rdOp (.ixG len es isAgg x i) env H) dst env H k:=rfl
theorem wi_ixGD (len : Nat) (es : Nat) (isAgg : Bool) (x : AO) (i : AO) : WID S fl st (.ixG len es isAgg x i) dst env H k = WPureD S.B (rdOp (.ixG len es isAgg x i) env H) false dst env H k:=rfl
theorem wi_ext (x : AO) (i : Nat) : WI S (.ext x i) dst env H k = WPure S.B (rdOp (.ext x i) env H) dst env H k:=rfl
theorem wi_extD (x : AO) (i : Nat) : WID S fl st (.ext x i) dst env H k = WPureD S.B (rdOp (.ext x i) env H) false dst env H k:=rfl
theorem wi_len (str : Bool) (x : AO) : WI S (.len str x) dst env H k = WPure S.B (rdOp (.len str x) env H) dst env H k:=rfl
theorem wi_lenD (str : Bool) (x : AO) : WID S fl st (.len str x) dst env H k = WPureD S.B (rdOp (.len str x) env H) false dst env H k:=rfl
theorem wi_lenK (n : Nat) : WI S (.lenK n) dst env H k = WPure S.B (rdOp (.lenK n) env H) dst env H k:=rfl
theorem wi_lenKD (n : Nat) : WID S fl st (.lenK n) dst env H k = WPureD S.B (rdOp (.lenK n) env H) false dst env H k:=rfl
theorem wi_call (f : FuncId) (args : List AO) : WI S (.call f args) dst env H k = WCl S (clArgs (.call f args) env) dst env H k:=rfl
theorem wi_callD (f : FuncId) (args : List AO) : WID S true st (.call f args) dst env H k = WClF S st (clArgs (.call f args) env) dst env H k:=rfl
theorem wi_callE (f : FuncId) (args : List AO) : WID S false st (.call f args) dst env H k = WClD S (clArgs (.call f args) env) dst env H k:=rfl
theorem wi_callv (g : AO) (args : List AO) : WI S (.callv g args) dst env H k = WCl S (clArgs (.callv g args) env) dst env H k:=rfl
theorem wi_callvD (g : AO) (args : List AO) : WID S true st (.callv g args) dst env H k = WClF S st (clArgs (.callv g args) env) dst env H k:=rfl
theorem wi_callvE (g : AO) (args : List AO) : WID S false st (.callv g args) dst env H k = WClD S (clArgs (.callv g args) env) dst env H k:=rfl
theorem wi_app (es : Nat) (bytes : Nat) (x : AO) (y : AO) : WI S (.app es bytes x y) dst env H k = WAct (exOp S.lk S.lim 0 dst (.app es bytes x y) env H) k:=rfl
theorem wi_appD (es : Nat) (bytes : Nat) (x : AO) (y : AO) : WID S fl st (.app es bytes x y) dst env H k = WAct (exOp S.lk S.lim 0 dst (.app es bytes x y) env H) k:=rfl
theorem wi_mm (mx : Bool) (args : List AO) : WI S (.mm mx args) dst env H k = WPure S.B (rdOp (.mm mx args) env H) dst env H k:=rfl
theorem wi_mmD (mx : Bool) (args : List AO) : WID S fl st (.mm mx args) dst env H k = WPureD S.B (rdOp (.mm mx args) env H) false dst env H k:=rfl
theorem wi_mkm  : WI S .mkm dst env H k = WMake S.B (mkOp .mkm env H.length) dst env H k:=rfl
theorem wi_mlk (ag : Bool) (ks : List Nat) (z : AV) (ok : Bool) (m : AO) (k2 : AO) : WI S (.mlk ag ks z ok m k2) dst env H k = WPure S.B (rdOp (.mlk ag ks z ok m k2) env H) dst env H k:=rfl
theorem wi_mlkD (ag : Bool) (ks : List Nat) (z : AV) (ok : Bool) (m : AO) (k2 : AO) : WID S false st (.mlk ag ks z ok m k2) dst env H k = WPureD S.B (rdOp (.mlk ag ks z ok m k2) env H) false dst env H k:=rfl
theorem wi_mlkR (ag : Bool) (ks : List Nat) (z : AV) (ok : Bool) (m : AO) (k2 : AO) : WID S true st (.mlk ag ks z ok m k2) dst env H k = (rdTgt (.mlk ag ks z ok m k2) env = none ∧ WPureD S.B (rdOp (.mlk ag ks z ok m k2) env H) false dst env H k):=rfl
theorem wi_mlen (m : AO) : WI S (.mlen m) dst env H k = WPure S.B (rdOp (.mlen m) env H) dst env H k:=rfl
theorem wi_mlenD (m : AO) : WID S false st (.mlen m) dst env H k = WPureD S.B (rdOp (.mlen m) env H) false dst env H k:=rfl
theorem wi_mlenR (m : AO) : WID S true st (.mlen m) dst env H k = (rdTgt (.mlen m) env = none ∧ WPureD S.B (rdOp (.mlen m) env H) false dst env H k):=rfl
theorem wi_mup (ag : Bool) (ks : List Nat) (m : AO) (k2 : AO) (v : AO) : WI S (.mup ag ks m k2 v) dst env H k = WAct (exOp S.lk S.lim 0 dst (.mup ag ks m k2 v) env H) k:=rfl
theorem wi_mupD (ag : Bool) (ks : List Nat) (m : AO) (k2 : AO) (v : AO) : WID S fl st (.mup ag ks m k2 v) dst env H k = WAct (exOp S.lk S.lim 0 dst (.mup ag ks m k2 v) env H) k:=rfl
end
attribute [simp] WPureD WClF WClD rdTgt
attribute [simp] wi_mv wi_mvD wi_pick wi_pickD wi_allocR wi_allocRD wi_boxR wi_boxRD wi_allocH wi_boxH wi_build wi_buildD
attribute [simp] wi_buildS wi_buildSD wi_buildH wi_ld1L wi_ld1LD wi_ld1 wi_ld1D wi_ld1R wi_ldAL wi_ldALD wi_ldA wi_ldAD
attribute [simp] wi_ldAR wi_stL wi_stLD wi_st wi_stD wi_nilc wi_nilcD wi_bini wi_biniD wi_bins wi_binsD wi_eqb
attribute [simp] wi_eqbD wi_eqp wi_eqpD wi_eqf wi_eqfD wi_eqa wi_eqaD wi_not wi_notD wi_negi wi_negiD wi_xori
attribute [simp] wi_xoriD wi_cvi wi_cviD wi_b2s wi_b2sD wi_b2sR wi_s2b wi_s2bD wi_mkf wi_mkfD wi_mks wi_slS
attribute [simp] wi_slSD wi_slC wi_slCD wi_sl00 wi_sl00D wi_fldA wi_fldAD wi_fld wi_fldD wi_ixA wi_ixAD wi_ixR
attribute [simp] wi_ixRD wi_ixS wi_ixSD wi_ixG wi_ixGD wi_ext wi_extD wi_len wi_lenD wi_lenK wi_lenKD wi_call
attribute [simp] wi_callD wi_callE wi_callv wi_callvD wi_callvE wi_app wi_appD wi_mm wi_mmD wi_mkm wi_mlk wi_mlkD
attribute [simp] wi_mlkR wi_mlen wi_mlenD wi_mlenR wi_mup wi_mupD
end Go.Hm

namespace Go.Hm
open Go

abbrev I (x : Int) : AV:=.val (.int .i64 x)
abbrev Bo (b : Bool) : AV:=.val (.bool b)
abbrev Sg (l : List UInt8) : AV:=.val (.string ⟨⟨l⟩⟩)
def ints (l : List Int) : List AV:=l.map I
def bools (l : List Bool) : List AV:=l.map Bo
theorem ints_len (l : List Int) : (ints l).length = l.length:=by simp [ints]
theorem bools_len (l : List Bool) : (bools l).length = l.length:=by simp [bools]
theorem bools_get (l : List Bool) (i : Nat) : (bools l)[i]? = l[i]?.map Bo:=by simp [bools]
theorem bools_set (l : List Bool) (i : Nat) (b : Bool) : (bools l).set i (Bo b) = bools (l.set i b):=by simp [bools,List.map_set]
theorem replaceAt_one {cs : List AV} {k : Nat} (v : AV) (h : k < cs.length) : replaceAt cs k [v] = cs.set k v:=by
 simp only [replaceAt,List.length_cons,List.length_nil]
 rw [List.set_eq_take_append_cons_drop,if_pos h]
 simp
theorem Sg_size (l : List UInt8) : (⟨⟨l⟩⟩ : ByteArray).size = l.length:=rfl
theorem Sg_get (l : List UInt8) (i : Nat) : (⟨⟨l⟩⟩ : ByteArray)[i]? = l[i]?:=by
 rw [getElem?_def,getElem?_def]
 rfl

section
variable {S : Cx} {Q : Ex → Kt} {env : Env} {H : Heap}
def FinT (rs : List ARes) (t : Bool) (H : Heap) (r : AV × Heap) : Ex → Kt:=fun x e h => finish ⟨0,.skip,rs,t⟩ H (some (x,e,h)) = some r
theorem finT_ret {rs : List ARes} {t : Bool} {H' : Heap} {r : AV × Heap} : FinT rs t H r .ret env H' = (finish ⟨0,.skip,rs,t⟩ H (some (.ret,env,H')) = some r):=rfl
theorem finT_nrm {rs : List ARes} {t : Bool} {H' : Heap} {r : AV × Heap} : FinT rs t H r .nrm env H' = (finish ⟨0,.skip,rs,t⟩ H (some (.nrm,env,H')) = some r):=rfl
variable {X : Orc} {A : FuncId → Option AFn}
theorem wb_callB {f : FuncId} {lk lim np : Nat} {args : List AV} {b : AC} {rs : List ARes} {t : Bool} {r : AV × Heap} (B : List Nat) (hX : X lk lim f args H = none) (hA : A f = some ⟨np,b,rs,t⟩) (hl : args.length = np) (ha : args.all argOk = true)
  (h : WB ⟨callW X A,lk,if t then H.length else lim,B⟩ b (FinT rs t H r) (enterFrom 0 args) H) : callW X A lk lim f args H = some r:=by
 refine wb_call B hX hA hl ha (wb_mono h fun x e h' hh => ?_)
 exact hh
section
variable {σ : Type} {keep : List Nat} {E : σ → Env} {G : σ → Heap} {inv : σ → Prop} {μ : σ → Nat} {s : σ}
theorem rnd_nrm : Rnd keep E G inv μ s Q .nrm env H = ∃ s',inv s' ∧ μ s' < μ s ∧ restrict keep env = E s' ∧ H = G s':=rfl
theorem rnd_exit {id : Nat} : Rnd keep E G inv μ s Q (.exit id) env H = Q (.exit id) env H:=rfl
theorem rnd_ret : Rnd keep E G inv μ s Q .ret env H = Q .ret env H:=rfl
end
def Rnd0 (Q : Ex → Kt) : Ex → Kt:=fun x e h => match x with
  | .nrm => False
  | .exit id => Q (.exit id) e h
  | .ret => Q .ret e h
theorem rnd0_exit {id : Nat} : Rnd0 Q (.exit id) env H = Q (.exit id) env H:=rfl
theorem rnd0_ret : Rnd0 Q .ret env H = Q .ret env H:=rfl
theorem wb_loop0 {keep : List Nat} {b : AC} (h : WB S b (Rnd0 Q) (restrict keep env) H) : WB S (.loop keep b) Q env H:=by
 refine ⟨1,?_⟩
 simp only [itB]
 refine wb_mono h fun x e h hh => ?_
 cases x with
 | nrm => exact hh.elim
 | exit id => exact hh
 | ret => exact hh
end
attribute [simp] rnd0_exit rnd0_ret wb_true wb_false rnd_exit rnd_ret finT_ret finT_nrm wb_regD drawEasy
attribute [simp] wr_nil wr_cons wrd_nil wrd_cons WG WGD WPush WPure WAct WMake WCall WCl memB vOk still
attribute [simp] wb_skip wb_exit wb_ret wb_seq wb_block wb_regN fol_nrm fol_exit fol_ret blk_nrm blk_ret blk_exit Fin finish
theorem frz_val (lim : Nat) (H : Heap) (d : Nat) (v : Value) : frz lim H d (.val v) = some (.val v):=by cases d <;> rfl
theorem frz_e0 (lim : Nat) (H : Heap) (d : Nat) : frz lim H d .e0 = some .e0:=by cases d <;> rfl
theorem frz_sl (lim : Nat) (H : Heap) (d n : Nat) (cs : List AV) : frz lim H d (.sl n cs) = some (.sl n cs):=by cases d <;> rfl
attribute [simp] frz frz_val frz_e0 frz_sl mapO below belowL
theorem bel_ints (lim : Nat) (l : List Int) : belowL lim (ints l) = true:=by
 induction l with
 | nil => rfl
 | cons a l ih => simp only [ints,List.map_cons,belowL,below,Bool.true_and];exact ih
theorem map_frz_ints (lim : Nat) (H : Heap) (d : Nat) (l : List Int) : mapO (frz lim H d) (ints l) = some (ints l):=by
 induction l with
 | nil => rfl
 | cons a l ih =>
  simp only [ints,List.map_cons,mapO,frz_val] at ih ⊢
  rw [ih]

def nts (l : List Nat) : List AV:=l.map fun (n : Nat) => I n
theorem nts_len (l : List Nat) : (nts l).length = l.length:=by simp [nts]
theorem nts_get (l : List Nat) (i : Nat) : (nts l)[i]? = l[i]?.map fun (n : Nat) => I n:=by simp [nts]
theorem nts_app (l m : List Nat) : nts (l ++ m) = nts l ++ nts m:=by simp [nts]
theorem bel_nts (lim : Nat) (l : List Nat) : belowL lim (nts l) = true:=by
 induction l with
 | nil => rfl
 | cons a l ih => simp only [nts,List.map_cons,belowL,below,Bool.true_and];exact ih
theorem map_frz_nts (lim : Nat) (H : Heap) (d : Nat) (l : List Nat) : mapO (frz lim H d) (nts l) = some (nts l):=by
 induction l with
 | nil => rfl
 | cons a l ih =>
  simp only [nts,List.map_cons,mapO,frz_val] at ih ⊢
  rw [ih]
theorem bools_ge (l : List Bool) (i : Nat) (h : i < (bools l).length) : (bools l)[i] = Bo (l[i]'(by rwa [bools_len] at h)):=by simp [bools]
theorem ints_ge (l : List Int) (i : Nat) (h : i < (ints l).length) : (ints l)[i] = I (l[i]'(by rwa [ints_len] at h)):=by simp [ints]
theorem nts_ge (l : List Nat) (i : Nat) (h : i < (nts l).length) : (nts l)[i] = I (l[i]'(by rwa [nts_len] at h)):=by simp [nts]
theorem nts_take (l : List Nat) (n : Nat) (h : l.length ≤ n) : (nts l).take n = nts l:=List.take_of_length_le (by rwa [nts_len])
theorem ints_take (l : List Int) (n : Nat) (h : l.length ≤ n) : (ints l).take n = ints l:=List.take_of_length_le (by rwa [ints_len])
theorem not_succ_lt (n : Nat) : (n + 1 < n) = False:=by simp
theorem replaceAt_1 (v w : AV) : replaceAt [v] 0 [w] = [w]:=rfl
attribute [simp] nts_ge ints_ge bools_ge nts_len ints_len bools_len nts_take ints_take map_frz_nts map_frz_ints bel_nts bel_ints not_succ_lt replaceAt_1
theorem get_at0 (H l : Heap) : (H ++ l)[H.length]? = l[0]?:=by
 rw [List.getElem?_append_right (Nat.le_refl _),Nat.sub_self]
theorem get_at (H l : Heap) (j : Nat) : (H ++ l)[H.length + j]? = l[j]?:=by
 rw [List.getElem?_append_right (by omega)];congr 1;omega
theorem set_at0 (H l : Heap) (x : HB) : (H ++ l).set H.length x = H ++ l.set 0 x:=by
 rw [List.set_append_right _ _ (Nat.le_refl _),Nat.sub_self]
theorem set_at (H l : Heap) (j : Nat) (x : HB) : (H ++ l).set (H.length + j) x = H ++ l.set j x:=by
 rw [List.set_append_right _ _ (by omega)];congr 2;omega
theorem take_at (H l : Heap) : (H ++ l).take H.length = H:=by simp
theorem wb_rangeE {S : Cx} {Q : Ex → Kt} {env : Env} {H : Heap} {keep ps : List Nat} {it : FuncId → List AV → Heap → Option (List (List Value))} {g : AO} {asg body : AC} (l : List (List Value)) (G : Nat → Heap → Prop) (env0 : Env) (he : restrict keep env = env0) {f : FuncId} {cap : List AV}
  (hb : noBx env0 = true) (hf : ev env0 g = .fn f cap) (hi : it f cap H = some l) (hs : l.all (fun x => x.length == ps.length) = true) (h0 : G 0 H)
  (hround : ∀ i x h,l[i]? = some x → G i h → ∃ e,putP ps x env0 = some e ∧ WB S asg (Nrm (WB S body (RgE G i Q env0))) e h) (hend : ∀ h,G l.length h → Q .nrm env0 h) : WB S (.rangeF keep it g ps asg body) Q env H:=by
 subst he
 refine wb_range l G ?_ h0 hround hend
 unfold itemsOf
 rw [if_pos hb,hf]
 dsimp only
 rw [hi]
 dsimp only
 rw [if_pos hs]
theorem nrm_nrm {k : Kt} {env : Env} {H : Heap} (hb : noBx env = true) (h : k env H) : Nrm k .nrm env H:=⟨hb,h⟩
theorem rge_nrm {G : Nat → Heap → Prop} {i : Nat} {Q : Ex → Kt} {env e : Env} {h : Heap} : RgE G i Q env .nrm e h = G (i + 1) h:=rfl
end Go.Hm

namespace Go.Hm
open Go
section
variable {S : Cx} {Q : Ex → Kt} {env : Env} {H : Heap} {k : Kt}
def drawMk : List AI → Bool
 | [] => true
 | i :: r => (match cls i.op with
  | .call => false
  | _ => !i.fl) && drawMk r
def WMakeM (B : List Nat) (r : Option (AV × HB)) (b : Nat) (dst : Option Nat) (env : Env) (H : Heap) (k : Kt) : Prop:=match r with
 | some (v,x) => H[b]? = some .hole ∧ WPush B dst v env (H.set b x) k
 | none => False
def WIM (S : Cx) (base : Nat) (i : AI) (env : Env) (H : Heap) (k : Kt) : Prop:=match cls i.op with
 | .actL _ | .actH => WAct (exOp S.lk S.lim 0 i.dst i.op env H) k
 | .make => WMakeM S.B (mkOp i.op env (base + i.at_)) (base + i.at_) i.dst env H k
 | .call => False
 | _ => WPureD S.B (rdOp i.op env (H.take base)) (rpOp i.op) i.dst env H k
def WGM (S : Cx) (base : Nat) (g : Option Bool) (i : AI) (env : Env) (H : Heap) (k : Kt) : Prop:=match g with
 | some true => WIM S base i env H k
 | some false => WPush S.B i.dst .und env H k
 | none => False
def WRM (S : Cx) (base : Nat) : List AI → Kt → Kt
 | [],k,env,H => k env H
 | i :: r,k,env,H => WGM S base (guardI i env) i env H (WRM S base r k)
theorem wrm_nil {base : Nat} : WRM S base [] k env H = k env H:=rfl
theorem wrm_cons {base : Nat} {i : AI} {r : List AI} : WRM S base (i :: r) k env H = WGM S base (guardI i env) i env H (WRM S base r k):=rfl
theorem drawMk_fl : ∀ {l : List AI},drawMk l = true → l.any (·.fl) = false ∧ l.any isCall = false
 | [],_ => ⟨rfl,rfl⟩
 | i :: r,h => by
  simp only [drawMk,Bool.and_eq_true] at h
  obtain ⟨h1,h2⟩:=drawMk_fl h.2
  have h3:=h.1
  rw [List.any_cons,List.any_cons,h1,h2,Bool.or_false,Bool.or_false]
  rw [isCall_eq]
  split at h3
  ·cases h3
  ·rename_i hc
   have h3 : i.fl = false:=by simpa using h3
   refine ⟨h3,?_⟩
   cases hq : cls i.op <;> first | rfl | exact (hc hq).elim
theorem okT_mk {i : AI} (hfl : i.fl = false) : okT (fun _ => false) i env = true:=by
 unfold okT
 rw [Bool.and_eq_true,Bool.and_eq_true]
 refine ⟨⟨?_,?_⟩,by unfold isRow;rw [hfl];rfl⟩
 ·split
  ·rw [hfl];rfl
  ·rfl
 ·split <;> rfl
theorem wrm_sound {base : Nat} : ∀ {l : List AI} {k : Kt} {env : Env} {H : Heap},drawMk l = true → WRM S base l k env H → Inv S.B env → ∃ e h,runD S.C S.lk S.lim (fun _ => false) base l env H = some (e,h) ∧ k e h ∧ Inv S.B e
 | [],_,env,H,_,h,hi => ⟨env,H,rfl,h,hi⟩
 | i :: r,k,env,H,hd,h,hi => by
  rw [wrm_cons] at h
  obtain ⟨hfl,hca⟩:=drawMk_fl hd
  have hfl : i.fl = false:=by simp only [List.any_cons,Bool.or_eq_false_iff] at hfl;exact hfl.1
  have hcr : r.any isCall = false:=by simp only [List.any_cons,Bool.or_eq_false_iff] at hca;exact hca.2
  have hd2 : drawMk r = true:=by simp only [drawMk,Bool.and_eq_true] at hd;exact hd.2
  have hif : isFree i = false:=by unfold isFree;rw [hfl];rfl
  unfold WGM at h
  simp only [runD,stepD,hcr]
  split at h
  ·rename_i hg
   simp only [hg,okT_mk hfl,if_true,hif,Bool.false_eq_true,if_false]
   unfold WIM at h
   unfold actD
   split at h
   case h_1 | h_2 =>
    rename_i hc;rw [hc]
    unfold WAct at h
    split at h
    ·rename_i e h' he
     simp only [he]
     exact wrm_sound hd2 h (exOp_inv hi he)
    ·exact h.elim
   case h_3 =>
    rename_i hc;rw [hc]
    unfold WMakeM at h
    split at h
    ·rename_i v x hm
     obtain ⟨h0,h⟩:=h
     obtain ⟨e,p1,p2,p3⟩:=push_sound h hi
     simp only [hm,h0,p1]
     exact wrm_sound hd2 p2 p3
    ·exact h.elim
   case h_4 => exact h.elim
   case h_5 =>
    rename_i hc1 hc2 hc3 hc4
    unfold WPureD at h
    split at h
    ·rename_i v hv
     obtain ⟨h0,h⟩:=h
     obtain ⟨e,p1,p2,p3⟩:=push_sound h hi
     simp only [hv]
     rw [if_pos h0]
     simp only [p1]
     exact wrm_sound hd2 p2 p3
    ·exact h.elim
  ·rename_i hg
   obtain ⟨e,h1,h2,h3⟩:=push_sound h hi
   simp only [hg,h1]
   exact wrm_sound hd2 h2 h3
  ·exact h.elim
theorem wb_regM {keep : List Nat} {m : Nat} {ops : List AI} (hd : drawMk ops = true) (hm : ¬ m = 0) (hi : Inv S.B (restrict keep env)) (h : WRM S H.length ops (Q .nrm) (restrict keep env) (H ++ List.replicate m .hole)) : WB S (.regD keep m ops) Q env H:=by
 have hws : wsSel S.lk S.lim H.length ops (restrict keep env) (H ++ List.replicate m .hole) = fun _ => false:=by
  unfold wsSel
  rw [(drawMk_fl hd).1];rfl
 show (if _ then _ else _)
 rw [if_neg (fun h => hm h.1)]
 obtain ⟨e,h1,h2,h3,h4⟩:=wrm_sound hd h hi
 exact ⟨e,h1,by rw [hws];exact h2,h4,h3⟩
end
theorem inv_nil (B : List Nat) : Inv B []:=fun _ h => by simp at h
theorem inv_cons2 {B : List Nat} {env : Env} {d : Nat} {v : AV} (h : vOk B d v = true) (hi : Inv B env) : Inv B ((d,v) :: env):=inv_cons hi h
attribute [simp] wrm_nil wrm_cons WGM WIM WMakeM
end Go.Hm

