import Derived.Test.YtkllbcjanneppaaGreatGU
import Derived.Test.YtkllbcjanneppaaGreatRk
set_option linter.all false
namespace Go.Proofs.YtkllbcjanneppaaGreat
open Go Go.Hm
set_option maxRecDepth 20000 in
theorem AM {H:Heap}:∃v,aj X0 A 0 0 10 [] H=some (v,H)/\v= .agg [I 1,I 1,I 1,.sl 2 [I 0,.sl 2 [I 0,I 1],I 0,.e0]]:=by
 refine⟨_,?_,rfl⟩;refine ar [0] rfl A10 rfl rfl ?_;unfold Np;generalize aj X0 A=C;simp[an]
theorem Pg (hC:bI Tryz.prog (aj X0 A)):zR Tryz.prog 10 exG:=by
 obtain⟨v,h,hv⟩:=AM (H:=[]);refine⟨(hC _ _ _ _ _ _ _ h).1,fun φ F H w l r vs hg sr ha=>?_⟩;unfold exG at hg;split at hg;case h_2=>cases hg
 simp only[RZ]at hg;subst hg;obtain⟨v,h,hv⟩:=AM (H:=H);subst hv;refine((hC _ _ _ _ _ _ _ h).2 φ F w vs sr ha).mono fun e w' ⟨u,he,φ',F',hr,rest⟩=>⟨u,he,φ',F',?_,rest⟩;exact z8 hr
theorem Qg:bI Tryz.prog X:=qm (by decide) (xB EV) (qm (by decide) (Pg EV) (yp (by decide) MH Ou))
theorem Qh:OrcFr X:=qn (qn (yq Ov))
theorem AN:bI Tryz.prog C:=vI (by kernel_rfl) Qg Qh Ks
end Go.Proofs.YtkllbcjanneppaaGreat
