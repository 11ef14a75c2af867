import Derived.Test.YtkllbcjanneppaaGreatGU
import Derived.Test.YtkllbcjanneppaaGreatRk
set_option linter.unusedSimpArgs false
set_option linter.unusedVariables false
namespace Go.Proofs.YtkllbcjanneppaaGreat
open Go Go.Hm
set_option maxRecDepth 20000 in
theorem yk {H:Heap}:∃v,ah X0 A 0 0 10 [] H=some (v,H)∧v= .agg [I 1,I 1,I 1,.sl 2 [I 0,.sl 2 [I 0,I 1],I 0,.e0]]:=by
 refine ⟨_,?_,rfl⟩;refine aq [0] rfl A10 rfl rfl ?_;unfold Ks;generalize ah X0 A=C;simp [aj]
theorem Me (hC:bB Tryz.prog (ah X0 A)):xB Tryz.prog 10 exG:=by
 obtain ⟨v,h,hv⟩:=yk (H:=[]);refine ⟨(hC _ _ _ _ _ _ _ h).1,fun φ F H w l r vs hg sr ha=>?_⟩;unfold exG at hg;split at hg;case h_2=>cases hg
 simp only [Option.some.injEq] at hg;subst hg;obtain ⟨v,h,hv⟩:=yk (H:=H);subst hv;refine ((hC _ _ _ _ _ _ _ h).2 φ F w vs sr ha).mono fun e w' ⟨u,he,φ',F',hr,rest⟩=>⟨u,he,φ',F',?_,rest⟩;exact xJ hr
end Go.Proofs.YtkllbcjanneppaaGreat

namespace Go.Proofs.YtkllbcjanneppaaGreat
open Go Go.Hm
theorem M4:bB Tryz.prog X:=oh (by decide) (vj Cs) (oh (by decide) (Me Cs) (wh (by decide) JP Lr))
theorem M5:OrcFr X:=oi (oi (wi Ls))
theorem Mf:bB Tryz.prog C:=tD (by kernel_rfl) M4 M5 Hr
end Go.Proofs.YtkllbcjanneppaaGreat
