/- The ranges over maps of all functions keep no order. -/
import Derived.Test.YtnhennjliinplaaGC
import Derived.Test.YtnhennjliinplaaRw
set_option linter.all false
namespace Go.Proofs.Ytnhennjliinplaa
open Go Go.Hm
theorem uniN (n:Nat):Uni (callN X A n):=fun lk lim x y H a b hx hy ha hb hl=>by
 have h:X lk lim 61 [.sl 2 [.mp x,.mp y]] H=some (.mp H.length,H++[.map (sE (unI a b))]):=by
  unfold X;exact union_code hx hy ha hb hl
 cases n with
 | zero=>exact h
 | succ n=>simp only[callN,h]
theorem rs39 {n lk lim:Nat}:RmOks (callN X A n) n lk lim t39.body:=by
 show RmOks _ _ _ _ t39B
 unfold t39B
 simp only[RmOks,and_true,true_and]
 exact⟨rm39 (uniN n),RmOks.of rfl⟩
theorem rs13 {n lk lim:Nat}:RmOks (callN X A n) n lk lim t13.body:=by
 show RmOks _ _ _ _ t13B
 unfold t13B t13L2 t13L3 t13L4
 simp only[RmOks,and_true,true_and]
 exact⟨rm13,RmOks.of rfl⟩
theorem rmA:RmA X A:=fun f fd hf n lk lim=>by
 have h:(tab.all fun p=>noRm p.2.body||(Nat.beq p.1 13||Nat.beq p.1 39))=true:=by decide+kernel
 have hp:=List.all_eq_true.1 h _ (assoc_mem hf)
 simp only[Bool.or_eq_true,Nat.beq_eq]at hp
 rcases hp with hp | rfl | rfl
 ·exact RmOks.of hp
 ·have e:=A13
  rw[e]at hf
  cases hf
  exact rs13
 ·have e:=A39
  rw[e]at hf
  cases hf
  exact rs39
end Go.Proofs.Ytnhennjliinplaa

namespace Go.Proofs.Ytnhennjliinplaa
open Go Go.Hm
theorem x0Ok:OrcOk Try.prog X0:=withFun_ok (by decide) keysG_ok noX_ok
theorem x0Fr:OrcFr X0:=withFun_fr noX_fr
theorem orcOk1:OrcOk Try.prog X:=by unfold X;exact callW_ok (by kernel_rfl) x0Ok x0Fr fnsOk1 rmA1
theorem xFr:OrcFr X:=by unfold X;exact callW_fr x0Fr
theorem orcOk:OrcOk Try.prog C:=callW_ok (by kernel_rfl) orcOk1 xFr fnsOk rmA
end Go.Proofs.Ytnhennjliinplaa
