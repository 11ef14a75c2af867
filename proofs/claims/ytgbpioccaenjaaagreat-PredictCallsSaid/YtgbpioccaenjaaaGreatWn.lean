import Derived.Test.YtgbpioccaenjaaaGreatGW
import Derived.Test.YtgbpioccaenjaaaGreatGS
set_option linter.unusedSimpArgs false
set_option linter.unusedVariables false
namespace Go.Proofs.YtgbpioccaenjaaaGreat
open Go Go.Hm

def accE (g : Gm) : Int:=if chkE g ≠ 0 then chkE g else if (redP g).2 = false then 5 else if (leftR g).2 = true then 4 else buildE g
set_option maxRecDepth 20000 in
theorem accept_code {lk lim : Nat} {H : Heap} (hlk : lk ≤ H.length) (g : Gm) (hl : g.ps.length ≤ 1000000) (hr : ∀ p ∈ g.ps,p.r.length ≤ 1000000) :
  callW X A lk lim 13 [gV g] H = some (I (accE g),H):=by
 have kc:=fun (L : Nat) => check_code (lk:=lk) (lim:=L) (H:=H) g hl hr
 have kr:=fun (L : Nat) => red_code (lk:=lk) (lim:=L) (H:=H) g hl hr hlk
 have kl:=fun (L : Nat) => left_code13 (lk:=lk) (lim:=L) (H:=H) g hl hr hlk
 obtain ⟨tv,kb,hT⟩:=build_code2 (lim:=H.length) hlk g hl hr
 refine wb_callB [1,8,9] rfl A13 rfl rfl ?_
 unfold t13B
 unfold redV at kr
 unfold leftV at kl
 generalize buildT g = T at hT
 obtain ⟨l,a,b,x,hx⟩:=cfV_get (buildC g)
 rw [hx] at kb
 unfold accE
 generalize buildE g = e at kb ⊢
 generalize chkE g = c at kc ⊢
 generalize redP g = rp at kr ⊢
 generalize leftR g = lr at kl ⊢
 obtain ⟨r1,r2⟩:=rp
 obtain ⟨l1,l2⟩:=lr
 obtain ⟨t,n,k,ps⟩:=g
 simp only [gV,Gm.cells] at kb kc kr kl
 generalize callW X A = C at kb kc kr kl ⊢
 by_cases hc : c = 0
 case neg =>
  have hc2 : (c != 0) = true:=by simpa using hc
  simp [Gm.cells,kc,hc2,hc]
 subst hc
 cases r2 with
 | false => simp [Gm.cells,kc,kr]
 | true =>
  cases l2 with
  | true => simp [Gm.cells,kc,kr,kl]
  | false =>
   rcases hT with ⟨rfl,_⟩ | ⟨cs,rfl,_⟩
   all_goals
    simp [Gm.cells,kc,kr,kl,kb,replaceAt]
end Go.Proofs.YtgbpioccaenjaaaGreat
