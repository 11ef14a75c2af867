import Derived.Test.YtgbpioccaenjaaaGreatHD
import Derived.Test.YtgbpioccaenjaaaGreatWn
set_option linter.unusedSimpArgs false
set_option linter.unusedVariables false
namespace Go.Proofs.YtgbpioccaenjaaaGreat
open Go Go.Hm

set_option maxRecDepth 20000 in
theorem rbuild_code {lk lim : Nat} {H : Heap} (hlk : lk ≤ H.length) (g : Gm) (hl : g.ps.length ≤ 1000000) (hr : ∀ p ∈ g.ps,p.r.length ≤ 1000000) :
  ∃ v h',callW X A lk lim 9 [gV g] H = some (v,h') ∧ h' = H ∧ BuildR g v:=by
 have kc:=fun (L : Nat) => rcheck_code (lk:=lk) (lim:=L) (H:=H) g hl hr
 refine wb_callX [1,2,3,6,7] rfl A9 rfl rfl ?_
 unfold t9B
 by_cases hc : chkE g = 0
 case neg =>
  have fin : BuildR g (.tup [.agg [.e0],cfV none,I (chkE g)]):=by unfold BuildR;rw [if_neg hc]
  generalize BuildR g = Q at fin ⊢
  generalize chkE g = e at kc hc fin
  have hc2 : (e != 0) = true:=by simpa using hc
  obtain ⟨t,n,k,ps⟩:=g
  simp only [gV,Gm.cells] at kc
  generalize callW X A = C at kc ⊢
  simp [Gm.cells,kc,hc2,hc,finX_ret,replaceAt]
  exact ⟨_,_,⟨rfl,rfl⟩,rfl,fin⟩
 rw [hc] at kc
 obtain ⟨v,h',kt,e1,cs,rfl,hs⟩:=rtable_code (lim:=H.length) hlk g hc
 rw [e1] at kt
 have kf:=rconf_code (lk:=lk) (lim:=H.length) (H:=H) g hc hs
 have fin : match confM g with
  | some c => BuildR g (.tup [.agg [.e0],cfV (some c),I 9])
  | none => BuildR g (.tup [.agg [.sl cs.length cs],cfV none,I 0]):=by
  cases hm : confM g with
  | none => simp only;unfold BuildR;rw [if_pos hc,hm];exact ⟨cs,rfl,hs⟩
  | some c => simp only;unfold BuildR;rw [if_pos hc,hm]
 generalize BuildR g = Q at fin ⊢
 generalize confM g = r at kf fin
 obtain ⟨t,n,k,ps⟩:=g
 simp only [gV,Gm.cells] at kc kt kf
 generalize callW X A = C at kc kt kf ⊢
 cases r with
 | none =>
  simp only [conV] at kf fin
  simp [Gm.cells,kc,kt,kf,finX_ret,replaceAt]
  exact ⟨_,_,⟨rfl,rfl⟩,rfl,fin⟩
 | some c =>
  obtain ⟨l,a,b,x⟩:=c
  simp only [conV] at kf fin
  simp [Gm.cells,kc,kt,kf,finX_ret,replaceAt]
  exact ⟨_,_,⟨rfl,rfl⟩,rfl,fin⟩
theorem rbuild_code2 {lk lim : Nat} {H : Heap} (hlk : lk ≤ H.length) (g : Gm) (hl : g.ps.length ≤ 1000000) (hr : ∀ p ∈ g.ps,p.r.length ≤ 1000000) :
  ∃ tv,callW X A lk lim 9 [gV g] H = some (.tup [.agg [tv],cfV (buildC g),I (buildE g)],H) ∧ TV tv (buildT g):=by
 obtain ⟨v,h',h,rfl,hb⟩:=rbuild_code (lim:=lim) hlk g hl hr
 rw [h]
 unfold BuildR at hb
 unfold buildT buildE buildC
 by_cases hc : chkE g = 0
 ·rw [if_pos hc] at hb ⊢
  rw [if_pos hc]
  cases hm : confM g with
  | none =>
   rw [hm] at hb
   obtain ⟨cs,rfl,hs⟩:=hb
   exact ⟨_,rfl,.inr ⟨cs,rfl,hs⟩⟩
  | some c =>
   rw [hm] at hb
   simp only at hb
   subst hb
   exact ⟨_,rfl,.inl ⟨rfl,rfl⟩⟩
 ·rw [if_neg hc] at hb ⊢
  subst hb
  rw [if_neg hc,if_neg hc]
  exact ⟨_,rfl,.inl ⟨rfl,rfl⟩⟩
set_option maxRecDepth 20000 in
theorem rstrong_code {lk lim : Nat} {H : Heap} (hlk : lk ≤ H.length) (g : Gm) (hl : g.ps.length ≤ 1000000) (hr : ∀ p ∈ g.ps,p.r.length ≤ 1000000) :
  callW X A lk lim 11 [gV g] H = some (.tup [cfV (buildC g),Bo (decide (buildE g = 0))],H):=by
 obtain ⟨tv,kb,hT⟩:=rbuild_code2 (lim:=H.length) hlk g hl hr
 refine wb_callB [1,2,4,5] rfl A11 rfl rfl ?_
 unfold t11B
 generalize buildT g = T at hT
 obtain ⟨l,a,b,x,hx⟩:=cfV_get (buildC g)
 rw [hx] at kb ⊢
 generalize buildE g = e at kb ⊢
 obtain ⟨t,n,k,ps⟩:=g
 simp only [gV,Gm.cells] at kb
 generalize callW X A = C at kb ⊢
 have he : ((e == 0) : Bool) = decide (e = 0):=by by_cases h : e = 0 <;> simp [h]
 rcases hT with ⟨rfl,_⟩ | ⟨cs,rfl,_⟩
 all_goals
  simp [Gm.cells,kb,replaceAt,he]
set_option maxRecDepth 20000 in
theorem raccept_code {lk lim : Nat} {H : Heap} (hlk : lk ≤ H.length) (g : Gm) (hl : g.ps.length ≤ 1000000) (hr : ∀ p ∈ g.ps,p.r.length ≤ 1000000) :
  callW X A lk lim 14 [gV g] H = some (I (accE g),H):=by
 have kc:=fun (L : Nat) => rcheck_code (lk:=lk) (lim:=L) (H:=H) g hl hr
 have kr:=fun (L : Nat) => rred_code (lk:=lk) (lim:=L) (H:=H) g hl hr hlk
 have kl:=fun (L : Nat) => left_code26 (lk:=lk) (lim:=L) (H:=H) g hl hr hlk
 obtain ⟨tv,kb,hT⟩:=rbuild_code2 (lim:=H.length) hlk g hl hr
 refine wb_callB [1,8,9] rfl A14 rfl rfl ?_
 unfold t14B
 unfold redV at kr
 unfold leftV at kl
 generalize buildT g = T at hT
 obtain ⟨l,a,b,x,hx⟩:=cfV_get (buildC g)
 rw [hx] at kb
 unfold accE
 generalize buildE g = e at kb ⊢
 generalize chkE g = c at kc ⊢
 generalize redP g = rp at kr ⊢
 generalize leftR g = lr at kl ⊢
 obtain ⟨r1,r2⟩:=rp
 obtain ⟨l1,l2⟩:=lr
 obtain ⟨t,n,k,ps⟩:=g
 simp only [gV,Gm.cells] at kb kc kr kl
 generalize callW X A = C at kb kc kr kl ⊢
 by_cases hc : c = 0
 case neg =>
  have hc2 : (c != 0) = true:=by simpa using hc
  simp [Gm.cells,kc,hc2,hc]
 subst hc
 cases r2 with
 | false => simp [Gm.cells,kc,kr]
 | true =>
  cases l2 with
  | true => simp [Gm.cells,kc,kr,kl]
  | false =>
   rcases hT with ⟨rfl,_⟩ | ⟨cs,rfl,_⟩
   all_goals
    simp [Gm.cells,kc,kr,kl,kb,replaceAt]
end Go.Proofs.YtgbpioccaenjaaaGreat
