import Derived.Test.YtgbpioccaenjaaaGreatGV
set_option linter.unusedSimpArgs false
set_option linter.unusedVariables false
namespace Go.Proofs.YtgbpioccaenjaaaGreat
open Go Go.Hm

def buildE (g : Gm) : Int:=if chkE g = 0 then (match confM g with
 | some _ => 9
 | none => 0) else chkE g
def buildC (g : Gm) : Option (Nat × Nat × Nat × List UInt8):=if chkE g = 0 then confM g else none
def TV (tv : AV) (S : Ss) : Prop:=(tv = .e0 ∧ S = []) ∨ ∃ cs,tv = .sl cs.length cs ∧ SC cs S
def buildT (g : Gm) : Ss:=if buildE g = 0 then lookM g else []
theorem build_code2 {lk lim : Nat} {H : Heap} (hlk : lk ≤ H.length) (g : Gm) (hl : g.ps.length ≤ 1000000) (hr : ∀ p ∈ g.ps,p.r.length ≤ 1000000) :
  ∃ tv,callW X A lk lim 7 [gV g] H = some (.tup [.agg [tv],cfV (buildC g),I (buildE g)],H) ∧ TV tv (buildT g):=by
 obtain ⟨v,h',h,rfl,hb⟩:=build_code (lim:=lim) hlk g hl hr
 rw [h]
 unfold BuildR at hb
 unfold buildT buildE buildC
 by_cases hc : chkE g = 0
 ·rw [if_pos hc] at hb ⊢
  rw [if_pos hc]
  cases hm : confM g with
  | none =>
   rw [hm] at hb
   obtain ⟨cs,rfl,hs⟩:=hb
   exact ⟨_,rfl,.inr ⟨cs,rfl,hs⟩⟩
  | some c =>
   rw [hm] at hb
   simp only at hb
   subst hb
   exact ⟨_,rfl,.inl ⟨rfl,rfl⟩⟩
 ·rw [if_neg hc] at hb ⊢
  subst hb
  rw [if_neg hc,if_neg hc]
  exact ⟨_,rfl,.inl ⟨rfl,rfl⟩⟩
theorem cfV_get (c : Option (Nat × Nat × Nat × List UInt8)) : ∃ (l a b : Nat) (x : List UInt8),cfV c = .agg [I l,I a,I b,Sg x]:=by
 cases c with
 | none => exact ⟨0,0,0,[],rfl⟩
 | some c => obtain ⟨l,a,b,x⟩:=c;exact ⟨l,a,b,x,rfl⟩
set_option maxRecDepth 20000 in
theorem strong_code {lk lim : Nat} {H : Heap} (hlk : lk ≤ H.length) (g : Gm) (hl : g.ps.length ≤ 1000000) (hr : ∀ p ∈ g.ps,p.r.length ≤ 1000000) :
  callW X A lk lim 10 [gV g] H = some (.tup [cfV (buildC g),Bo (decide (buildE g = 0))],H):=by
 obtain ⟨tv,kb,hT⟩:=build_code2 (lim:=H.length) hlk g hl hr
 refine wb_callB [1,2,4] rfl A10 rfl rfl ?_
 unfold t10B
 generalize buildT g = T at hT
 obtain ⟨l,a,b,x,hx⟩:=cfV_get (buildC g)
 rw [hx] at kb ⊢
 generalize buildE g = e at kb ⊢
 obtain ⟨t,n,k,ps⟩:=g
 simp only [gV,Gm.cells] at kb
 generalize callW X A = C at kb ⊢
 have he : ((e == 0) : Bool) = decide (e = 0):=by by_cases h : e = 0 <;> simp [h]
 rcases hT with ⟨rfl,_⟩ | ⟨cs,rfl,_⟩
 all_goals
  simp [Gm.cells,kb,replaceAt,he]
end Go.Proofs.YtgbpioccaenjaaaGreat

namespace Go.Proofs.YtgbpioccaenjaaaGreat
open Go Go.Hm

def prdF (S : Ss) (row : List UInt8) : List Nat → Int
 | [] => -1
 | i :: r => if hasV (S.getD i []) row = true then i else prdF S row r
def prdM (g : Gm) (S : Ss) (left : Int) (row : List UInt8) : Int:=
 if S.length ≠ g.ps.length then -1 else if chkE g ≠ 0 then -1 else prdF S row (ofN g.ps left g.ps.length)
theorem ofN_lt {ps : List Pr} {left : Int} {i : Nat} (h : i ∈ ofN ps left ps.length) : i < ps.length:=(mem_ofN.1 h).1
theorem TV.len {tv : AV} {S : Ss} (h : TV tv S) : tv = .e0 ∧ S.length = 0 ∨ ∃ cs,tv = .sl cs.length cs ∧ cs.length = S.length:=by
 rcases h with ⟨rfl,rfl⟩ | ⟨cs,rfl,hs⟩
 ·exact .inl ⟨rfl,rfl⟩
 ·exact .inr ⟨cs,rfl,hs.1⟩
set_option maxRecDepth 20000 in
theorem predict_code {lk lim : Nat} {H : Heap} (hlk : lk ≤ H.length) (g : Gm) (hl : g.ps.length ≤ 1000000) (hr : ∀ p ∈ g.ps,p.r.length ≤ 1000000) {tv : AV} {S : Ss} (hT : TV tv S) (hS : ∀ l ∈ S,l.length ≤ 1000000000) (left : Int) (row : List UInt8) :
  callW X A lk lim 16 [gV g,.agg [tv],I left,Sg row] H = some (I (prdM g S left row),H):=by
 have ko:=fun (L : Nat) => gof_code (lk:=lk) (lim:=L) (H:=H) g left hl hr hlk
 have kh:=fun (L : Nat) (v : AV) (l : List (List UInt8)) (hv : RV v l) (h : l.length ≤ 1000000000) => has_code (lk:=lk) (lim:=L) (H:=H) hv row h
 refine wb_callB [4,5] rfl A16 rfl rfl ?_
 unfold t16B prdM
 unfold gofV at ko
 have hlt : ∀ j ∈ ofN g.ps left g.ps.length,j < g.ps.length:=fun j hj => ofN_lt hj
 have hol : (ofN g.ps left g.ps.length).length ≤ 1000000:=Nat.le_trans (ofN_len ..) hl
 generalize ofN g.ps left g.ps.length = o at ko hlt hol ⊢
 obtain ⟨q,hq,hqlt,hql,hqv⟩ : ∃ q : List Nat,(if chkE g = 0 then slvN o else .e0) = slvN q ∧ (∀ j ∈ q,j < g.ps.length) ∧ q.length ≤ 1000000 ∧ (if chkE g ≠ 0 then -1 else prdF S row o) = prdF S row q:=by
  by_cases hc : chkE g = 0
  ·exact ⟨o,by rw [if_pos hc],hlt,hol,by rw [if_neg (by omega)]⟩
  ·exact ⟨[],by rw [if_neg hc];rfl,by simp,by simp,by rw [if_pos hc];rfl⟩
 rw [hq] at ko
 rw [hqv]
 clear hq hqv hlt hol
 obtain ⟨t,n,k,ps⟩:=g
 simp only [gV,Gm.cells] at ko hqlt ⊢
 by_cases hn : S.length = ps.length
 case neg =>
  rw [if_pos hn]
  generalize callW X A = C
  rcases hT.len with ⟨rfl,h0⟩ | ⟨cs,rfl,h0⟩
  ·have h1 : ¬ 0 = ps.length:=by rw [h0] at hn;exact hn
   have h2 : (((0 : Nat) : Int) != (ps.length : Int)) = true:=by rw [bne_iff_ne];omega
   have h3 : ((0 : Int) != (ps.length : Int)) = true:=by rw [bne_iff_ne];omega
   have h4 : ¬ (0 : Int) = ps.length:=by omega
   have h5 : ¬ ps = []:=fun e => by subst e;exact h1 rfl
   simp [h2,h3,h4,h5]
  ·have h1 : ¬ (cs.length : Int) = ps.length:=by omega
   have h2 : ((cs.length : Int) != (ps.length : Int)) = true:=by rw [bne_iff_ne];exact h1
   simp [h2,h1]
 rw [show (if S.length ≠ ps.length then (-1 : Int) else prdF S row q) = prdF S row q from if_neg (fun h => h hn)]
 generalize callW X A = C at ko kh ⊢
 obtain ⟨R,hR⟩ : ∃ R,prdF S row q = R:=⟨_,rfl⟩
 rw [hR]
 have main : ∀ L E,restrict [3,5,20,21,22] E = [(3,Sg row),(5,.box [tv]),(20,slvN q),(21,I q.length),(22,I 0)] → WB ⟨C,lk,L,[4,5]⟩ (.block 0 (.loop [3,5,20,21,22] t16L1)) (Fol ⟨C,lk,L,[4,5]⟩ (.seq (.regN [] [⟨some 8,none,.mv (.con (.val (.int .i64 (-1)))),0,false⟩]) .ret) (FinT [.tmp 8] true H (I R,H))) E H:=by
  intro L E hE
  rw [wb_block]
  refine wb_loop (σ:=Nat) (fun i => [(3,Sg row),(5,.box [tv]),(20,slvN q),(21,I q.length),(22,I i)]) (fun _ => H) (fun i => i ≤ q.length ∧ prdF S row (q.drop i) = R) (fun i => q.length - i) ?_ 0 ⟨Nat.zero_le _,hR⟩ hE rfl
  rintro i ⟨hi,hinv⟩
  unfold t16L1
  have w1 : IntKind.i64.wrap ((i : Int) + 1) = (i : Int) + 1:=wrap64 (by omega) (by omega)
  by_cases hil : i < q.length
  case neg =>
   obtain rfl : i = q.length:=by omega
   rw [List.drop_length] at hinv
   simp only [prdF] at hinv
   subst hinv
   by_cases hq0 : q = []
   ·simp [slvN,hq0]
   ·simp [slvN,hq0]
  have hq0 : ¬ q = []:=fun e => by subst e;simp at hil
  have hsl : slvN q = .sl q.length (nts q):=by unfold slvN;rw [if_neg hq0]
  rw [List.drop_eq_getElem_cons hil] at hinv
  have hjl:=hqlt _ (List.getElem_mem hil)
  generalize hj : q[i] = j at hinv hjl
  simp only [prdF] at hinv
  rcases hT with ⟨rfl,rfl⟩ | ⟨cs,rfl,hs⟩
  ·simp at hn;omega
  obtain ⟨v,hv1,hv2⟩:=hs.get (j:=j) (by omega)
  have kv:=fun L => kh L v _ hv2 (hS _ (by rw [List.getD_eq_getElem?_getD,List.getElem?_eq_getElem (by omega)];exact List.getElem_mem _))
  have hcl : j < cs.length:=by rw [hs.1];omega
  have hvE : ∀ h,cs[j]'h = v:=fun h => (List.getElem?_eq_some_iff.1 hv1).2
  rw [hsl]
  generalize S.getD j [] = vl at hv2 kv hinv
  cases hh : hasV vl row with
  | true =>
   rw [hh] at kv
   rw [if_pos hh] at hinv
   rcases rv_noRp hv2 with rfl | rfl
   all_goals
    simp [hil,hj,hvE,hcl,kv,← hinv]
  | false =>
   rw [hh] at kv
   rw [if_neg (by rw [hh];simp)] at hinv
   rcases rv_noRp hv2 with rfl | rfl
   all_goals
    simp [hil,hj,hvE,hcl,kv,w1,rnd_nrm]
    exact ⟨i + 1,⟨by omega,hinv⟩,by omega,by simp⟩
 rcases hT.len with ⟨rfl,h0⟩ | ⟨cs,rfl,h0⟩
 ·have h5 : ps = []:=List.eq_nil_of_length_eq_zero (by omega)
  subst h5
  have h6 : q = []:=by
   cases q with
   | nil => rfl
   | cons j q => have:=hqlt j (by simp);simp at this
  subst h6
  have h7 : slvN [] = .e0:=rfl
  rw [h7] at ko main
  simp only [List.length_nil] at ko main
  simp [-wb_block,ko]
  refine main _ _ ?_
  simp
 ·have h1 : cs.length = ps.length:=by omega
  have hh : ∀ L E,restrict [3,5,20,21,22] E = [(3,Sg row),(5,.box [.sl ps.length cs]),(20,slvN q),(21,I q.length),(22,I 0)] → _:=fun L E hE => main L E (by rw [h1];exact hE)
  clear main
  by_cases hq0 : q = []
  ·have h7 : slvN q = .e0:=if_pos hq0
   have h8 : q.length = 0:=by rw [hq0];rfl
   rw [h7] at ko hh
   rw [h8] at hh
   simp [-wb_block,h1,ko]
   refine hh _ _ ?_
   simp
  ·have h7 : slvN q = .sl q.length (nts q):=if_neg hq0
   rw [h7] at ko hh
   simp [-wb_block,h1,ko]
   refine hh _ _ ?_
   simp
end Go.Proofs.YtgbpioccaenjaaaGreat
