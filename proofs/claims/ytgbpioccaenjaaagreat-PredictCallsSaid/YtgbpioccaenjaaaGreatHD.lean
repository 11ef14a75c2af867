import Derived.Test.YtgbpioccaenjaaaGreatHC
set_option linter.unusedSimpArgs false
set_option linter.unusedVariables false
namespace Go.Proofs.YtgbpioccaenjaaaGreat
open Go Go.Hm

section
variable {C : Orc} {Q : Ex → Kt} {E : Env} {lk L : Nat} {H : Heap} {t k : Int} {n : Nat} {ps : List Pr} {cs : List AV} {S : Ss}
abbrev cV0 : AV:=.box [I 0,I 0,I 0,Sg []]
def cEnv (t k : Int) (n : Nat) (ps : List Pr) (cs : List AV) (e : Env) : Env:=(2,.box [I t,I n,I k,.sl ps.length (psC ps)]) :: (3,.box [.sl cs.length cs]) :: (4,cV0) :: e
def Found (Q : Ex → Kt) (H : Heap) (left a b : Nat) (x : List UInt8) : Prop:=∀ E',find E' 4 = .box [I left,I a,I b,Sg x] → find E' 5 = Bo true → Q .ret E' H
set_option maxRecDepth 20000 in
theorem c1_code (hs : SC cs S) (hn : S.length = ps.length) (hS : ∀ l ∈ S,l.length ≤ 1000000) {left a b : Nat} (ha : a < ps.length) (hb : b < ps.length)
  (kh : ∀ K M (v : AV) (l : List (List UInt8)) x,RV v l → l.length ≤ 1000000 → C K M 38 [v,Sg x] H = some (Bo (hasV l x),H))
  (hE : restrict [2,3,4,6,7,8,9] E = cEnv t k n ps cs [(6,I left),(7,I a),(8,I b),(9,I 0)])
  (hQ : (S.getD a []).find? (fun x => hasV (S.getD b []) x) = none → ∀ E',restrict [2,3,4,6,7,8] E' = cEnv t k n ps cs [(6,I left),(7,I a),(8,I b)] → Q .nrm E' H)
  (hR : ∀ x,(S.getD a []).find? (fun x => hasV (S.getD b []) x) = some x → Found Q H left a b x) :
  WB ⟨C,lk,L,[2,3,4]⟩ (.block 6 (.loop [2,3,4,6,7,8,9] t29L1)) Q E H:=by
 obtain ⟨va,ga,ra⟩:=hs.get (j:=a) (by omega)
 obtain ⟨vb,gb,rb⟩:=hs.get (j:=b) (by omega)
 have hca : a < cs.length:=by rw [hs.1];omega
 have hcb : b < cs.length:=by rw [hs.1];omega
 have gaE : ∀ h,cs[a]'h = va:=fun h => (List.getElem?_eq_some_iff.1 ga).2
 have gbE : ∀ h,cs[b]'h = vb:=fun h => (List.getElem?_eq_some_iff.1 gb).2
 have hla : (S.getD a []).length ≤ 1000000:=by rw [ss_get (by omega)];exact hS _ (List.getElem_mem _)
 have hlb : (S.getD b []).length ≤ 1000000:=by rw [ss_get (by omega)];exact hS _ (List.getElem_mem _)
 have kh:=fun K M x => kh K M vb _ x rb hlb
 generalize S.getD a [] = la at ra hla hQ hR
 generalize S.getD b [] = lb at rb hlb hQ hR kh
 rw [wb_block]
 refine wb_loop (σ:=Nat) (fun i => cEnv t k n ps cs [(6,I left),(7,I a),(8,I b),(9,I i)]) (fun _ => H) (fun i => i ≤ la.length ∧ la.find? (fun x => hasV lb x) = (la.drop i).find? (fun x => hasV lb x)) (fun i => la.length - i) ?_ 0 ⟨Nat.zero_le _,rfl⟩ hE rfl
 rintro i ⟨hi,hinv⟩
 unfold t29L1
 have w1 : IntKind.i64.wrap ((i : Int) + 1) = (i : Int) + 1:=wrap64 (by omega) (by omega)
 unfold cEnv at hQ ⊢
 by_cases hil : i < la.length
 case neg =>
  obtain rfl : i = la.length:=by omega
  have hQ1:=hQ (by rw [hinv,List.drop_length];rfl)
  clear hQ hR hinv
  rcases rv_noRp ra with h0 | h0
  ·have he : la = []:=by
    rcases ra with h1 | ⟨_,h1⟩
    ·rw [h0] at h1;cases h1
    ·exact h1
   subst he
   rw [h0] at gaE
   simp [hca,gaE]
   refine hQ1 _ ?_
   rfl
  ·rw [h0] at gaE
   simp [hca,gaE]
   refine hQ1 _ ?_
   rfl
 have hd:=List.drop_eq_getElem_cons hil
 rw [hd] at hinv
 have xa:=rowsB_getE hil
 rcases ra with h0 | ⟨_,h0⟩
 case inr => subst h0;simp at hil
 rw [h0] at gaE
 generalize la[i] = x at xa hinv
 have kh:=fun K M => kh K M x
 cases hx : hasV lb x with
 | true =>
  rw [List.find?_cons_of_pos (by simpa using hx)] at hinv
  have hR:=hR x hinv
  rw [hx] at kh
  unfold Found at hR
  clear hQ hinv
  rcases rv_noRp rb with h1 | h1
  all_goals
   rw [h1] at gbE kh
   simp [-wb_true,-wb_false,-wb_regD,-wb_regN,hil,hca,gaE]
   rw [wb_regN]
   simp [-wb_true,-wb_false,-wb_regD,-wb_regN,hil,hca,gaE]
   rw [wb_true rfl,wb_skip,fol_nrm,wb_seq,wb_block,wb_seq,wb_regD rfl]
   simp [-wb_true,-wb_false,-wb_regD,-wb_regN,hil,hca,hcb,gaE,gbE,xa,kh]
   rw [wb_true rfl,wb_seq,wb_regN]
   simp [-wi_stL,hil,hca,gaE,xa,replaceAt,cV0]
   rw [wi_stL]
   simp [replaceAt,cV0]
   refine hR _ ?_ ?_
   ·rfl
   ·rfl
 | false =>
  rw [List.find?_cons_of_neg (by simp [hx])] at hinv
  rw [hx] at kh
  clear hQ hR
  rcases rv_noRp rb with h1 | h1
  all_goals
   rw [h1] at gbE kh
   simp [-wb_true,-wb_false,-wb_regD,-wb_regN,hil,hca,gaE]
   rw [wb_regN]
   simp [-wb_true,-wb_false,-wb_regD,-wb_regN,hil,hca,gaE]
   rw [wb_true rfl,wb_skip,fol_nrm,wb_seq,wb_block,wb_seq,wb_regD rfl]
   simp [-wb_true,-wb_false,-wb_regD,-wb_regN,hil,hca,hcb,gaE,gbE,xa,kh]
   rw [wb_false rfl,wb_skip]
   simp [w1,rnd_nrm]
   exact ⟨i + 1,⟨by omega,hinv⟩,by omega,by simp⟩
end
end Go.Proofs.YtgbpioccaenjaaaGreat

namespace Go.Proofs.YtgbpioccaenjaaaGreat
open Go Go.Hm

section
variable {C : Orc} {Q : Ex → Kt} {E : Env} {lk L : Nat} {H : Heap} {t k : Int} {n : Nat} {ps : List Pr} {cs : List AV} {S : Ss}
def lftB (ps : List Pr) (left : Nat) (i : Nat) : Bool:=decide ((ps.getD i ⟨0,[]⟩).l = left)
theorem lftB_at {ps : List Pr} {left i : Nat} (h : i < ps.length) : lftB ps left i = decide (ps[i].l = (left : Int)):=by
 unfold lftB
 rw [List.getD_eq_getElem?_getD,List.getElem?_eq_getElem h];rfl
theorem range_drop {n i : Nat} (h : i < n) : (List.range n).drop i = i :: (List.range n).drop (i + 1):=by
 rw [List.drop_eq_getElem_cons (by simpa using h),List.getElem_range]
set_option maxRecDepth 20000 in
theorem c2_code (hs : SC cs S) (hn : S.length = ps.length) (hl : ps.length ≤ 1000000) (hS : ∀ l ∈ S,l.length ≤ 1000000) {left a : Nat} (ha : a < ps.length)
  (kh : ∀ K M (v : AV) (l : List (List UInt8)) x,RV v l → l.length ≤ 1000000 → C K M 38 [v,Sg x] H = some (Bo (hasV l x),H))
  (hE : restrict [2,3,4,6,7,8] E = cEnv t k n ps cs [(6,I left),(7,I a),(8,I ((a : Int) + 1))])
  (hQ : d3 S (lftB ps left) a ((List.range ps.length).drop (a + 1)) = none → ∀ E',restrict [2,3,4,6,7] E' = cEnv t k n ps cs [(6,I left),(7,I a)] → Q .nrm E' H)
  (hR : ∀ b x,d3 S (lftB ps left) a ((List.range ps.length).drop (a + 1)) = some (b,x) → Found Q H left a b x) :
  WB ⟨C,lk,L,[2,3,4]⟩ (.block 4 (.loop [2,3,4,6,7,8] t29L2)) Q E H:=by
 rw [wb_block]
 refine wb_loop (σ:=Nat) (fun b => cEnv t k n ps cs [(6,I left),(7,I a),(8,I b)]) (fun _ => H) (fun b => b ≤ ps.length ∧ d3 S (lftB ps left) a ((List.range ps.length).drop (a + 1)) = d3 S (lftB ps left) a ((List.range ps.length).drop b)) (fun b => ps.length - b) ?_ (a + 1) ⟨ha,rfl⟩ (by rw [hE];simp) rfl
 rintro b ⟨hi,hinv⟩
 unfold t29L2
 have w1 : IntKind.i64.wrap ((b : Int) + 1) = (b : Int) + 1:=wrap64 (by omega) (by omega)
 by_cases hib : b < ps.length
 case neg =>
  obtain rfl : b = ps.length:=by omega
  have hQ1:=hQ (by rw [hinv,List.drop_eq_nil_of_le (by simp)];rfl)
  clear hQ hR hinv hE
  unfold cEnv at hQ1 ⊢
  simp
  refine hQ1 _ ?_
  rfl
 rw [range_drop hib,d3] at hinv
 have hla:=lftB_at (left:=left) ha
 have hlb:=lftB_at (left:=left) hib
 have hsa:=psC_l ha
 have hsb:=psC_l hib
 have hll:=psC_len ps
 have h2a : a * 2 < 2 * ps.length:=by omega
 have h2b : b * 2 < 2 * ps.length:=by omega
 have hsaE : ∀ h,(psC ps)[a * 2]'h = I ps[a].l:=fun h => (List.getElem?_eq_some_iff.1 hsa).2
 have hsbE : ∀ h,(psC ps)[b * 2]'h = I ps[b].l:=fun h => (List.getElem?_eq_some_iff.1 hsb).2
 rw [hla,hlb] at hinv
 clear hla hlb hsa hsb
 -- the two lefts
 have skip : (decide (ps[a].l = (left : Int)) && decide (ps[b].l = (left : Int))) = false → d3 S (lftB ps left) a ((List.range ps.length).drop (a + 1)) = d3 S (lftB ps left) a ((List.range ps.length).drop (b + 1)):=fun h => by rw [hinv,if_neg (by rw [h];simp)]
 have go : (decide (ps[a].l = (left : Int)) && decide (ps[b].l = (left : Int))) = true → d3 S (lftB ps left) a ((List.range ps.length).drop (a + 1)) = (match (S.getD a []).find? (fun x => hasV (S.getD b []) x) with
  | some x => some (b,x)
  | none => d3 S (lftB ps left) a ((List.range ps.length).drop (b + 1))):=fun h => by rw [hinv,if_pos h];rfl
 clear hinv
 generalize ps[a].l = pa at hsaE skip go
 generalize ps[b].l = pb at hsbE skip go
 by_cases h1 : pa = left
 case neg =>
  have e1 : (pa != (left : Int)) = true:=by simpa using h1
  have hk:=skip (by rw [decide_eq_false h1];rfl)
  clear hQ hR skip go hE
  unfold cEnv
  simp [-wb_true,-wb_false,-wb_regN,hib]
  rw [wb_regN]
  simp [-wb_true,-wb_false,-wb_regN,hib]
  rw [wb_true rfl,wb_skip,fol_nrm,wb_seq,wb_block,wb_seq,wb_seq,wb_regN]
  simp [-wb_true,-wb_false,-wb_regN,ha,hib,hll,h2a,h2b,hsaE,hsbE,e1,h1]
  rw [wb_true rfl]
  simp [w1,rnd_nrm]
  exact ⟨b + 1,⟨by omega,hk⟩,by omega,by simp⟩
 have e1 : (pa != (left : Int)) = false:=by simpa using h1
 by_cases h2 : pb = left
 case neg =>
  have e2 : (pb != (left : Int)) = true:=by simpa using h2
  have hk:=skip (by rw [decide_eq_false h2];simp)
  clear hQ hR skip go hE
  unfold cEnv
  simp [-wb_true,-wb_false,-wb_regN,hib]
  rw [wb_regN]
  simp [-wb_true,-wb_false,-wb_regN,hib]
  rw [wb_true rfl,wb_skip,fol_nrm,wb_seq,wb_block,wb_seq,wb_seq,wb_regN]
  simp [-wb_true,-wb_false,-wb_regN,ha,hib,hll,h2a,h2b,hsaE,hsbE,e1,h1,e2,h2]
  rw [wb_true rfl]
  simp [w1,rnd_nrm]
  exact ⟨b + 1,⟨by omega,hk⟩,by omega,by simp⟩
 have e2 : (pb != (left : Int)) = false:=by simpa using h2
 have go:=go (by rw [decide_eq_true h1,decide_eq_true h2];rfl)
 clear skip hE
 have hst : cEnv t k n ps cs [(6,I left),(7,I a),(8,I b)] = [(2,.box [I t,I n,I k,.sl ps.length (psC ps)]),(3,.box [.sl cs.length cs]),(4,cV0),(6,I left),(7,I a),(8,I b)]:=rfl
 rw [hst]
 simp [-wb_true,-wb_false,-wb_regN,hib]
 rw [wb_regN]
 simp [-wb_true,-wb_false,-wb_regN,hib]
 rw [wb_true rfl,wb_skip,fol_nrm,wb_seq,wb_block,wb_seq,wb_seq,wb_regN]
 simp [-wb_true,-wb_false,-wb_regN,-wb_block,ha,hib,hll,h2a,h2b,hsaE,hsbE,e1,h1,e2,h2]
 rw [wb_false rfl,wb_skip,fol_nrm,wb_seq,wb_regN]
 simp [-wb_block]
 refine c1_code (left:=left) (a:=a) (b:=b) (t:=t) (k:=k) (n:=n) hs hn hS ha hib kh (by simp [cEnv]) (fun hnone E' h5 => ?_) (fun x hx => ?_)
 ·rw [hnone] at go
  simp only at go
  unfold cEnv at h5
  simp only [fol_nrm,blk_nrm]
  rw [wb_regN,h5]
  simp [w1,rnd_nrm]
  unfold cEnv
  exact ⟨b + 1,⟨by omega,go⟩,by omega,by simp⟩
 ·rw [hx] at go
  simp only at go
  have hR:=hR b x go
  intro E' h5 h6
  have:=hR E' h5 h6
  simpa using this
end
end Go.Proofs.YtgbpioccaenjaaaGreat

namespace Go.Proofs.YtgbpioccaenjaaaGreat
open Go Go.Hm

section
variable {C : Orc} {Q : Ex → Kt} {E : Env} {lk L : Nat} {H : Heap} {t k : Int} {n : Nat} {ps : List Pr} {cs : List AV} {S : Ss}
set_option maxRecDepth 20000 in
theorem c3_code (hs : SC cs S) (hn : S.length = ps.length) (hl : ps.length ≤ 1000000) (hS : ∀ l ∈ S,l.length ≤ 1000000) {left : Nat}
  (kh : ∀ K M (v : AV) (l : List (List UInt8)) x,RV v l → l.length ≤ 1000000 → C K M 38 [v,Sg x] H = some (Bo (hasV l x),H))
  (hE : restrict [2,3,4,6,7] E = cEnv t k n ps cs [(6,I left),(7,I 0)])
  (hQ : d2 S (lftB ps left) (List.range ps.length) = none → ∀ E',restrict [2,3,4,6] E' = cEnv t k n ps cs [(6,I left)] → Q .nrm E' H)
  (hR : ∀ a b x,d2 S (lftB ps left) (List.range ps.length) = some (a,b,x) → Found Q H left a b x) :
  WB ⟨C,lk,L,[2,3,4]⟩ (.block 2 (.loop [2,3,4,6,7] t29L3)) Q E H:=by
 rw [wb_block]
 refine wb_loop (σ:=Nat) (fun a => cEnv t k n ps cs [(6,I left),(7,I a)]) (fun _ => H) (fun a => a ≤ ps.length ∧ d2 S (lftB ps left) (List.range ps.length) = d2 S (lftB ps left) ((List.range ps.length).drop a)) (fun a => ps.length - a) ?_ 0 ⟨Nat.zero_le _,rfl⟩ (by rw [hE];simp) rfl
 rintro a ⟨hi,hinv⟩
 unfold t29L3
 have w1 : IntKind.i64.wrap ((a : Int) + 1) = (a : Int) + 1:=wrap64 (by omega) (by omega)
 have hst : cEnv t k n ps cs [(6,I left),(7,I a)] = [(2,.box [I t,I n,I k,.sl ps.length (psC ps)]),(3,.box [.sl cs.length cs]),(4,cV0),(6,I left),(7,I a)]:=rfl
 by_cases hia : a < ps.length
 case neg =>
  obtain rfl : a = ps.length:=by omega
  have hQ1:=hQ (by rw [hinv,List.drop_eq_nil_of_le (by simp)];rfl)
  clear hQ hR hinv hE
  unfold cEnv at hQ1
  rw [hst]
  simp
  refine hQ1 _ ?_
  rfl
 rw [range_drop hia,d2] at hinv
 rw [hst]
 simp [-wb_true,-wb_false,-wb_regN,hia]
 rw [wb_regN]
 simp [-wb_true,-wb_false,-wb_regN,hia]
 rw [wb_true rfl,wb_skip,fol_nrm,wb_seq,wb_block,wb_seq,wb_regN]
 simp [-wb_block,w1]
 refine c2_code (left:=left) (a:=a) (t:=t) (k:=k) (n:=n) hs hn hl hS hia kh (by simp [cEnv]) (fun hnone E' h5 => ?_) (fun b x hx => ?_)
 ·rw [hnone] at hinv
  simp only at hinv
  unfold cEnv at h5
  simp only [fol_nrm,blk_nrm]
  rw [wb_regN,h5]
  simp [w1,rnd_nrm]
  unfold cEnv
  exact ⟨a + 1,⟨by omega,hinv⟩,by omega,by simp⟩
 ·rw [hx] at hinv
  simp only at hinv
  have hR:=hR a b x hinv
  intro E' h5 h6
  have:=hR E' h5 h6
  simpa using this
set_option maxRecDepth 20000 in
theorem c4_code (hs : SC cs S) (hn : S.length = ps.length) (hl : ps.length ≤ 1000000) (hn16 : n ≤ 1000000) (hS : ∀ l ∈ S,l.length ≤ 1000000)
  (kh : ∀ K M (v : AV) (l : List (List UInt8)) x,RV v l → l.length ≤ 1000000 → C K M 38 [v,Sg x] H = some (Bo (hasV l x),H))
  (hE : restrict [2,3,4,6] E = cEnv t k n ps cs [(6,I 0)])
  (hQ : d1 S ps n 0 = none → ∀ E',restrict [4] E' = [(4,cV0)] → Q .nrm E' H)
  (hR : ∀ l a b x,d1 S ps n 0 = some (l,a,b,x) → Found Q H l a b x) :
  WB ⟨C,lk,L,[2,3,4]⟩ (.block 0 (.loop [2,3,4,6] t29L4)) Q E H:=by
 rw [wb_block]
 refine wb_loop (σ:=Nat) (fun l => cEnv t k n ps cs [(6,I l)]) (fun _ => H) (fun l => l ≤ n ∧ d1 S ps n 0 = d1 S ps (n - l) l) (fun l => n - l) ?_ 0 ⟨Nat.zero_le _,rfl⟩ (by rw [hE];simp) rfl
 rintro l ⟨hi,hinv⟩
 unfold t29L4
 have w1 : IntKind.i64.wrap ((l : Int) + 1) = (l : Int) + 1:=wrap64 (by omega) (by omega)
 have hst : cEnv t k n ps cs [(6,I l)] = [(2,.box [I t,I n,I k,.sl ps.length (psC ps)]),(3,.box [.sl cs.length cs]),(4,cV0),(6,I l)]:=rfl
 by_cases hil : l < n
 case neg =>
  obtain rfl : l = n:=by omega
  have hQ1:=hQ (by rw [hinv,Nat.sub_self];rfl)
  clear hQ hR hinv hE
  rw [hst]
  simp
  refine hQ1 _ ?_
  rfl
 obtain ⟨m,hm⟩ : ∃ m,n - l = m + 1:=⟨n - l - 1,by omega⟩
 rw [hm,d1] at hinv
 rw [hst]
 simp [-wb_true,-wb_false,-wb_regN,hil]
 rw [wb_regN]
 simp [-wb_true,-wb_false,-wb_regN,hil]
 rw [wb_true rfl,wb_skip,fol_nrm,wb_seq,wb_block,wb_seq,wb_regN]
 simp [-wb_block]
 refine c3_code (left:=l) (t:=t) (k:=k) (n:=n) hs hn hl hS kh (by simp [cEnv]) (fun hnone E' h5 => ?_) (fun a b x hx => ?_)
 ·rw [show d2 S (fun i => decide ((ps.getD i ⟨0,[]⟩).l = l)) (List.range ps.length) = none from hnone] at hinv
  simp only at hinv
  unfold cEnv at h5
  simp only [fol_nrm,blk_nrm]
  rw [wb_regN,h5]
  simp [w1,rnd_nrm]
  unfold cEnv
  exact ⟨l + 1,⟨by omega,by rw [hinv];congr 1;omega⟩,by omega,by simp⟩
 ·rw [show d2 S (fun i => decide ((ps.getD i ⟨0,[]⟩).l = l)) (List.range ps.length) = some (a,b,x) from hx] at hinv
  simp only at hinv
  have hR:=hR l a b x hinv
  intro E' h5 h6
  have:=hR E' h5 h6
  simpa using this
end
set_option maxRecDepth 20000 in
theorem rconf_code {lk lim : Nat} {H : Heap} (g : Gm) (hc : chkE g = 0) {cs : List AV} (hs : SC cs (lookM g)) : callW X A lk lim 29 [gV g,.agg [.sl cs.length cs]] H = some (conV (confM g),H):=by
 have ok:=gok_of hc
 have kh:=fun K M (v : AV) (l : List (List UInt8)) x (hv : RV v l) (h : l.length ≤ 1000000) => has2_code (lk:=K) (lim:=M) (H:=H) hv x (Nat.le_trans h (by decide))
 refine wb_callB [2,3,4] rfl A29 rfl rfl ?_
 unfold t29B
 have hd : confM g = d1 (lookM g) g.ps g.n.toNat 0:=d1_eq (up_getD ok) g.ps _ _
 rw [hd]
 have hln:=lookM_len g
 have hll : ∀ l ∈ lookM g,l.length ≤ 1000000:=fun l h => look_len ok h
 generalize lookM g = S at hs hln hll ⊢
 have l2:=ok.l2
 have n2:=ok.n2
 have n1:=ok.n1
 obtain ⟨t,n,k,ps⟩:=g
 simp only at hln l2 n1 n2 ⊢
 obtain ⟨n,rfl⟩:=Int.eq_ofNat_of_zero_le (by omega : 0 ≤ n)
 simp only [gV,Gm.cells,Int.toNat_natCast]
 generalize callW X A = C at kh ⊢
 simp [-wb_block,-wb_regN]
 rw [wb_regN]
 simp [-wb_block,-wb_regN]
 rw [wb_regN]
 simp [-wb_block]
 refine c4_code (n:=n) (t:=t) (k:=k) hs hln (by omega) (by omega) hll kh (by simp [cEnv]) (fun hnone E' h5 => ?_) (fun l a b x hx => ?_)
 ·rw [hnone]
  simp only [fol_nrm]
  rw [wb_seq,wb_regN,h5]
  simp [replaceAt,conV,cV0]
 ·rw [hx]
  intro E' h5 h6
  simp [h5,h6,conV]
end Go.Proofs.YtgbpioccaenjaaaGreat
