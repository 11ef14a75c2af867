import Derived.Test.YtgbpioccaenjaaaGreatHA
set_option linter.unusedSimpArgs false
set_option linter.unusedVariables false
namespace Go.Proofs.YtgbpioccaenjaaaGreat
open Go Go.Hm

set_option maxRecDepth 20000 in
theorem l12_code {C : Orc} {Q : Ex → Kt} {E : Env} {lk L : Nat} {H : Heap} {cs ds : List AV} {j : Nat} {va vb : AV} {a b : List (List UInt8)} (ga : cs[j]? = some va) (gb : ds[j]? = some vb) (ra : RV va a) (rb : RV vb b) (hl : a.length = b.length) (hla : a.length ≤ 1000000000)
  (hE : restrict [2,3,5,6] E = [(2,.box [.sl cs.length cs]),(3,.box [.sl ds.length ds]),(5,I j),(6,I 0)])
  (hQ : a = b → ∀ E',restrict [2,3,5] E' = [(2,.box [.sl cs.length cs]),(3,.box [.sl ds.length ds]),(5,I j)] → Q .nrm E' H) (hR : ¬ a = b → ∀ E',E' = [(4,Bo false)] → Q .ret E' H) :
  WB ⟨C,lk,L,[2,3]⟩ (.block 2 (.loop [2,3,5,6] t12L1)) Q E H:=by
 have hci : j < cs.length:=(List.getElem?_eq_some_iff.1 ga).1
 have hdi : j < ds.length:=(List.getElem?_eq_some_iff.1 gb).1
 have gaE : ∀ h,cs[j]'h = va:=fun h => (List.getElem?_eq_some_iff.1 ga).2
 have gbE : ∀ h,ds[j]'h = vb:=fun h => (List.getElem?_eq_some_iff.1 gb).2
 rw [wb_block]
 refine wb_loop (σ:=Nat) (fun i => [(2,.box [.sl cs.length cs]),(3,.box [.sl ds.length ds]),(5,I j),(6,I i)]) (fun _ => H) (fun i => i ≤ a.length ∧ (a = b ↔ a.drop i = b.drop i)) (fun i => a.length - i) ?_ 0 ⟨Nat.zero_le _,by simp⟩ hE rfl
 rintro i ⟨hi,hinv⟩
 unfold t12L1
 have w1 : IntKind.i64.wrap ((i : Int) + 1) = (i : Int) + 1:=wrap64 (by omega) (by omega)
 by_cases hil : i < a.length
 case neg =>
  obtain rfl : i = a.length:=by omega
  have hab:=drop_end hinv hl
  have hQ1:=hQ hab
  clear hQ hR hinv
  rcases ra with rfl | ⟨rfl,rfl⟩ <;> rcases rb with rfl | ⟨rfl,rfl⟩
  all_goals
   simp [hci,hdi,gaE,gbE]
   refine hQ1 _ ?_
   rfl
 have hib : i < b.length:=by omega
 obtain ⟨d1,d2⟩:=drop_iff hil hib hinv
 have xa:=rowsB_getE hil
 have xb:=rowsB_getE hib
 rcases ra with rfl | ⟨rfl,rfl⟩
 case inr => simp at hil
 rcases rb with rfl | ⟨rfl,rfl⟩
 case inr => simp at hib
 by_cases he : a[i] = b[i]
 ·have hq:=sg_neq a[i] b[i]
  rw [show (!(a[i] == b[i])) = false by simp [he]] at hq
  have d1:=d1 he
  simp [hil,hib,hci,hdi,gaE,gbE,xa,xb,hq,w1,rnd_nrm]
  exact ⟨i + 1,⟨by omega,d1⟩,by omega,by simp⟩
 ·have hq:=sg_neq a[i] b[i]
  rw [show (!(a[i] == b[i])) = true by simp [he]] at hq
  have hR:=hR (d2 he)
  simp [hil,hib,hci,hdi,gaE,gbE,xa,xb,hq]
  refine hR _ ?_
  rfl
set_option maxRecDepth 20000 in
theorem rsame_code {lk lim : Nat} {H : Heap} {ta tb : AV} {S T : Ss} (hta : TV ta S) (htb : TV tb T) (hla : S.length ≤ 1000000000) (hl1 : ∀ l ∈ S,l.length ≤ 1000000000) : callW X A lk lim 12 [.agg [ta],.agg [tb]] H = some (Bo (decide (S = T)),H):=by
 refine wb_callB [2,3] rfl A12 rfl rfl ?_
 unfold t12B
 generalize callW X A = C
 by_cases hl : S.length = T.length
 case neg =>
  have hne : ¬ S = T:=fun e => hl (by rw [e])
  have hne2 : decide (S = T) = false:=decide_eq_false hne
  rw [hne2]
  rcases hta.len with ⟨rfl,h1⟩ | ⟨cs,rfl,h1⟩ <;> rcases htb.len with ⟨rfl,h2⟩ | ⟨ds,rfl,h2⟩
  ·omega
  ·have h3 : ((0 : Int) != ds.length) = true:=by rw [bne_iff_ne];omega
   have h4 : ¬ ds = []:=fun e => by subst e;simp at h2;omega
   simp [h3,h4]
  ·have h3 : ((cs.length : Int) != 0) = true:=by rw [bne_iff_ne];omega
   have h4 : ¬ cs = []:=fun e => by subst e;simp at h1;omega
   simp [h3,h4]
  ·have h3 : ((cs.length : Int) != ds.length) = true:=by rw [bne_iff_ne];omega
   have h4 : ¬ (cs.length : Int) = ds.length:=by omega
   simp [h3,h4]
 obtain ⟨r,hr⟩ : ∃ r,decide (S = T) = r:=⟨_,rfl⟩
 rw [hr]
 have main : ∀ E,restrict [2,3,5] E = [(2,.box [ta]),(3,.box [tb]),(5,I 0)] → WB ⟨C,lk,H.length,[2,3]⟩ (.block 0 (.loop [2,3,5] t12L2)) (Fol ⟨C,lk,H.length,[2,3]⟩ (.seq (.regN [] [⟨some 4,none,.mv (.con (.val (.bool true))),0,false⟩]) .ret) (FinT [.tmp 4] true H (Bo r,H))) E H:=by
  intro E hE
  rw [wb_block]
  refine wb_loop (σ:=Nat) (fun i => [(2,.box [ta]),(3,.box [tb]),(5,I i)]) (fun _ => H) (fun i => i ≤ S.length ∧ (S = T ↔ S.drop i = T.drop i)) (fun i => S.length - i) ?_ 0 ⟨Nat.zero_le _,by simp⟩ hE rfl
  rintro i ⟨hi,hinv⟩
  unfold t12L2
  have w1 : IntKind.i64.wrap ((i : Int) + 1) = (i : Int) + 1:=wrap64 (by omega) (by omega)
  by_cases hil : i < S.length
  case neg =>
   obtain rfl : i = S.length:=by omega
   have:=drop_end hinv hl
   rw [decide_eq_true this] at hr
   subst hr
   rcases hta.len with ⟨rfl,h1⟩ | ⟨cs,rfl,h1⟩
   ·rw [h1]
    rcases htb.len with ⟨rfl,h2⟩ | ⟨ds,rfl,h2⟩ <;> simp
   ·rw [← h1]
    rcases htb.len with ⟨rfl,h2⟩ | ⟨ds,rfl,h2⟩ <;> simp
  have hib : i < T.length:=by omega
  obtain ⟨d1,d2⟩:=drop_iff hil hib hinv
  rcases hta with ⟨rfl,rfl⟩ | ⟨cs,rfl,hs⟩
  ·simp at hil
  rcases htb with ⟨rfl,rfl⟩ | ⟨ds,rfl,ht⟩
  ·simp at hib
  obtain ⟨va,ga,ra⟩:=hs.get hil
  obtain ⟨vb,gb,rb⟩:=ht.get hib
  have hci : i < cs.length:=by rw [hs.1];exact hil
  have hdi : i < ds.length:=by rw [ht.1];exact hib
  rw [ss_get hil] at ra
  rw [ss_get hib] at rb
  have gaE : ∀ h,cs[i]'h = va:=fun h => (List.getElem?_eq_some_iff.1 ga).2
  have gbE : ∀ h,ds[i]'h = vb:=fun h => (List.getElem?_eq_some_iff.1 gb).2
  have hlsi:=hl1 _ (List.getElem_mem hil)
  generalize hSi : S[i] = a at ra d1 d2 hlsi
  generalize hTi : T[i] = b at rb d1 d2
  have ra':=ra
  have rb':=rb
  by_cases hab : a.length = b.length
  ·have hb2 : ((a.length : Int) != b.length) = false:=by rw [bne_eq_false_iff_eq];omega
   have h3 : (a.length : Int) = b.length:=by omega
   rw [wb_seq,wb_seq,wb_regN]
   simp [-wb_true,-wb_false,-wb_regD,-wb_regN,hil,hs.1]
   rw [wb_true rfl,wb_skip,fol_nrm,wb_seq,wb_block,wb_seq,wb_seq,wb_regD rfl]
   have hs1 : cs.length = S.length:=hs.1
   rcases ra with rfl | ⟨rfl,rfl⟩ <;> rcases rb with rfl | ⟨rfl,rfl⟩
   case inr.inl =>
    have hb0 : b = []:=List.eq_nil_of_length_eq_zero (by simpa using hab.symm)
    subst hb0
    simp [-wb_true,-wb_false,-wb_block,-wb_regN,hil,hci,hdi,gaE,gbE,← hs1]
    rw [wb_false rfl,wb_skip,fol_nrm,wb_seq,wb_regN]
    simp [-wb_block]
    refine l12_code ga gb ra' rb' hab hlsi (by simp) (fun he E' h5 => ?_) (fun he E' h5 => ?_)
    ·simp only [blk_nrm,fol_nrm]
     rw [wb_regN,h5]
     have d1:=d1 he
     simp [w1,rnd_nrm]
     exact ⟨i + 1,⟨by omega,d1⟩,by omega,by simp⟩
    ·exact absurd rfl he
   all_goals
    first
     | (have ha0 : a = []:=List.eq_nil_of_length_eq_zero (by simpa using hab);subst ha0)
     | skip
    simp [-wb_true,-wb_false,-wb_block,-wb_regN,hil,hci,hdi,gaE,gbE,hb2,← hs1]
    rw [wb_false rfl,wb_skip,fol_nrm,wb_seq,wb_regN]
    simp [-wb_block]
    refine l12_code ga gb ra' rb' hab hlsi (by simp) (fun he E' h5 => ?_) (fun he E' h5 => ?_)
    ·simp only [blk_nrm,fol_nrm]
     rw [wb_regN,h5]
     have d1:=d1 he
     simp [w1,rnd_nrm]
     exact ⟨i + 1,⟨by omega,d1⟩,by omega,by simp⟩
    ·subst h5
     rw [decide_eq_false (d2 he)] at hr
     subst hr
     simp
  ·have hb2 : ((a.length : Int) != b.length) = true:=by rw [bne_iff_ne];omega
   have hb3 : ¬ (a.length : Int) = b.length:=by omega
   have hne : ¬ a = b:=fun e => hab (by rw [e])
   rw [decide_eq_false (d2 hne)] at hr
   subst hr
   clear d1 d2 hinv
   rcases ra with rfl | ⟨rfl,rfl⟩ <;> rcases rb with rfl | ⟨rfl,rfl⟩
   ·simp [hil,hci,hdi,gaE,gbE,hb2,hb3]
   ·simp at hab
    simp at hb2
    simp [hil,hci,hdi,gaE,gbE,hab]
   ·have hbn : ¬ b = []:=fun e => hab (by rw [e])
    have h6 : ((0 : Int) != b.length) = true:=by rw [bne_iff_ne];have:=List.length_pos_iff.2 hbn;omega
    simp [hil,hci,hdi,gaE,gbE,h6,hbn]
   ·simp at hab
 rcases hta.len with ⟨rfl,h1⟩ | ⟨cs,rfl,h1⟩ <;> rcases htb.len with ⟨rfl,h2⟩ | ⟨ds,rfl,h2⟩
 ·simp [-wb_block,-wb_true,-wb_false]
  rw [wb_false rfl,wb_skip,fol_nrm,wb_seq,wb_seq,wb_regN]
  simp [-wb_block]
  refine main _ ?_
  simp
 ·have : ds = []:=List.eq_nil_of_length_eq_zero (by omega)
  subst this
  simp [-wb_block,-wb_true,-wb_false]
  rw [wb_false rfl,wb_skip,fol_nrm,wb_seq,wb_seq,wb_regN]
  simp [-wb_block]
  refine main _ ?_
  simp
 ·have : cs = []:=List.eq_nil_of_length_eq_zero (by omega)
  subst this
  simp [-wb_block,-wb_true,-wb_false]
  rw [wb_false rfl,wb_skip,fol_nrm,wb_seq,wb_seq,wb_regN]
  simp [-wb_block]
  refine main _ ?_
  simp
 ·have h3 : ((cs.length : Int) != ds.length) = false:=by rw [bne_eq_false_iff_eq];omega
  simp [-wb_block,-wb_true,-wb_false,h3]
  rw [wb_false rfl,wb_skip,fol_nrm,wb_seq,wb_seq,wb_regN]
  simp [-wb_block]
  refine main _ ?_
  simp
end Go.Proofs.YtgbpioccaenjaaaGreat

namespace Go.Proofs.YtgbpioccaenjaaaGreat
open Go Go.Hm

def prdC (c : Nat → Bool) (S : Ss) (row : List UInt8) : List Nat → Int
 | [] => -1
 | i :: r => if (c i && hasV (S.getD i []) row) = true then i else prdC c S row r
theorem prdC_eq (c : Nat → Bool) (S : Ss) (row : List UInt8) : ∀ l : List Nat,prdF S row (l.filter c) = prdC c S row l
 | [] => rfl
 | i :: r => by
  have ih:=prdC_eq c S row r
  unfold prdC
  cases hc : c i with
  | true => rw [List.filter_cons_of_pos hc,Bool.true_and,prdF,ih]
  | false => rw [List.filter_cons_of_neg (by simp [hc]),Bool.false_and,if_neg (by simp),ih]
set_option maxRecDepth 20000 in
theorem rpredict_code {lk lim : Nat} {H : Heap} (g : Gm) (hl : g.ps.length ≤ 1000000) (hr : ∀ p ∈ g.ps,p.r.length ≤ 1000000) {tv : AV} {S : Ss} (hT : TV tv S) (hS : ∀ l ∈ S,l.length ≤ 1000000000) (left : Int) (row : List UInt8) :
  callW X A lk lim 17 [gV g,.agg [tv],I left,Sg row] H = some (I (prdM g S left row),H):=by
 have kc:=fun (L : Nat) => rcheck_code (lk:=lk) (lim:=L) (H:=H) g hl hr
 have kh:=fun (L : Nat) (v : AV) (l : List (List UInt8)) (hv : RV v l) (h : l.length ≤ 1000000000) => has2_code (lk:=lk) (lim:=L) (H:=H) hv row h
 refine wb_callB [4,5] rfl A17 rfl rfl ?_
 unfold t17B prdM
 generalize chkE g = c at kc ⊢
 obtain ⟨t,n,k,ps⟩:=g
 simp only [gV,Gm.cells] at kc ⊢
 have hl : ps.length ≤ 1000000:=hl
 generalize callW X A = C at kc kh ⊢
 by_cases hc : c = 0
 case neg =>
  have hc2 : (c != 0) = true:=by simpa using hc
  have e : (if S.length ≠ ps.length then (-1 : Int) else if c ≠ 0 then -1 else prdF S row (ofN ps left ps.length)) = -1:=by
   split
   ·rfl
   ·rfl
  rw [e]
  simp [kc,hc,hc2]
 subst hc
 by_cases hn : S.length = ps.length
 case neg =>
  rw [if_pos hn]
  rcases hT.len with ⟨rfl,h0⟩ | ⟨cs,rfl,h0⟩
  ·have h3 : ((0 : Int) != (ps.length : Int)) = true:=by rw [bne_iff_ne];omega
   have h5 : ¬ ps = []:=fun e => by subst e;exact hn (by rw [h0];rfl)
   simp [kc,h3,h5]
  ·have h3 : ((cs.length : Int) != (ps.length : Int)) = true:=by rw [bne_iff_ne];omega
   have h4 : ¬ (cs.length : Int) = ps.length:=by omega
   simp [kc,h3,h4]
 rw [show (if S.length ≠ ps.length then (-1 : Int) else if (0 : Int) ≠ 0 then -1 else prdF S row (ofN ps left ps.length)) = prdF S row (ofN ps left ps.length) by rw [if_neg (fun h => h hn),if_neg (by simp)]]
 unfold ofN
 rw [prdC_eq]
 obtain ⟨R,hR⟩ : ∃ R,prdC (fun i => decide ((ps.getD i ⟨0,[]⟩).l = left)) S row (List.range ps.length) = R:=⟨_,rfl⟩
 rw [hR]
 have main : ∀ L E,restrict [2,3,4,5,9] E = [(2,I left),(3,Sg row),(4,.box [I t,I n,I k,.sl ps.length (psC ps)]),(5,.box [tv]),(9,I 0)] → WB ⟨C,lk,L,[4,5]⟩ (.block 0 (.loop [2,3,4,5,9] t17L1)) (Fol ⟨C,lk,L,[4,5]⟩ (.seq (.regN [] [⟨some 8,none,.mv (.con (.val (.int .i64 (-1)))),0,false⟩]) .ret) (FinT [.tmp 8] true H (I R,H))) E H:=by
  intro L E hE
  rw [wb_block]
  refine wb_loop (σ:=Nat) (fun i => [(2,I left),(3,Sg row),(4,.box [I t,I n,I k,.sl ps.length (psC ps)]),(5,.box [tv]),(9,I i)]) (fun _ => H)
   (fun i => i ≤ ps.length ∧ prdC (fun i => decide ((ps.getD i ⟨0,[]⟩).l = left)) S row ((List.range ps.length).drop i) = R) (fun i => ps.length - i) ?_ 0 ⟨Nat.zero_le _,hR⟩ hE rfl
  rintro i ⟨hi,hinv⟩
  unfold t17L1
  have w1 : IntKind.i64.wrap ((i : Int) + 1) = (i : Int) + 1:=wrap64 (by omega) (by omega)
  by_cases hil : i < ps.length
  case neg =>
   obtain rfl : i = ps.length:=by omega
   rw [List.drop_eq_nil_of_le (by simp)] at hinv
   simp only [prdC] at hinv
   subst hinv
   rcases hT.len with ⟨rfl,h0⟩ | ⟨cs,rfl,h0⟩ <;> simp
  rw [List.drop_eq_getElem_cons (by simpa using hil),List.getElem_range] at hinv
  simp only [prdC] at hinv
  have hs:=psC_l hil
  have hll:=psC_len ps
  have h2 : i * 2 < 2 * ps.length:=by omega
  have hge : (ps.getD i ⟨0,[]⟩).l = ps[i].l:=by rw [List.getD_eq_getElem?_getD,List.getElem?_eq_getElem hil];rfl
  have hq1 : ps[i].l = left → hasV (S.getD i []) row = true → (i : Int) = R:=fun h1 h2 => by rw [← hinv,if_pos (by rw [hge,h2,decide_eq_true h1];rfl)]
  have hq2 : ps[i].l = left → hasV (S.getD i []) row = false → prdC (fun i => decide ((ps.getD i ⟨0,[]⟩).l = left)) S row ((List.range ps.length).drop (i + 1)) = R:=fun h1 h2 => by rw [← hinv,if_neg (by rw [hge,h2];simp)]
  have hq3 : ¬ ps[i].l = left → prdC (fun i => decide ((ps.getD i ⟨0,[]⟩).l = left)) S row ((List.range ps.length).drop (i + 1)) = R:=fun h1 => by rw [← hinv,if_neg (by rw [hge,decide_eq_false h1];simp)]
  clear hinv
  have hsE : ∀ h,(psC ps)[i * 2]'h = I ps[i].l:=fun h => (List.getElem?_eq_some_iff.1 hs).2
  rcases hT with ⟨rfl,rfl⟩ | ⟨cs,rfl,hs2⟩
  ·simp at hn;omega
  obtain ⟨v,hv1,hv2⟩:=hs2.get (j:=i) (by omega)
  have kv:=fun L => kh L v _ hv2 (hS _ (by rw [List.getD_eq_getElem?_getD,List.getElem?_eq_getElem (by omega)];exact List.getElem_mem _))
  have hcl : i < cs.length:=by rw [hs2.1];omega
  have hvE : ∀ h,cs[i]'h = v:=fun h => (List.getElem?_eq_some_iff.1 hv1).2
  generalize S.getD i [] = vl at hv2 kv hq1 hq2
  generalize ps[i].l = pl at hs hsE hq1 hq2 hq3
  by_cases hp : pl = left
  ·subst hp
   cases hh : hasV vl row with
   | true =>
    rw [hh] at kv
    have hinv:=hq1 rfl hh
    rcases rv_noRp hv2 with rfl | rfl
    all_goals
     simp [hil,hsE,hll,h2,hvE,hcl,kv,← hinv]
   | false =>
    rw [hh] at kv
    have hinv:=hq2 rfl hh
    rcases rv_noRp hv2 with rfl | rfl
    all_goals
     simp [hil,hsE,hll,h2,hvE,hcl,kv,w1,rnd_nrm]
     exact ⟨i + 1,⟨by omega,hinv⟩,by omega,by simp⟩
  ·have hinv:=hq3 hp
   have hp2 : (pl == left) = false:=by simpa using hp
   simp [hil,hsE,hll,h2,hp,hp2,w1,rnd_nrm]
   exact ⟨i + 1,⟨by omega,hinv⟩,by omega,by simp⟩
 rcases hT.len with ⟨rfl,h0⟩ | ⟨cs,rfl,h0⟩
 ·have h5 : ps = []:=List.eq_nil_of_length_eq_zero (by omega)
  subst h5
  simp only [List.length_nil] at kc main
  simp [-wb_block,-wb_true,-wb_false,kc]
  rw [wb_false rfl,wb_skip,fol_nrm,wb_seq,wb_seq,wb_regN]
  simp [-wb_block]
  refine main _ _ ?_
  simp
 ·have h1 : cs.length = ps.length:=by omega
  rw [h1] at main
  simp [-wb_block,-wb_true,-wb_false,kc,h1]
  rw [wb_false rfl,wb_skip,fol_nrm,wb_seq,wb_seq,wb_regN]
  simp [-wb_block]
  refine main _ _ ?_
  simp
end Go.Proofs.YtgbpioccaenjaaaGreat

namespace Go.Proofs.YtgbpioccaenjaaaGreat
open Go Go.Hm

structure LRw (l : List (List UInt8)) : Prop where
 n : l.length ≤ 9223372036854775807
 s : ∀ x ∈ l,x.length ≤ 9223372036854775807
def lightR (l : List (List UInt8)) (m : Int) : Bool:=l.all (fun x => decide (x.length ≤ 20)) && decide ((l.length : Int) ≤ m)
theorem lrows_code {lk lim : Nat} {H : Heap} {l : List (List UInt8)} (hl : LRw l) (m : Int) : callW X A lk lim 21 [rowsV l,I m] H = some (Bo (lightR l m),H):=by
 refine wb_callB [] rfl A21 rfl rfl ?_
 unfold t21B
 generalize callW X A = C
 simp
 refine wb_loop (σ:=Nat) (fun i => [(0,rowsV l),(1,I m),(5,I i)]) (fun _ => H) (fun i => i ≤ l.length ∧ lightR l m = ((l.drop i).all (fun x => decide (x.length ≤ 20)) && decide ((l.length : Int) ≤ m))) (fun i => l.length - i) ?_ 0 ⟨by omega,by simp [lightR]⟩ (by simp [restrict,find]) rfl
 rintro i ⟨hi,hinv⟩
 have hln:=hl.n
 unfold t21L1
 by_cases hil : i < l.length
 ·have hd:=List.drop_eq_getElem_cons hil
  have w1 : IntKind.i64.wrap ((i : Int) + 1) = (i : Int) + 1:=wrap64 (by omega) (by omega)
  have ga:=rowsB_getE hil
  rw [hd,List.all_cons] at hinv
  generalize l[i] = x at ga hinv
  by_cases hx : (20 : Int) < x.length
  ·have : decide (x.length ≤ 20) = false:=decide_eq_false (by omega)
   rw [this,Bool.false_and,Bool.false_and] at hinv
   simp [hil,ga,Sg_size,hx,hinv]
  ·have : decide (x.length ≤ 20) = true:=decide_eq_true (by omega)
   rw [this,Bool.true_and] at hinv
   simp [hil,ga,Sg_size,hx,w1,rnd_nrm]
   exact ⟨i + 1,⟨by omega,hinv⟩,by omega,by omega⟩
 ·obtain rfl : i = l.length:=by omega
  rw [List.drop_length] at hinv
  rw [hinv]
  simp
def setsC (S : Ss) : List AV:=S.map rowsV
theorem setsC_sc (S : Ss) : SC (setsC S) S:=⟨by simp [setsC],fun j v h => by
 unfold setsC at h
 rw [List.getElem?_map] at h
 obtain ⟨l,hl,rfl⟩:=Option.map_eq_some_iff.1 h
 rw [List.getD_eq_getElem?_getD,hl]
 exact .inl rfl⟩
theorem setsC_tv (S : Ss) : TV (.sl S.length (setsC S)) S:=.inr ⟨setsC S,by rw [(setsC_sc S).1],setsC_sc S⟩
def lightT (S : Ss) : Bool:=S.all (fun l => lightR l 20) && decide (S.length ≤ 20)
theorem light6_code {lk lim : Nat} {H : Heap} (S : Ss) (hS : ∀ l ∈ S,LRw l) (hn : S.length ≤ 9223372036854775807) : callW X A lk lim 6 [.agg [.sl S.length (setsC S)]] H = some (Bo (lightT S),H):=by
 have kr:=fun (L : Nat) (l : List (List UInt8)) (h : LRw l) => lrows_code (lk:=lk) (lim:=L) (H:=H) h 20
 refine wb_callB [1] rfl A6 rfl rfl ?_
 unfold t6B
 generalize callW X A = C at kr ⊢
 simp
 refine wb_loop (σ:=Nat) (fun i => [(1,.box [.sl S.length (setsC S)]),(3,I i)]) (fun _ => H) (fun i => i ≤ S.length ∧ lightT S = ((S.drop i).all (fun l => lightR l 20) && decide (S.length ≤ 20))) (fun i => S.length - i) ?_ 0 ⟨Nat.zero_le _,rfl⟩ (by simp [restrict,find]) rfl
 rintro i ⟨hi,hinv⟩
 unfold t6L1
 by_cases hil : i < S.length
 ·have hd:=List.drop_eq_getElem_cons hil
  have w1 : IntKind.i64.wrap ((i : Int) + 1) = (i : Int) + 1:=wrap64 (by omega) (by omega)
  have hcl : i < (setsC S).length:=by simp [setsC,hil]
  have ga : ∀ h,(setsC S)[i]'h = rowsV S[i]:=fun h => by simp [setsC]
  have kr:=fun L => kr L _ (hS _ (List.getElem_mem hil))
  rw [hd,List.all_cons] at hinv
  generalize S[i] = l at ga hinv kr
  cases hb : lightR l 20 with
  | true =>
   rw [hb] at kr
   rw [hb,Bool.true_and] at hinv
   simp [hil,hcl,ga,kr,w1,rnd_nrm]
   exact ⟨i + 1,⟨by omega,hinv⟩,by omega,by simp⟩
  | false =>
   rw [hb] at kr
   rw [hb,Bool.false_and,Bool.false_and] at hinv
   simp [hil,hcl,ga,kr,hinv]
 ·obtain rfl : i = S.length:=by omega
  rw [List.drop_length] at hinv
  rw [hinv]
  simp
  omega
end Go.Proofs.YtgbpioccaenjaaaGreat
