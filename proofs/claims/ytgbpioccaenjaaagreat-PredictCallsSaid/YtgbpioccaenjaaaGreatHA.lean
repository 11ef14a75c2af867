import Derived.Test.YtgbpioccaenjaaaGreatGW
set_option linter.unusedSimpArgs false
set_option linter.unusedVariables false
namespace Go.Proofs.YtgbpioccaenjaaaGreat
open Go Go.Hm

set_option maxRecDepth 20000 in
theorem rrow_code {lk lim : Nat} {H : Heap} (hlk : lk ≤ H.length) (k : Int) (ks : List Int) (hl : ks.length ≤ 1000000) : callW X A lk lim 19 [I k,.sl ks.length (ints ks)] H = some (Sg (rowM k ks),H):=by
 refine wb_callB [] rfl A19 rfl rfl ?_
 unfold t19B rowM
 generalize callW X A = C
 have hmk : min k.toNat ks.length ≤ k.toNat:=Nat.min_le_left _ _
 have hm : min k.toNat ks.length ≤ ks.length:=Nat.min_le_right _ _
 have hme : min k.toNat ks.length = k.toNat ∨ min k.toNat ks.length = ks.length:=by omega
 generalize min k.toNat ks.length = m at hm hmk hme ⊢
 have htl : (ks.take m).length = m:=by simp [hm]
 generalize ht : ks.take m = T at htl
 obtain ⟨R,hR⟩ : ∃ R,rowR T = R:=⟨_,rfl⟩
 rw [hR]
 simp
 refine wb_loop (σ:=Nat × List UInt8) (fun s => [(0,I k),(1,.sl ks.length (ints ks)),(5,bV H s.2),(6,I s.1)]) (fun s => bH H s.2)
  (fun s => s.1 ≤ m ∧ s.2.length = s.1 ∧ s.2 ++ rowR (T.drop s.1) = R) (fun s => m - s.1) ?_ (0,[]) ⟨Nat.zero_le _,rfl,hR⟩ (by simp [bV]) (by simp [bH])
 rintro ⟨i,o⟩ ⟨hi,ho,hinv⟩
 simp only at hi ho hinv
 unfold t19L1
 have w1 : IntKind.i64.wrap ((i : Int) + 1) = (i : Int) + 1:=wrap64 (by omega) (by omega)
 have hro1 : 1 ≤ room:=by unfold room;omega
 have hro : o.length + 1 ≤ room:=by unfold room;omega
 by_cases hil : i < m
 case neg =>
  obtain rfl : i = m:=by omega
  rw [List.drop_eq_nil_of_le (by omega)] at hinv
  simp only [rowR,List.append_nil] at hinv
  subst hinv
  have hcond : ¬ i < ks.length ∨ ¬ (i : Int) < k:=by omega
  by_cases hc : i < ks.length
  ·have hc2 : ¬ (i : Int) < k:=by omega
   by_cases h0 : o = []
   ·simp [bV,bH,h0,bytesOf,hc,hc2]
   ·simp [bV,bH,h0,bytesOf_bsL,bsL_len,bsL_take,hc,hc2]
  ·by_cases h0 : o = []
   ·simp [bV,bH,h0,bytesOf,hc]
   ·simp [bV,bH,h0,bytesOf_bsL,bsL_len,bsL_take,hc]
 have hik : i < ks.length:=by omega
 have hikk : (i : Int) < k:=by omega
 have hilT : i < T.length:=by omega
 obtain ⟨x,hx⟩ : ∃ x,ks[i] = x:=⟨_,rfl⟩
 have hxT : T[i] = x:=by subst ht;simp [hx]
 rw [List.drop_eq_getElem_cons hilT,hxT,rowR] at hinv
 have hxi : ∀ h,(ints ks)[i]'h = I x:=fun h => by simp [ints,hx]
 by_cases hx2 : x = -2
 ·subst hx2
  rw [if_pos rfl] at hinv
  have hb : bytesOf ((bsL o ++ [AV.val (.int .u8 255)]).take (o.length + 1)) = some (o ++ [255]):=by
   rw [List.take_of_length_le (by simp [bsL])]
   exact (congrArg bytesOf (bsL_app o 255)).trans (bytesOf_bsL (o ++ [255]))
  by_cases h0 : o = []
  ·subst h0
   simp [hik,hikk,hxi,bV,bH,srcCells,hro1,bytesOf]
   exact hinv
  ·simp [hik,hikk,hxi,bV,bH,h0,srcCells,hro,bsL_len,appC,appG,setH,hlk,hb]
   simp [← hinv]
 rw [if_neg hx2] at hinv
 have e1 : (x == -2) = false:=by simpa using hx2
 have go : ∀ (c : UInt8) E H',o ++ (c :: rowR (T.drop (i + 1))) = R → E = [(0,I k),(1,.sl ks.length (ints ks)),(5,bV H (o ++ [c])),(6,I ((i : Int) + 1))] → H' = bH H (o ++ [c]) →
   ∃ s : Nat × List UInt8,(s.1 ≤ m ∧ s.2.length = s.1 ∧ s.2 ++ rowR (T.drop s.1) = R) ∧ m - s.1 < m - i ∧ E = [(0,I k),(1,.sl ks.length (ints ks)),(5,bV H s.2),(6,I s.1)] ∧ H' = bH H s.2:=fun c E H' h0 h1 h2 =>
  ⟨(i + 1,o ++ [c]),⟨by simp only;omega,by simp [ho],by simp only;rw [← h0];simp⟩,by simp only;omega,by rw [h1];simp,h2⟩
 by_cases h3 : x < 0
 ·rw [if_pos (.inl h3)] at hinv
  by_cases h0 : o = []
  ·subst h0
   simp [hik,hikk,hxi,bV,bH,srcCells,hro1,hx2,e1,h3,w1]
   rw [rnd_nrm]
   refine go 254 _ _ hinv ?_ ?_
   ·simp [bV]
   ·simp [bH,bsL]
  ·simp [hik,hikk,hxi,bV,bH,h0,srcCells,hro,bsL_len,appC,appG,setH,hlk,hx2,e1,h3,w1]
   rw [rnd_nrm]
   refine go 254 _ _ hinv ?_ ?_
   ·simp [bV]
   ·simp [bH,bsL]
 by_cases h4 : 254 ≤ x
 ·rw [if_pos (.inr h4)] at hinv
  have h5 : 253 < x:=by omega
  by_cases h0 : o = []
  ·subst h0
   simp [hik,hikk,hxi,bV,bH,srcCells,hro1,hx2,e1,h3,h5,w1]
   rw [rnd_nrm]
   refine go 254 _ _ hinv ?_ ?_
   ·simp [bV]
   ·simp [bH,bsL]
  ·simp [hik,hikk,hxi,bV,bH,h0,srcCells,hro,bsL_len,appC,appG,setH,hlk,hx2,e1,h3,h5,w1]
   rw [rnd_nrm]
   refine go 254 _ _ hinv ?_ ?_
   ·simp [bV]
   ·simp [bH,bsL]
 rw [if_neg (by omega)] at hinv
 have h5 : ¬ 253 < x:=by omega
 have hy:=u8_wrap x
 by_cases h0 : o = []
 ·subst h0
  simp [hik,hikk,hxi,bV,bH,srcCells,hro1,hx2,e1,h3,h5,hy,w1]
  rw [rnd_nrm]
  refine go (byteI x) _ _ hinv ?_ ?_
  ·simp [bV]
  ·simp [bH,bsL]
 ·simp [hik,hikk,hxi,bV,bH,h0,srcCells,hro,bsL_len,appC,appG,setH,hlk,hx2,e1,h3,h5,hy,w1]
  rw [rnd_nrm]
  refine go (byteI x) _ _ hinv ?_ ?_
  ·simp [bV]
  ·simp [bH,bsL]
end Go.Proofs.YtgbpioccaenjaaaGreat

namespace Go.Proofs.YtgbpioccaenjaaaGreat
open Go Go.Hm

theorem drop_iff {α : Type} {S T : List α} {i : Nat} (hS : i < S.length) (hT : i < T.length) (h : S = T ↔ S.drop i = T.drop i) : (S[i] = T[i] → (S = T ↔ S.drop (i + 1) = T.drop (i + 1))) ∧ (S[i] ≠ T[i] → S ≠ T):=by
 rw [List.drop_eq_getElem_cons hS,List.drop_eq_getElem_cons hT,List.cons.injEq] at h
 exact ⟨fun e => by rw [h];simp [e],fun e e2 => e (by simp only [e2])⟩
theorem drop_end {α : Type} {S T : List α} (h : S = T ↔ S.drop S.length = T.drop S.length) (hl : S.length = T.length) : S = T:=by
 rw [h,List.drop_length,hl,List.drop_length]
set_option maxRecDepth 20000 in
theorem equal35_code {lk lim : Nat} {H : Heap} {va vb : AV} {a b : List (List UInt8)} (hva : RV va a) (hvb : RV vb b) (hla : a.length ≤ 1000000000) : callW X A lk lim 35 [va,vb] H = some (Bo (decide (a = b)),H):=by
 refine wb_callB [] rfl A35 rfl (by simp only [List.all_cons,List.all_nil,rv_one hva,rv_one hvb,Bool.and_self]) ?_
 unfold t35B
 generalize callW X A = C
 by_cases hl : a.length = b.length
 case neg =>
  have hne : ¬ a = b:=fun e => hl (by rw [e])
  have h1 : ¬ (a.length : Int) = b.length:=by omega
  have h2 : ((a.length : Int) != b.length) = true:=by rw [bne_iff_ne];exact h1
  rcases hva with rfl | ⟨rfl,rfl⟩ <;> rcases hvb with rfl | ⟨rfl,rfl⟩
  ·simp [h2,h1,hne]
  ·simp at h2 hl;simp [hl]
  ·have hb : ¬ b = []:=fun e => by subst e;simp at hl
   have h3 : ((0 : Int) != b.length) = true:=by simpa using h2
   have hbn : ¬ [] = b:=fun e => hb e.symm
   simp [h3,hbn]
   trace_state
  ·simp at hl
 have h2 : ((a.length : Int) != b.length) = false:=by rw [bne_eq_false_iff_eq];omega
 obtain ⟨r,hr⟩ : ∃ r,decide (a = b) = r:=⟨_,rfl⟩
 rw [hr]
 have main : ∀ E,restrict [0,1,12,13] E = [(0,va),(1,vb),(12,I a.length),(13,I 0)] → WB ⟨C,lk,H.length,[]⟩ (.block 0 (.loop [0,1,12,13] t35L1)) (Fol ⟨C,lk,H.length,[]⟩ (.seq (.regN [] [⟨some 4,none,.mv (.con (.val (.bool true))),0,false⟩]) .ret) (FinT [.tmp 4] true H (Bo r,H))) E H:=by
  intro E hE
  rw [wb_block]
  refine wb_loop (σ:=Nat) (fun i => [(0,va),(1,vb),(12,I a.length),(13,I i)]) (fun _ => H) (fun i => i ≤ a.length ∧ (a = b ↔ a.drop i = b.drop i)) (fun i => a.length - i) ?_ 0 ⟨Nat.zero_le _,by simp⟩ hE rfl
  rintro i ⟨hi,hinv⟩
  unfold t35L1
  have w1 : IntKind.i64.wrap ((i : Int) + 1) = (i : Int) + 1:=wrap64 (by omega) (by omega)
  by_cases hil : i < a.length
  case neg =>
   obtain rfl : i = a.length:=by omega
   have:=drop_end hinv hl
   rw [decide_eq_true this] at hr
   subst hr
   rcases hva with rfl | ⟨rfl,rfl⟩ <;> rcases hvb with rfl | ⟨rfl,rfl⟩ <;> simp
  have hib : i < b.length:=by omega
  obtain ⟨d1,d2⟩:=drop_iff hil hib hinv
  have ga:=rowsB_getE hil
  have gb:=rowsB_getE hib
  rcases hva with rfl | ⟨rfl,rfl⟩
  case inr => simp at hil
  rcases hvb with rfl | ⟨rfl,rfl⟩
  case inr => simp at hib
  by_cases he : a[i] = b[i]
  ·have hq:=sg_neq a[i] b[i]
   rw [show (!(a[i] == b[i])) = false by simp [he]] at hq
   simp [hil,hib,ga,gb,hq,w1,rnd_nrm]
   exact ⟨i + 1,⟨by omega,d1 he⟩,by omega,by simp⟩
  ·have hq:=sg_neq a[i] b[i]
   rw [show (!(a[i] == b[i])) = true by simp [he]] at hq
   rw [decide_eq_false (d2 he)] at hr
   subst hr
   simp [hil,hib,ga,gb,hq]
 have h3 : (a.length : Int) = b.length:=by omega
 rcases hva with rfl | ⟨rfl,rfl⟩ <;> rcases hvb with rfl | ⟨rfl,rfl⟩
 ·simp [-wb_block,← h3]
  refine main _ ?_
  simp
 ·have : a = []:=List.eq_nil_of_length_eq_zero hl
  subst this
  simp [-wb_block]
  refine main _ ?_
  simp
 ·have : b = []:=List.eq_nil_of_length_eq_zero hl.symm
  subst this
  simp [-wb_block]
  refine main _ ?_
  simp
 ·simp [-wb_block]
  refine main _ ?_
  simp
end Go.Proofs.YtgbpioccaenjaaaGreat

namespace Go.Proofs.YtgbpioccaenjaaaGreat
open Go Go.Hm

theorem tv_one {v : AV} {S : Ss} (h : TV v S) : argOk v = true:=by
 rcases h with ⟨rfl,_⟩ | ⟨cs,rfl,_⟩ <;> rfl
theorem ss_get {S : Ss} {i : Nat} (h : i < S.length) : S.getD i [] = S[i]:=by
 rw [List.getD_eq_getElem?_getD,List.getElem?_eq_getElem h];rfl
set_option maxRecDepth 20000 in
theorem eqf34_code {lk lim : Nat} {H : Heap} {ta tb : AV} {S T : Ss} (hta : TV ta S) (htb : TV tb T) (hla : S.length ≤ 1000000000) (hl1 : ∀ l ∈ S,l.length ≤ 1000000000) : callW X A lk lim 34 [ta,tb,.fn 35 []] H = some (Bo (decide (S = T)),H):=by
 have ke:=fun (L : Nat) (va vb : AV) (a b : List (List UInt8)) (ha : RV va a) (hb : RV vb b) (h : a.length ≤ 1000000000) => equal35_code (lk:=lk) (lim:=L) (H:=H) ha hb h
 refine wb_callB [] rfl A34 rfl (by simp only [List.all_cons,List.all_nil,tv_one hta,tv_one htb,Bool.and_self];rfl) ?_
 unfold t34B
 generalize callW X A = C at ke ⊢
 by_cases hl : S.length = T.length
 case neg =>
  have hne : ¬ S = T:=fun e => hl (by rw [e])
  have hne2 : decide (S = T) = false:=decide_eq_false hne
  rw [hne2]
  rcases hta.len with ⟨rfl,h1⟩ | ⟨cs,rfl,h1⟩ <;> rcases htb.len with ⟨rfl,h2⟩ | ⟨ds,rfl,h2⟩
  ·omega
  ·have h3 : ((0 : Int) != ds.length) = true:=by rw [bne_iff_ne];omega
   have h4 : ¬ ds = []:=fun e => by subst e;simp at h2;omega
   simp [h3,h4]
  ·have h3 : ((cs.length : Int) != 0) = true:=by rw [bne_iff_ne];omega
   have h4 : ¬ cs = []:=fun e => by subst e;simp at h1;omega
   simp [h3,h4]
  ·have h3 : ((cs.length : Int) != ds.length) = true:=by rw [bne_iff_ne];omega
   have h4 : ¬ (cs.length : Int) = ds.length:=by omega
   simp [h3,h4]
 obtain ⟨r,hr⟩ : ∃ r,decide (S = T) = r:=⟨_,rfl⟩
 rw [hr]
 have main : ∀ E,restrict [1,2,15,16,17] E = [(1,tb),(2,.fn 35 []),(15,ta),(16,I S.length),(17,I 0)] → WB ⟨C,lk,H.length,[]⟩ (.block 0 (.loop [1,2,15,16,17] t34L1)) (Fol ⟨C,lk,H.length,[]⟩ (.seq (.regN [] [⟨some 6,none,.mv (.con (.val (.bool true))),0,false⟩]) .ret) (FinT [.tmp 6] true H (Bo r,H))) E H:=by
  intro E hE
  rw [wb_block]
  refine wb_loop (σ:=Nat) (fun i => [(1,tb),(2,.fn 35 []),(15,ta),(16,I S.length),(17,I i)]) (fun _ => H) (fun i => i ≤ S.length ∧ (S = T ↔ S.drop i = T.drop i)) (fun i => S.length - i) ?_ 0 ⟨Nat.zero_le _,by simp⟩ hE rfl
  rintro i ⟨hi,hinv⟩
  unfold t34L1
  have w1 : IntKind.i64.wrap ((i : Int) + 1) = (i : Int) + 1:=wrap64 (by omega) (by omega)
  by_cases hil : i < S.length
  case neg =>
   obtain rfl : i = S.length:=by omega
   have:=drop_end hinv hl
   rw [decide_eq_true this] at hr
   subst hr
   rcases hta.len with ⟨rfl,h1⟩ | ⟨cs,rfl,h1⟩ <;> rcases htb.len with ⟨rfl,h2⟩ | ⟨ds,rfl,h2⟩ <;> simp
  have hib : i < T.length:=by omega
  obtain ⟨d1,d2⟩:=drop_iff hil hib hinv
  rcases hta with ⟨rfl,rfl⟩ | ⟨cs,rfl,hs⟩
  ·simp at hil
  rcases htb with ⟨rfl,rfl⟩ | ⟨ds,rfl,ht⟩
  ·simp at hib
  obtain ⟨va,ga,ra⟩:=hs.get hil
  obtain ⟨vb,gb,rb⟩:=ht.get hib
  have hci : i < cs.length:=by rw [hs.1];exact hil
  have hdi : i < ds.length:=by rw [ht.1];exact hib
  rw [ss_get hil] at ra
  rw [ss_get hib] at rb
  have ke:=fun L => ke L va vb _ _ ra rb (hl1 _ (List.getElem_mem hil))
  have gaE : ∀ h,cs[i]'h = va:=fun h => (List.getElem?_eq_some_iff.1 ga).2
  have gbE : ∀ h,ds[i]'h = vb:=fun h => (List.getElem?_eq_some_iff.1 gb).2
  by_cases he : S[i] = T[i]
  ·rw [decide_eq_true he] at ke
   have d1:=d1 he
   generalize S[i] = a at ra
   generalize T[i] = b at rb
   rcases rv_noRp ra with rfl | rfl <;> rcases rv_noRp rb with rfl | rfl
   all_goals
    simp [hil,hci,hdi,gaE,gbE,ke,w1,rnd_nrm]
    exact ⟨i + 1,⟨by omega,d1⟩,by omega,by simp⟩
  ·rw [decide_eq_false he] at ke
   rw [decide_eq_false (d2 he)] at hr
   subst hr
   clear he d1 d2
   generalize S[i] = a at ra
   generalize T[i] = b at rb
   rcases rv_noRp ra with rfl | rfl <;> rcases rv_noRp rb with rfl | rfl
   all_goals
    simp [hil,hci,hdi,gaE,gbE,ke]
 rcases hta.len with ⟨rfl,h1⟩ | ⟨cs,rfl,h1⟩ <;> rcases htb.len with ⟨rfl,h2⟩ | ⟨ds,rfl,h2⟩
 ·rw [h1] at main
  simp [-wb_block]
  refine main _ ?_
  simp
 ·have : ds = []:=List.eq_nil_of_length_eq_zero (by omega)
  subst this
  rw [h1] at main
  simp [-wb_block]
  refine main _ ?_
  simp
 ·have : cs = []:=List.eq_nil_of_length_eq_zero (by omega)
  subst this
  rw [← h1] at main
  simp [-wb_block]
  refine main _ ?_
  simp
 ·have h3 : (cs.length : Int) = ds.length:=by omega
  rw [← h1] at main
  simp [-wb_block,← h3]
  refine main _ ?_
  simp
set_option maxRecDepth 20000 in
theorem same15_code {lk lim : Nat} {H : Heap} {ta tb : AV} {S T : Ss} (hta : TV ta S) (htb : TV tb T) (hla : S.length ≤ 1000000000) (hl1 : ∀ l ∈ S,l.length ≤ 1000000000) : callW X A lk lim 15 [.agg [ta],.agg [tb]] H = some (Bo (decide (S = T)),H):=by
 have ke:=fun (L : Nat) => eqf34_code (lk:=lk) (lim:=L) (H:=H) hta htb hla hl1
 refine wb_callB [2,3] rfl A15 rfl rfl ?_
 unfold t15B
 generalize callW X A = C at ke ⊢
 rcases hta.len with ⟨rfl,h1⟩ | ⟨cs,rfl,h1⟩ <;> rcases htb.len with ⟨rfl,h2⟩ | ⟨ds,rfl,h2⟩
 all_goals simp [ke]
end Go.Proofs.YtgbpioccaenjaaaGreat
