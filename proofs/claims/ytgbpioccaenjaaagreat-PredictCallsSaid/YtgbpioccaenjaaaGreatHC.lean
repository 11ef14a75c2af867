import Derived.Test.YtgbpioccaenjaaaGreatHB
import Derived.Test.YtgbpioccaenjaaaGreatWh
set_option linter.unusedSimpArgs false
set_option linter.unusedVariables false
namespace Go.Proofs.YtgbpioccaenjaaaGreat
open Go Go.Hm

set_option maxRecDepth 20000 in
theorem rtable_code {lk lim : Nat} {H : Heap} (hlk : lk ≤ H.length) (g : Gm) (hc : chkE g = 0) :
  ∃ v h',callW X A lk lim 28 [gV g] H = some (v,h') ∧ h' = H ∧ ∃ cs,v = .agg [.sl cs.length cs] ∧ SC cs (lookM g):=by
 have ok:=gok_of hc
 have hl : g.ps.length ≤ 1000000:=Nat.le_trans ok.l2 (by decide)
 have hr : ∀ p ∈ g.ps,p.r.length ≤ 1000000:=fun p hp => Nat.le_trans (ok.p p hp).len (by decide)
 obtain ⟨v1,g1,k1,e1,h1⟩:=sets2_code (lim:=H.length) hlk g hl hr
 rw [if_pos hc] at h1
 obtain ⟨Fc,rfl,hF⟩:=h1
 rw [e1] at k1
 obtain ⟨v2,g2,k2,e2,h2⟩:=rsets_code (lim:=H.length) hlk g hl hr
 rw [if_pos hc] at h2
 obtain ⟨Gc,rfl,hG⟩:=h2
 rw [e2] at k2
 have ko:=fun (K L : Nat) (cs : List AV) (hK : K ≤ (tbH H cs).length) (p : Pr) (hp : p ∈ g.ps) =>
  of33_code (lk:=K) (lim:=L) (H:=tbH H cs) hK g hl hr hF p.r (hr p hp) (by rw [(sets_ok ok).len];have:=ok.n2;omega)
   fun _ => ⟨(of_need ok (sets_ok ok) (ok.p p hp)).2.1,(of_need ok (sets_ok ok) (ok.p p hp)).2.2⟩
 have kc:=fun (L : Nat) (cs : List AV) (va vb : AV) (a b : List (List UInt8)) (ha : RV va a) (hb : RV vb b) h3 h4 h5 h6 => cat2_code (lk:=lk) (lim:=L) (H:=tbH H cs) (Nat.le_trans hlk (tbH_len H cs)) g.k ha hb h3 h4 h5 h6
 refine wb_callX [1,2,5,7] rfl A28 rfl rfl ?_
 unfold t28B
 have hll : ∀ {p : Pr},p ∈ g.ps → (lookP g p).length ≤ 1000000:=fun hp => look_len ok (List.mem_map.2 ⟨_,hp,rfl⟩)
 have hoo : ∀ p ∈ g.ps,OfOk g (setsM g) p.r:=fun p hp => ⟨hc,by rw [(sets_ok ok).len];have:=ok.n1;omega,by
  rw [List.any_eq_false]
  intro s hs
  have:=(ok.p p hp).s s hs
  simp only [badS,Bool.or_eq_true,decide_eq_true_eq,not_or]
  omega⟩
 have kcc : ∀ (L : Nat) (cs : List AV) (p : Pr) (hp : p ∈ g.ps) (vb : AV),RV vb ((folM g).getD p.l.toNat []) → callW X A lk L 52 [I g.k,rV (ofM g (setsM g) p.r),vb] (tbH H cs) = some (rV (cat g.k.toNat (ofM g (setsM g) p.r) ((folM g).getD p.l.toNat [])),tbH H cs):=fun L cs p hp vb hv =>
  kc L cs _ _ _ _ (rV_rv _) hv (by
   have:=(of_need ok (sets_ok ok) (ok.p p hp)).2.1 p.r.length
   rw [List.take_length] at this
   exact this.1) (Nat.le_trans (((fol_ok ok).get _).size ok) (by decide)) (by
   have:=(of_need ok (sets_ok ok) (ok.p p hp)).2.1 p.r.length
   rw [List.take_length] at this
   exact this.2) (frow_len ok ((fol_ok ok).get _))
 have hGl : Gc.length = g.n.toNat:=by rw [hG.1,(fol_ok ok).len]
 have hGg : ∀ p ∈ g.ps,∃ v,Gc[p.l.toNat]? = some v ∧ RV v ((folM g).getD p.l.toNat []):=fun p hp => hG.get (by rw [(fol_ok ok).len];have:=(ok.p p hp).l1;have:=(ok.p p hp).l0;omega)
 have hlk2 : (lookM g).length = g.ps.length:=lookM_len g
 have hlg : ∀ (i : Nat) (h : i < g.ps.length),(lookM g)[i]? = some (lookP g g.ps[i]):=fun i h => by simp [lookM,h]
 have kof : ∀ (K L : Nat) (cs : List AV),K ≤ (tbH H cs).length → ∀ (p : Pr),p ∈ g.ps → callW X A K L 53 [gV g,.sl Fc.length Fc,.sl p.r.length (ints p.r)] (tbH H cs) = some (rV (ofM g (setsM g) p.r),tbH H cs):=fun K L cs hK p hp => by
  have:=ko K L cs hK p hp
  rwa [if_pos (hoo p hp)] at this
 have hcv : ∀ p,RV (rV (cat g.k.toNat (ofM g (setsM g) p.r) ((folM g).getD p.l.toNat []))) (lookP g p):=fun p => rV_rv _
 generalize lookM g = M at hlk2 hlg ⊢
 generalize hlp : (fun p : Pr => lookP g p) = LP at *
 clear ko kc hoo hll hG
 obtain ⟨t,n,k,ps⟩:=g
 obtain ⟨t1,t2,n1,n2,k1',k2',l1,l2,okp⟩:=ok
 simp only at t1 t2 n1 n2 k1' k2' l1 l2 okp hGl hGg hlk2 hlg
 simp only [gV,Gm.cells] at k1 k2 kof kcc
 generalize callW X A = C at k1 k2 kof kcc ⊢
 simp [k1,k2,Gm.cells]
 let bx : AV:=.box [I t,I n,I k,.sl ps.length (psC ps)]
 refine wb_loop (σ:=Nat × List AV) (fun s => [(1,bx),(2,.box [.e0]),(3,.sl Fc.length Fc),(4,.sl Gc.length Gc),(5,.box [tbV H s.2]),(6,I s.1)]) (fun s => tbH H s.2)
  (fun s => s.1 ≤ ps.length ∧ SC s.2 (M.take s.1)) (fun s => ps.length - s.1) ?_ (0,[]) ⟨Nat.zero_le _,rfl,fun j v h => by simp at h⟩ (by simp [bx,tbV]) (by simp [tbH])
 rintro ⟨i,cs⟩ ⟨hi,hcs⟩
 simp only at hi hcs
 have hcl : cs.length = i:=by rw [hcs.1];simp;omega
 unfold t28L1
 have w1 : IntKind.i64.wrap ((i : Int) + 1) = (i : Int) + 1:=wrap64 (by omega) (by omega)
 have hro1 : 24 ≤ room:=by unfold room;omega
 have hro : (cs.length + 1) * 24 ≤ room:=by unfold room;omega
 by_cases hil : i < ps.length
 case neg =>
  obtain rfl : i = ps.length:=by omega
  rw [List.take_of_length_le (by omega)] at hcs
  have h0 : ¬ cs = []:=fun e => by subst e;simp at hcl;omega
  have hfz:=fun d => (sc_frz H.length (H ++ [.cells cs]) d hcs).1
  have hbl:=(sc_frz H.length (H ++ [.cells cs]) 0 hcs).2
  simp [bx,tbV,tbH,h0]
  simp [finX_ret,hbl,hfz]
  exact ⟨_,_,⟨rfl,rfl⟩,rfl,cs,rfl,hcs⟩
 have hs:=psC_sub hil
 have hll:=psC_len ps
 have h2 : i * 2 + 2 ≤ 2 * ps.length:=by omega
 have hpm:=List.getElem_mem hil
 have hMi:=hlg i hil
 obtain ⟨v,hv1,hv2⟩:=hGg _ hpm
 have hco:=fun K L hK => kof K L cs hK _ hpm
 have hcc:=fun L => kcc L cs _ hpm v hv2
 have hr2:=hcv ps[i]
 have ho2:=rV_rv (ofM ⟨t,n,k,ps⟩ (setsM ⟨t,n,k,ps⟩) ps[i].r)
 have hpl0:=(okp _ hpm).l0
 generalize rV (ofM ⟨t,n,k,ps⟩ (setsM ⟨t,n,k,ps⟩) ps[i].r) = O at hco hcc ho2
 generalize rV (cat k.toNat (ofM ⟨t,n,k,ps⟩ (setsM ⟨t,n,k,ps⟩) ps[i].r) ((folM ⟨t,n,k,ps⟩).getD ps[i].l.toNat [])) = R at hcc hr2
 generalize ofM ⟨t,n,k,ps⟩ (setsM ⟨t,n,k,ps⟩) ps[i].r = oL at ho2
 generalize (folM ⟨t,n,k,ps⟩).getD ps[i].l.toNat [] = vL at hv2
 generalize lookP ⟨t,n,k,ps⟩ ps[i] = rL at hr2 hMi
 generalize ps[i] = p at hs hco hv1 hpl0 hpm
 obtain ⟨pl,pr⟩:=p
 simp only [Pr.cells] at hs hv1 hpl0 hco
 obtain ⟨pl,rfl⟩:=Int.eq_ofNat_of_zero_le hpl0
 simp only [Int.toNat_natCast] at hv1
 have hpn : pl < Gc.length:=(List.getElem?_eq_some_iff.1 hv1).1
 have done : ∀ (E : Env) (H' : Heap),E = [(1,bx),(2,.box [.e0]),(3,.sl Fc.length Fc),(4,.sl Gc.length Gc),(5,.box [tbV H (cs ++ [R])]),(6,I ((i : Int) + 1))] → H' = tbH H (cs ++ [R]) →
  ∃ s : Nat × List AV,(s.1 ≤ ps.length ∧ SC s.2 (M.take s.1)) ∧ ps.length - s.1 < ps.length - i ∧ E = [(1,bx),(2,.box [.e0]),(3,.sl Fc.length Fc),(4,.sl Gc.length Gc),(5,.box [tbV H s.2]),(6,I s.1)] ∧ H' = tbH H s.2:=fun E H' h1 h2 =>
   ⟨(i + 1,cs ++ [R]),⟨by simp only;omega,by
    simp only
    rw [List.take_add_one,hMi]
    exact sc_snoc hcs hr2⟩,by simp only;omega,by rw [h1];simp,h2⟩
 have hR:=rv_noRp hr2
 clear hMi hcs hr2 kof kcc hlg hGg
 have hvE : ∀ h,Gc[pl]'h = v:=fun h => (List.getElem?_eq_some_iff.1 hv1).2
 by_cases h0 : cs = []
 ·subst h0
  simp only [tbV,tbH,if_true] at hco hcc
  rcases rv_noRp ho2 with rfl | rfl <;> rcases rv_noRp hv2 with rfl | rfl <;> rcases hR with rfl | rfl
  all_goals
   simp [bx,hil,hs,hll,h2,replaceAt,hco,hvE,hpn,tbV,tbH,hcc,srcCells,hro1,src_one,w1]
   rw [rnd_nrm]
   refine done _ _ ?_ ?_
   ·simp [bx,tbV]
   ·simp [tbH]
 ·simp only [tbV,tbH,if_neg h0] at hco hcc
  rcases rv_noRp ho2 with rfl | rfl <;> rcases rv_noRp hv2 with rfl | rfl <;> rcases hR with rfl | rfl
  all_goals
   simp [bx,hil,hs,hll,h2,replaceAt,hco,hvE,hpn,tbV,tbH,h0,hcc,srcCells,hro,src_one,appC,appG,setH,hlk,w1]
   rw [rnd_nrm]
   refine done _ _ ?_ ?_
   ·simp [bx,tbV]
   ·simp [tbH]
end Go.Proofs.YtgbpioccaenjaaaGreat

namespace Go.Proofs.YtgbpioccaenjaaaGreat
open Go Go.Hm

theorem hasV_cons (y : List UInt8) (b : List (List UInt8)) (x : List UInt8) : hasV (y :: b) x = (x == y || hasV b x):=rfl
theorem meetF_find : ∀ (k : Nat) (a b : List (List UInt8)),Up a → Up b → a.length + b.length ≤ k → meetF k a b = a.find? fun x => hasV b x
 | 0,a,b,_,_,hk => by
  have : a = []:=List.eq_nil_of_length_eq_zero (by omega)
  subst this;rfl
 | k + 1,[],b,_,_,_ => rfl
 | k + 1,y :: a,[],_,_,_ => by
  rw [List.find?_eq_none.2 fun x _ => by simp [hasV]]
  rfl
 | k + 1,y :: a,z :: b,ha,hb,hk => by
  have ha2:=List.pairwise_cons.1 ha
  have hb2:=List.pairwise_cons.1 hb
  unfold meetF
  by_cases he : y = z
  ·subst he
   rw [if_pos rfl,List.find?_cons_of_pos]
   simp [hasV]
  ·rw [if_neg he]
   by_cases hl : Op.bytesLess y z = true
   ·rw [if_pos hl,meetF_find k _ _ ha2.2 hb (by simp at hk ⊢;omega),List.find?_cons_of_neg]
    intro hh
    rw [hasV_iff] at hh
    rcases List.mem_cons.1 hh with h1 | h1
    ·exact he h1
    ·have h2:=less_asym hl
     rw [hb2.1 y h1] at h2
     cases h2
   ·rw [if_neg hl,meetF_find k _ _ ha hb2.2 (by simp at hk ⊢;omega)]
    have hzl : Op.bytesLess z y = true:=by
     rcases less_tot y z with h1 | h1 | h1
     ·exact absurd h1 hl
     ·exact absurd h1 he
     ·exact h1
    have hne : ∀ x ∈ y :: a,hasV (z :: b) x = hasV b x:=fun x hx => by
     rw [hasV_cons]
     have : (x == z) = false:=by
      rw [beq_eq_false_iff_ne]
      intro e
      subst e
      rcases List.mem_cons.1 hx with h1 | h1
      ·exact he h1.symm
      ·have h2:=less_asym hzl
       rw [ha2.1 x h1] at h2
       cases h2
     rw [this,Bool.false_or]
    have key : ∀ l : List (List UInt8),(∀ x ∈ l,hasV (z :: b) x = hasV b x) → l.find? (fun x => hasV b x) = l.find? (fun x => hasV (z :: b) x):=by
     intro l
     induction l with
     | nil => intro _;rfl
     | cons c l ih =>
      intro h
      simp only [List.find?_cons,h c (List.mem_cons_self ..),ih fun x hx => h x (List.mem_cons_of_mem _ hx)]
    exact key _ hne
theorem meetM_find {a b : List (List UInt8)} (ha : Up a) (hb : Up b) : meetM a b = a.find? fun x => hasV b x:=meetF_find _ _ _ ha hb (Nat.le_refl _)
def d3 (S : Ss) (c : Nat → Bool) (a : Nat) : List Nat → Option (Nat × List UInt8)
 | [] => none
 | b :: r => if (c a && c b) = true then (match (S.getD a []).find? (fun x => hasV (S.getD b []) x) with
  | some x => some (b,x)
  | none => d3 S c a r) else d3 S c a r
def d2 (S : Ss) (c : Nat → Bool) : List Nat → Option (Nat × Nat × List UInt8)
 | [] => none
 | a :: r => match d3 S c a r with
  | some (b,x) => some (a,b,x)
  | none => d2 S c r
def d1 (S : Ss) (ps : List Pr) : Nat → Nat → Option (Nat × Nat × Nat × List UInt8)
 | 0,_ => none
 | k + 1,left => match d2 S (fun i => decide ((ps.getD i ⟨0,[]⟩).l = left)) (List.range ps.length) with
  | some (a,b,x) => some (left,a,b,x)
  | none => d1 S ps k (left + 1)
theorem d3_eq {S : Ss} (hS : ∀ i,Up (S.getD i [])) {c : Nat → Bool} {a : Nat} (ha : c a = true) : ∀ l : List Nat,pairB S a (l.filter c) = d3 S c a l
 | [] => rfl
 | b :: r => by
  have ih:=d3_eq hS ha r
  unfold d3
  rw [ha,Bool.true_and]
  cases hb : c b with
  | true => rw [List.filter_cons_of_pos hb,if_pos rfl,pairB,meetM_find (hS a) (hS b),ih];rfl
  | false => rw [List.filter_cons_of_neg (by simp [hb]),if_neg (by simp),ih]
theorem d3_none (S : Ss) {c : Nat → Bool} {a : Nat} (ha : c a = false) : ∀ l : List Nat,d3 S c a l = none
 | [] => rfl
 | b :: r => by
  unfold d3
  rw [ha,Bool.false_and,if_neg (by simp),d3_none S ha r]
theorem d2_eq {S : Ss} (hS : ∀ i,Up (S.getD i [])) (c : Nat → Bool) : ∀ l : List Nat,pairsM S (l.filter c) = d2 S c l
 | [] => rfl
 | a :: r => by
  have ih:=d2_eq hS c r
  unfold d2
  cases ha : c a with
  | true => rw [List.filter_cons_of_pos ha,pairsM,d3_eq hS ha,ih];rfl
  | false => rw [List.filter_cons_of_neg (by simp [ha]),d3_none S ha,ih]
theorem d1_eq {S : Ss} (hS : ∀ i,Up (S.getD i [])) (ps : List Pr) : ∀ k left,confF (ps.map unP) S k left = d1 S ps k left
 | 0,_ => rfl
 | k + 1,left => by
  unfold confF d1
  rw [lefts_un,d1_eq hS ps k (left + 1)]
  unfold ofN
  rw [d2_eq hS]
  rfl
theorem up_getD {g : Gm} (hg : GOk g) (i : Nat) : Up ((lookM g).getD i []):=by
 rw [List.getD_eq_getElem?_getD]
 cases h : (lookM g)[i]? with
 | none => exact List.Pairwise.nil
 | some l =>
  obtain ⟨p,hp,rfl⟩:=List.mem_map.1 (List.mem_of_getElem? h)
  exact (look_ok hg hp).up
end Go.Proofs.YtgbpioccaenjaaaGreat
