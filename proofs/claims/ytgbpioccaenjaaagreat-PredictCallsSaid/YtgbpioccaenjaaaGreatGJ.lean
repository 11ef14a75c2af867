import Derived.Test.YtgbpioccaenjaaaGreatGI
set_option linter.unusedSimpArgs false
set_option linter.unusedVariables false
namespace Go.Proofs.YtgbpioccaenjaaaGreat
open Go Go.Hm

set_option maxRecDepth 20000 in
theorem of2_code1 {lk lim : Nat} {H : Heap} (hlk : lk ≤ H.length) (g : Gm) (v4 : AV) {cs : List AV} {S : Ss} (hS : SC cs S)  (r : List Int) (hr : ∀ s ∈ r,s < g.t + S.length) (hg : 0 ≤ g.t ∧ g.t ≤ 1000000) (hl : r.length ≤ 1000000) (hSl : S.length ≤ 1000000)
  (hO : ∀ i,(ofM g S (r.take i)).length ≤ 2000000 ∧ ∀ x ∈ ofM g S (r.take i),x.length ≤ 1000000) (hN : ∀ s ∈ r,(nxt g S s).length ≤ 2000000 ∧ ∀ x ∈ nxt g S s,x.length ≤ 1000000) :
  callW X A lk lim 77 [.agg [I g.t,I g.n,I g.k,v4],.sl cs.length cs,.sl r.length (ints r)] H = some (rV (ofM g S r),H):=by
 have kc:=fun (K : Nat) (hK : K ≤ H.length) (L : Nat) (va vb : AV) (a b : List (List UInt8)) (h1 : RV va a) (h2 : RV vb b) (h3 : a.length ≤ 2000000) (h4 : b.length ≤ 2000000) h5 h6 => cat2_code (lk:=K) (lim:=L) (H:=H) hK g.k h1 h2 h3 h4 h5 h6
 refine wb_callB [3] rfl A77 rfl rfl ?_
 unfold t77B
 generalize callW X A = C at kc ⊢
 simp
 refine wb_loop (σ:=Nat) (fun i => [(1,.sl cs.length cs),(2,.sl r.length (ints r)),(3,.box [I g.t,I g.n,I g.k,v4]),(7,rV (ofM g S (r.take i))),(8,I i)]) (fun _ => H) (fun i => i ≤ r.length) (fun i => r.length - i) ?_ 0 (by omega) (by simp [restrict,find,ofM,rV,rowsB]) rfl
 intro i hi
 unfold t77L1
 by_cases hil : i < r.length
 ·have hil' : (i : Int) < r.length:=by omega
  have w1 : IntKind.i64.wrap ((i : Int) + 1) = (i : Int) + 1:=wrap64 (by omega) (by omega)
  have hrs:=hr r[i] (List.getElem_mem hil)
  have hn:=hN r[i] (List.getElem_mem hil)
  have ho:=hO i
  have hrv:=rV_rv (ofM g S (r.take i))
  have hsn:=congrArg rV (ofM_snoc g S (r.take i) r[i])
  rw [← List.take_succ_eq_append_getElem hil] at hsn
  obtain ⟨s,hs⟩ : ∃ s,r[i] = s:=⟨_,rfl⟩
  rw [hs] at hrs hn hsn
  generalize ofM g S (r.take i) = o at ho hrv hsn ⊢
  generalize rV o = ov at hrv ⊢
  have hn0:=Nat.le_refl H.length
  by_cases hst : s < g.t
  ·have hst' : ¬ g.t ≤ s:=by omega
   have hw8:=u8_wrap s
   have hb1:=bytes1 (byteI s)
   have hnx : nxt g S s = [[byteI s]]:=if_pos hst
   rw [hnx] at hn hsn
   have kc1:=fun K hK L => kc K hK L ov (rowsV [[byteI s]]) o [[byteI s]] hrv (.inl rfl) ho.1 (by simp) ho.2 hn.2
   have hcv:=rv_noRp (rV_rv (cat g.k.toNat o [[byteI s]]))
   generalize rV (cat g.k.toNat o [[byteI s]]) = cv at kc1 hcv hsn
   have e1 : rowsV [[byteI s]] = .sl 1 [Sg [byteI s]]:=rfl
   rw [e1] at kc1
   rcases rv_noRp hrv with rfl | rfl <;> rcases hcv with rfl | rfl
   all_goals
    simp [hil,hil',hs,hw8,hb1,hst,hst',kc1,hlk,hn0,w1,rnd_nrm]
    exact ⟨i + 1,by omega,by omega,hsn.symm,by omega⟩
  ·have hst' : g.t ≤ s:=by omega
   have hst2 : ¬ s < g.t:=by omega
   have hw8:=u8_wrap s
   have hb1:=bytes1 (byteI s)
   have hnx : nxt g S s = S.getD (s - g.t).toNat []:=if_neg hst
   obtain ⟨j,hj⟩ : ∃ j : Nat,s - g.t = (j : Int):=⟨(s - g.t).toNat,by omega⟩
   have hjl : j < S.length:=by omega
   have hjc : j < cs.length:=by rw [hS.1];exact hjl
   have hjc' : (j : Int) < cs.length:=by omega
   have wj : IntKind.i64.wrap (s - g.t) = (j : Int):=by rw [wrap64 (by omega) (by omega)];exact hj
   rw [hj,Int.toNat_natCast] at hnx
   obtain ⟨v,hcv0,hv⟩:=hS.get hjl
   have hcvE : cs[j] = v:=by rw [List.getElem?_eq_getElem hjc] at hcv0;simpa using hcv0
   rw [← hnx] at hv
   have kc1:=fun K hK L => kc K hK L ov v o (nxt g S s) hrv hv ho.1 hn.1 ho.2 hn.2
   have hcv:=rv_noRp (rV_rv (cat g.k.toNat o (nxt g S s)))
   generalize rV (cat g.k.toNat o (nxt g S s)) = cv at kc1 hcv hsn
   generalize nxt g S s = nx at hv kc1 hcv hsn
   rcases rv_noRp hrv with rfl | rfl <;> rcases hcv with rfl | rfl <;> rcases rv_noRp hv with rfl | rfl
   all_goals
    simp [hil,hil',hs,hw8,hb1,hst',hst2,kc1,hlk,hn0,w1,rnd_nrm,wj,hjc,hjc',hcv0,hcvE]
    exact ⟨i + 1,by omega,by omega,hsn.symm,by omega⟩
 ·obtain rfl : i = r.length:=by omega
  rw [List.take_length]
  have hrv:=rV_rv (ofM g S r)
  rcases rv_noRp hrv with e | e <;> rw [e] <;> simp

set_option maxRecDepth 20000 in
theorem of2_code2 {lk lim : Nat} {H : Heap} (hlk : lk ≤ H.length) (g : Gm) (v4 : AV) {cs : List AV} {S : Ss} (hS : SC cs S) {b : Nat} (hb : H[b]? = some (.cells cs)) (r : List Int) (hr : ∀ s ∈ r,s < g.t + S.length) (hg : 0 ≤ g.t ∧ g.t ≤ 1000000) (hl : r.length ≤ 1000000) (hSl : S.length ≤ 1000000)
  (hO : ∀ i,(ofM g S (r.take i)).length ≤ 2000000 ∧ ∀ x ∈ ofM g S (r.take i),x.length ≤ 1000000) (hN : ∀ s ∈ r,(nxt g S s).length ≤ 2000000 ∧ ∀ x ∈ nxt g S s,x.length ≤ 1000000) :
  callW X A lk lim 77 [.agg [I g.t,I g.n,I g.k,v4],.hs b cs.length 0 cs.length 1,.sl r.length (ints r)] H = some (rV (ofM g S r),H):=by
 have kc:=fun (K : Nat) (hK : K ≤ H.length) (L : Nat) (va vb : AV) (a b : List (List UInt8)) (h1 : RV va a) (h2 : RV vb b) (h3 : a.length ≤ 2000000) (h4 : b.length ≤ 2000000) h5 h6 => cat2_code (lk:=K) (lim:=L) (H:=H) hK g.k h1 h2 h3 h4 h5 h6
 refine wb_callB [3] rfl A77 rfl rfl ?_
 unfold t77B
 generalize callW X A = C at kc ⊢
 simp
 refine wb_loop (σ:=Nat) (fun i => [(1,.hs b cs.length 0 cs.length 1),(2,.sl r.length (ints r)),(3,.box [I g.t,I g.n,I g.k,v4]),(7,rV (ofM g S (r.take i))),(8,I i)]) (fun _ => H) (fun i => i ≤ r.length) (fun i => r.length - i) ?_ 0 (by omega) (by simp [restrict,find,ofM,rV,rowsB]) rfl
 intro i hi
 unfold t77L1
 by_cases hil : i < r.length
 ·have hil' : (i : Int) < r.length:=by omega
  have w1 : IntKind.i64.wrap ((i : Int) + 1) = (i : Int) + 1:=wrap64 (by omega) (by omega)
  have hrs:=hr r[i] (List.getElem_mem hil)
  have hn:=hN r[i] (List.getElem_mem hil)
  have ho:=hO i
  have hrv:=rV_rv (ofM g S (r.take i))
  have hsn:=congrArg rV (ofM_snoc g S (r.take i) r[i])
  rw [← List.take_succ_eq_append_getElem hil] at hsn
  obtain ⟨s,hs⟩ : ∃ s,r[i] = s:=⟨_,rfl⟩
  rw [hs] at hrs hn hsn
  generalize ofM g S (r.take i) = o at ho hrv hsn ⊢
  generalize rV o = ov at hrv ⊢
  have hn0:=Nat.le_refl H.length
  by_cases hst : s < g.t
  ·have hst' : ¬ g.t ≤ s:=by omega
   have hw8:=u8_wrap s
   have hb1:=bytes1 (byteI s)
   have hnx : nxt g S s = [[byteI s]]:=if_pos hst
   rw [hnx] at hn hsn
   have kc1:=fun K hK L => kc K hK L ov (rowsV [[byteI s]]) o [[byteI s]] hrv (.inl rfl) ho.1 (by simp) ho.2 hn.2
   have hcv:=rv_noRp (rV_rv (cat g.k.toNat o [[byteI s]]))
   generalize rV (cat g.k.toNat o [[byteI s]]) = cv at kc1 hcv hsn
   have e1 : rowsV [[byteI s]] = .sl 1 [Sg [byteI s]]:=rfl
   rw [e1] at kc1
   rcases rv_noRp hrv with rfl | rfl <;> rcases hcv with rfl | rfl
   all_goals
    simp [hil,hil',hs,hw8,hb1,hst,hst',kc1,hlk,hn0,w1,rnd_nrm]
    exact ⟨i + 1,by omega,by omega,hsn.symm,by omega⟩
  ·have hst' : g.t ≤ s:=by omega
   have hst2 : ¬ s < g.t:=by omega
   have hw8:=u8_wrap s
   have hb1:=bytes1 (byteI s)
   have hnx : nxt g S s = S.getD (s - g.t).toNat []:=if_neg hst
   obtain ⟨j,hj⟩ : ∃ j : Nat,s - g.t = (j : Int):=⟨(s - g.t).toNat,by omega⟩
   have hjl : j < S.length:=by omega
   have hjc : j < cs.length:=by rw [hS.1];exact hjl
   have hjc' : (j : Int) < cs.length:=by omega
   have wj : IntKind.i64.wrap (s - g.t) = (j : Int):=by rw [wrap64 (by omega) (by omega)];exact hj
   rw [hj,Int.toNat_natCast] at hnx
   obtain ⟨v,hcv0,hv⟩:=hS.get hjl
   have hcvE : cs[j] = v:=by rw [List.getElem?_eq_getElem hjc] at hcv0;simpa using hcv0
   rw [← hnx] at hv
   have kc1:=fun K hK L => kc K hK L ov v o (nxt g S s) hrv hv ho.1 hn.1 ho.2 hn.2
   have hcv:=rv_noRp (rV_rv (cat g.k.toNat o (nxt g S s)))
   generalize rV (cat g.k.toNat o (nxt g S s)) = cv at kc1 hcv hsn
   generalize nxt g S s = nx at hv kc1 hcv hsn
   rcases rv_noRp hrv with rfl | rfl <;> rcases hcv with rfl | rfl <;> rcases rv_noRp hv with rfl | rfl
   all_goals
    simp [hil,hil',hs,hw8,hb1,hst',hst2,kc1,hlk,hn0,w1,rnd_nrm,wj,hjc,hjc',hcv0,hcvE,hb]
    exact ⟨i + 1,by omega,by omega,hsn.symm,by omega⟩
 ·obtain rfl : i = r.length:=by omega
  rw [List.take_length]
  have hrv:=rV_rv (ofM g S r)
  rcases rv_noRp hrv with e | e <;> rw [e] <;> simp
end Go.Proofs.YtgbpioccaenjaaaGreat

namespace Go.Proofs.YtgbpioccaenjaaaGreat
open Go Go.Hm

set_option maxRecDepth 20000 in
set_option maxHeartbeats 2000000 in
theorem sets2_code {lk lim : Nat} {H : Heap} (hlk : lk ≤ H.length) (g : Gm) (hl : g.ps.length ≤ 1000000) (hr : ∀ p ∈ g.ps,p.r.length ≤ 1000000) :
  ∃ v h',callW X A lk lim 50 [gV g] H = some (v,h') ∧ h' = H ∧ if chkE g = 0 then ∃ cs,v = .sl cs.length cs ∧ SC cs (setsM g) else v = .e0:=by
 have kc:=fun (L : Nat) => rcheck_code (lk:=lk) (lim:=L) (H:=H) g hl hr
 refine wb_callX [1,6] rfl A50 rfl rfl ?_
 unfold t50B
 by_cases hc : chkE g = 0
 case neg =>
  have h3 : ((chkE g) != 0) = true:=by simp [hc]
  obtain ⟨t,n,k,ps⟩:=g
  simp only [gV,Gm.cells] at kc
  generalize callW X A = C at kc ⊢
  simp [Gm.cells,kc,hc,finX_ret]
  exact ⟨.e0,H,⟨rfl,rfl⟩,rfl,rfl⟩
 have ok:=gok_of hc
 have ko:=fun (K : Nat) (hK : K ≤ H.length + 1) (L : Nat) (cs : List AV) (S : Ss) (hS : SC cs S) (hok : SOk g S) (p : Pr) (hp : POk g p) =>
  of2_code2 (lk:=K) (lim:=L) (H:=H ++ [.cells cs]) (by simp;omega) g (.sl g.ps.length (psC g.ps)) hS (b:=H.length) (by simp) p.r (of_need ok hok hp).1 ⟨by have:=ok.t1;omega,by have:=ok.t2;omega⟩ (by have:=hp.len;omega) (by rw [hok.len];have:=ok.n2;omega) (of_need ok hok hp).2.1 (of_need ok hok hp).2.2
 have ku:=fun (K L : Nat) (G : Heap) (hK : K ≤ G.length) (va vb : AV) (a b : List (List UInt8)) (ha : RV va a) (hb : RV vb b) h1 h2 => union2_code (lk:=K) (lim:=L) (H:=G) hK ha hb h1 h2
 rw [hc] at kc
 obtain ⟨t,n,k,ps⟩:=g
 have ok2:=ok
 obtain ⟨t1,t2,n1,n2,k1,k2,l1,l2,okp⟩:=ok2
 simp only at t1 t2 n1 n2 k1 k2 l1 l2 okp
 obtain ⟨n,rfl⟩:=Int.eq_ofNat_of_zero_le (by omega : 0 ≤ n)
 simp only [gV,Gm.cells] at kc ko
 have hro : n * 24 ≤ room:=by unfold room;omega
 generalize callW X A = C at kc ko ku ⊢
 simp [-wi_mks,-wb_regN,Gm.cells,hc]
 simp [-wi_mks,Gm.cells,kc]
 rw [wi_mks,mk_mks (l:=.tmp 12) (z:=[.e0]) (es:=1) (n:=n) rfl rfl hro]
 simp
 let g : Gm:=⟨t,n,k,ps⟩
 let bx : AV:=.box [I t,I n,I k,.sl ps.length (psC ps)]
 let hsV : AV:=.hs H.length n 0 n 1
 have hcl:=rndS_climbs ok
 have hS0:=SOk.start g
 refine wb_loop (σ:=Ss × List AV × Bool) (fun s => [(1,bx),(3,hsV),(4,Bo s.2.2)]) (fun s => H ++ [.cells s.2.1])
  (fun s => SOk g s.1 ∧ SC s.2.1 s.1 ∧ climb (rndS g) (n * 585 - szS s.1 + 1) s.1 = setsM g ∧ (s.2.2 = false → rndS g s.1 = s.1)) (fun s => 2 * (n * 585 - szS s.1) + if s.2.2 = true then 1 else 0) ?_ (List.replicate n [],repl n [.e0],true)
  ⟨hS0,sc_start n,by
   have h1 : szS (List.replicate n []) = 0:=by simp [szS]
   simp only [h1];rfl,by simp⟩ (by simp [bx,hsV]) rfl
 rintro ⟨S,cs,more⟩ ⟨hS,hC,hcm,hm⟩
 simp only at hS hC hcm hm
 have hcn : cs.length = n:=by rw [hC.1,hS.len];rfl
 unfold t50L2
 cases more with
 | false =>
  have h1 : setsM g = S:=by
   rw [← hcm]
   unfold climb
   rw [if_pos (hm rfl)]
  have hz:=sc_frz H.length (H ++ [.cells cs]) 6 hC
  have htk : cs.take n = cs:=List.take_of_length_le (by omega)
  simp [bx,hsV,finX_ret,hcn,htk,hz]
  exact ⟨_,_,⟨rfl,rfl⟩,rfl,cs,by rw [hcn],by rw [h1];exact hC⟩
 | true =>
  simp [bx]
  refine wb_loop (σ:=Nat × Ss × List AV × Bool) (fun s => [(1,bx),(3,hsV),(4,Bo s.2.2.2),(5,I s.1)]) (fun s => H ++ [.cells s.2.2.1])
   (fun s => s.1 ≤ ps.length ∧ s.2.1 = (ps.take s.1).foldl (stS g) S ∧ SOk g s.2.1 ∧ SC s.2.2.1 s.2.1 ∧ ((s.2.2.2 = false ∧ s.2.1 = S) ∨ (s.2.2.2 = true ∧ szS S < szS s.2.1))) (fun s => ps.length - s.1) ?_ (0,S,cs,false)
   ⟨Nat.zero_le _,rfl,hS,hC,.inl ⟨rfl,rfl⟩⟩ (by simp [bx,hsV,restrict,find]) rfl
  rintro ⟨i,S2,cs2,more⟩ ⟨hi,hS2,hok,hC2,hmo⟩
  simp only at hi hS2 hok hC2 hmo
  have hcn2 : cs2.length = n:=by rw [hC2.1,hok.len];rfl
  unfold t50L1
  have w1 : IntKind.i64.wrap ((i : Int) + 1) = (i : Int) + 1:=wrap64 (by omega) (by omega)
  by_cases hil : i < ps.length
  case neg =>
   obtain rfl : i = ps.length:=by omega
   rw [List.take_of_length_le (Nat.le_refl _)] at hS2
   have hfo : rndS g S = S2:=hS2.symm
   have hle:=szS_le ok hok
   simp only [Int.toNat_natCast] at hle
   simp [bx,hsV,rnd_nrm]
   rcases hmo with ⟨e1,e2⟩ | ⟨e1,e2⟩
   ·subst e2
    exact ⟨S2,cs2,.inl ⟨⟨hok,hC2,hcm,hfo⟩,by omega,e1,rfl⟩⟩
   ·refine ⟨S2,cs2,.inr ⟨⟨hok,hC2,?_⟩,by omega,e1,rfl⟩⟩
    have hne : rndS g S ≠ S:=fun e => by rw [hfo] at e;rw [e] at e2;omega
    have h1:=climb_more hcl (n * 585 - szS S) S2 hok (by show n * 585 - szS S2 < _;omega)
    rw [← hcm]
    conv => rhs;unfold climb
    rw [if_neg hne,hfo]
    exact h1.symm
  obtain ⟨p,hp⟩ : ∃ p,ps[i] = p:=⟨_,rfl⟩
  have pok:=okp p (hp ▸ List.getElem_mem hil)
  have hs:=psC_sub hil
  have hll:=psC_len ps
  have h2 : i * 2 + 2 ≤ 2 * ps.length:=by omega
  rw [hp] at hs
  simp only [Pr.cells] at hs
  have hnext : (ps.take (i + 1)).foldl (stS g) S = stS g S2 p:=by
   rw [List.take_succ_eq_append_getElem hil,List.foldl_append,← hS2,hp]
   rfl
  have hup:=stS_up hok pok
  have hok3:=stS_ok ok hok pok
  have ko1:=fun L => ko (H.length + 1) (Nat.le_refl _) L cs2 S2 hC2 hok p pok
  have hov:=rV_rv (ofM g S2 p.r)
  have hofok:=ofM_ok ok hok (r:=p.r) fun s hs => (pok.s s hs).1
  have hosz:=hofok.size ok
  obtain ⟨pl,pr⟩:=p
  obtain ⟨q1,q2,q3,q4⟩:=pok
  simp only at q1 q2 q3 q4 hs ko1 hov hosz
  obtain ⟨pl,rfl⟩:=Int.eq_ofNat_of_zero_le q2
  have hpl : pl < n:=by omega
  obtain ⟨v,hv,hrv⟩:=hC2.get (j:=pl) (by rw [hok.len];exact hpl)
  have hplc : pl < cs2.length:=by omega
  have hvE : cs2[pl] = v:=by rw [List.getElem?_eq_getElem hplc] at hv;simpa using hv
  have hgsz:=(hok.get pl).size ok
  have ku1:=fun K L hK => ku K L (H ++ [.cells cs2]) hK v _ _ _ hrv hov (Nat.le_trans hgsz (by decide)) (Nat.le_trans hosz (by decide))
  have hpn1 : pl + 1 ≤ n:=hpl
  simp only [stS,Int.toNat_natCast] at hup hok3 hnext
  have huv:=rV_rv (uni (S2.getD pl []) (ofM g S2 pr))
  have hC3:=sc_set hC2 (j:=pl) (l:=uni (S2.getD pl []) (ofM g S2 pr)) huv
  have hgt : ((S2.getD pl []).length : Int) < (uni (S2.getD pl []) (ofM g S2 pr)).length ↔ ¬ (uni (S2.getD pl []) (ofM g S2 pr)).length ≤ (S2.getD pl []).length:=by omega
  have hvl : slN v = (S2.getD pl []).length:=(rv_cells (H:=H) hrv).2
  generalize rV (ofM g S2 pr) = ov at ko1 hov ku1
  generalize rV (uni (S2.getD pl []) (ofM g S2 pr)) = uv at *
  generalize uni (S2.getD pl []) (ofM g S2 pr) = u at *
  rw [hcn2] at ko1
  simp [-wi_stL,bx,hil,hll,hs,h2]
  rw [wi_stL]
  have hset : ∀ w,List.take pl cs2 ++ w :: List.drop (pl + 1) cs2 = cs2.set pl w:=fun w => by
   rw [List.set_eq_take_append_cons_drop,if_pos hplc]
  have hsh : ∀ w,Hm.below 0 w = true → setH lk H.length 0 (H ++ [.cells cs2]) H.length (cs2.set pl w) [w] = some (H ++ [.cells (cs2.set pl w)]):=fun w hw => by
   unfold setH
   rw [if_pos ⟨hlk,.inl (Nat.le_refl _),.inl (Nat.zero_le _)⟩,set_app]
  have hlk1 : lk ≤ H.length + 1:=by omega
  have hn1:=Nat.le_refl (H.length + 1)
  simp only [List.length_append,List.length_cons,List.length_nil,Nat.zero_add] at ku1
  obtain ⟨L,hL⟩ : ∃ L,(S2.getD pl []).length = L:=⟨_,rfl⟩
  rw [hL] at hup hvl
  have fin : ∀ b : Bool,b = (more || decide (L < u.length)) → (b = false ∧ S2.set pl u = S) ∨ (b = true ∧ szS S < szS (S2.set pl u)):=fun b hb => by
   by_cases hgr : L < u.length
   ·have hb2 : b = true:=by rw [hb];simp [hgr]
    have h3 : szS S2 < szS (S2.set pl u):=by
     rcases hup.1 with e | e
     ·exact absurd (hup.2.1 e) (by omega)
     ·exact e
    rcases hmo with ⟨_,e⟩ | ⟨_,e⟩
    ·exact .inr ⟨hb2,by rw [← e];exact h3⟩
    ·exact .inr ⟨hb2,by omega⟩
   ·have h3 : S2.set pl u = S2:=hup.2.2 (by omega)
    rw [h3]
    have hb2 : b = more:=by rw [hb];simp [hgr]
    rw [hb2]
    exact hmo
  have hbu : Hm.below 0 uv = true ∧ slN uv = u.length:=by
   rcases huv with rfl | ⟨rfl,rfl⟩
   ·exact ⟨by simp [Hm.below],rfl⟩
   ·exact ⟨rfl,rfl⟩
  have hsh1:=hsh uv hbu.1
  have hset1:=hset uv
  have hbul:=hbu.2
  have huF : (uv = .e0 ∧ u.length = 0) ∨ uv = .sl u.length (rowsB u):=by
   rcases huv with rfl | ⟨rfl,rfl⟩
   ·exact .inr rfl
   ·exact .inl ⟨rfl,rfl⟩
  clear hsh hset hbu huv
  generalize S2.getD pl [] = q at *
  generalize hu : u.length = ul at *
  have hvF : (v = .e0 ∧ L = 0) ∨ v = .sl L (rowsB q):=by
   rcases rv_noRp hrv with rfl | rfl
   ·exact .inl ⟨rfl,hvl.symm⟩
   ·exact .inr (by rw [← hL])
  clear hvl
  have fin2 : ∀ b : Bool,b = (more || decide (L < ul)) → ∃ a S' cs',((a ≤ ps.length ∧ S' = List.foldl (stS g) S (List.take a ps) ∧ SOk g S' ∧ SC cs' S' ∧ ((b = false ∧ S' = S) ∨ (b = true ∧ szS S < szS S'))) ∧ ps.length - a < ps.length - i ∧ (i : Int) + 1 = (a : Int) ∧ cs2.set pl uv = cs'):=fun b hb => by
   refine ⟨i + 1,S2.set pl u,cs2.set pl uv,⟨by omega,hnext.symm,hok3,hC3,fin b hb⟩,by omega,by omega,rfl⟩
  have hL0 : ¬ (L : Int) < 0:=by omega
  by_cases hgr : L < ul
  ·have hgr' : (L : Int) < ul:=by omega
   have hf:=fin2 true (by simp [hgr])
   rcases hvF with ⟨rfl,rfl⟩ | rfl <;> rcases rv_noRp hov with rfl | rfl <;> rcases huF with ⟨rfl,rfl⟩ | rfl
   all_goals
    try (exact absurd hgr (Nat.not_lt_zero _))
   all_goals
    cases more
    all_goals
     simp [replaceAt,hsV,hpl,hcn2,hv,hvE,ko1,ku1,hpn1,hset1,hsh1,w1,rnd_nrm,hlk,hlk1,hn1,hgr,hgr']
     try simpa using hf
  ·have hgr' : ¬ (L : Int) < ul:=by omega
   have hf:=fin2 more (by simp [hgr])
   rcases hvF with ⟨rfl,rfl⟩ | rfl <;> rcases rv_noRp hov with rfl | rfl <;> rcases huF with ⟨rfl,rfl⟩ | rfl
   all_goals
    cases more
    all_goals
     simp [replaceAt,hsV,hpl,hcn2,hv,hvE,ko1,ku1,hpn1,hset1,hsh1,w1,rnd_nrm,hlk,hlk1,hn1,hgr,hgr',hL0]
     try simpa using hf
end Go.Proofs.YtgbpioccaenjaaaGreat

namespace Go.Proofs.YtgbpioccaenjaaaGreat
open Go Go.Hm

theorem hasV_drop {l : List (List UInt8)} {i : Nat} (hi : i < l.length) (x : List UInt8) : hasV (l.drop i) x = (x == l[i] || hasV (l.drop (i + 1)) x):=by
 rw [List.drop_eq_getElem_cons hi]
 rfl
set_option maxRecDepth 20000 in
theorem has2_code {lk lim : Nat} {H : Heap} {v : AV} {l : List (List UInt8)} (hv : RV v l) (x : List UInt8) (hl : l.length ≤ 1000000000) : callW X A lk lim 38 [v,Sg x] H = some (Bo (hasV l x),H):=by
 rcases hv with rfl | ⟨rfl,rfl⟩
 ·refine wb_callB [] rfl A38 rfl rfl ?_
  unfold t38B
  generalize callW X A = C
  simp
  refine wb_loop (σ:=Nat) (fun i => [(0,rowsV l),(1,Sg x),(5,I i)]) (fun _ => H) (fun i => i ≤ l.length ∧ hasV l x = hasV (l.drop i) x) (fun i => l.length - i) ?_ 0 ⟨Nat.zero_le _,rfl⟩ (by simp [restrict,find]) rfl
  rintro i ⟨hi,hinv⟩
  unfold t38L1
  rw [hinv]
  by_cases hil : i < l.length
  ·have hil' : (i : Int) < l.length:=by omega
   have w1 : IntKind.i64.wrap ((i : Int) + 1) = (i : Int) + 1:=wrap64 (by omega) (by omega)
   have ga:=rowsB_getE hil
   rw [hasV_drop hil]
   have hinv2:=hasV_drop hil x
   generalize l[i] = y at *
   by_cases hxy : y = x
   ·subst hxy
    simp [hil,hil',rowsB_len,ga,sg_eql]
   ·have h1 : (y == x) = false:=by simp [hxy]
    have h2 : (x == y) = false:=by simp [Ne.symm hxy]
    rw [h2,Bool.false_or] at hinv2 ⊢
    simp [hil,hil',rowsB_len,ga,sg_eql,h1,w1,rnd_nrm]
    exact ⟨i + 1,⟨by omega,rfl⟩,by omega,by omega⟩
  ·obtain rfl : i = l.length:=by omega
   rw [List.drop_length]
   simp [hasV]
 ·refine wb_callB [] rfl A38 rfl rfl ?_
  unfold t38B
  generalize callW X A = C
  simp
  refine wb_loop (σ:=Unit) (fun i => [(0,.e0),(1,Sg x),(5,I 0)]) (fun i => H) (fun i => True) (fun i => 0) ?_ () trivial (by simp [restrict,find]) (by simp)
  intro i _
  unfold t38L1
  simp [hasV]

theorem any_drop {r : List Int} {i : Nat} (hi : i < r.length) (P : Int → Bool) : (r.drop i).any P = (P r[i] || (r.drop (i + 1)).any P):=by
 rw [List.drop_eq_getElem_cons hi]
 rfl
set_option maxRecDepth 20000 in
theorem of33_code {lk lim : Nat} {H : Heap} (hlk : lk ≤ H.length) (g : Gm) (hl : g.ps.length ≤ 1000000) (hr : ∀ p ∈ g.ps,p.r.length ≤ 1000000) {cs : List AV} {S : Ss} (hS : SC cs S) (r : List Int) (hrl : r.length ≤ 1000000) (hSl : S.length ≤ 1000000)
  (hO : OfOk g S r → (∀ i,(ofM g S (r.take i)).length ≤ 2000000 ∧ ∀ x ∈ ofM g S (r.take i),x.length ≤ 1000000) ∧ ∀ s ∈ r,(nxt g S s).length ≤ 2000000 ∧ ∀ x ∈ nxt g S s,x.length ≤ 1000000) :
  callW X A lk lim 53 [gV g,.sl cs.length cs,.sl r.length (ints r)] H = some (if OfOk g S r then rV (ofM g S r) else .e0,H):=by
 have kc:=fun (L : Nat) => rcheck_code (lk:=lk) (lim:=L) (H:=H) g hl hr
 have k45:=fun (L : Nat) h1 h2 h3 h4 => of2_code1 (lk:=lk) (lim:=L) (H:=H) hlk g (.sl g.ps.length (psC g.ps)) hS r h1 h2 hrl hSl h3 h4
 have hcl:=hS.1
 refine wb_callB [3] rfl A53 rfl rfl ?_
 unfold t53B
 by_cases hc : chkE g = 0
 case neg =>
  rw [if_neg (fun h : OfOk g S r => hc h.1)]
  have hc2 : (chkE g != 0) = true:=by simpa using hc
  generalize chkE g = e at kc hc2 hc
  obtain ⟨t,n,k,ps⟩:=g
  simp only [gV,Gm.cells] at kc
  generalize callW X A = C at kc ⊢
  simp [Gm.cells,kc,hc2,hc]
 have ok:=gok_of hc
 by_cases hn : (S.length : Int) = g.n
 case neg =>
  rw [if_neg (fun h : OfOk g S r => hn h.2.1)]
  rw [hc] at kc
  obtain ⟨t,n,k,ps⟩:=g
  simp only [gV,Gm.cells] at kc hn
  have hn2 : ((cs.length : Int) != n) = true:=by rw [hcl];simpa using hn
  have hn3 : ¬ (cs.length : Int) = n:=by rw [hcl];exact hn
  generalize callW X A = C at kc ⊢
  simp [Gm.cells,kc,hn2,hn3]
 have hn2 : ((cs.length : Int) != g.n) = false:=by rw [hcl];simpa using hn
 have hn3 : (cs.length : Int) = g.n:=by rw [hcl];exact hn
 have hw : IntKind.i64.wrap (g.t + g.n) = g.t + g.n:=by have:=ok.t1;have:=ok.t2;have:=ok.n1;have:=ok.n2;exact wrap64 (by omega) (by omega)
 have hokE : OfOk g S r ↔ r.any (badS g) = false:=⟨fun h => h.2.2,fun h => ⟨hc,hn,h⟩⟩
 have k45:=fun L (h : r.any (badS g) = false) => k45 L (fun s hs => by
  have:=List.any_eq_false.1 h s hs
  simp only [badS,Bool.or_eq_true,decide_eq_true_eq,not_or] at this
  omega) ⟨by have:=ok.t1;omega,by have:=ok.t2;omega⟩ (hO (hokE.2 h)).1 (hO (hokE.2 h)).2
 have e : (if OfOk g S r then rV (ofM g S r) else .e0) = (if r.any (badS g) = false then rV (ofM g S r) else .e0):=by
  by_cases h : r.any (badS g) = false
  ·rw [if_pos h,if_pos (hokE.2 h)]
  ·rw [if_neg h,if_neg (fun h2 => h (hokE.1 h2))]
 rw [e]
 rw [hc] at kc
 have hov:=rV_rv (ofM g S r)
 generalize rV (ofM g S r) = ov at k45 hov ⊢
 have hbd : ∀ s,badS g s = (decide (s < 0) || decide (g.t + g.n ≤ s)):=fun s => rfl
 generalize badS g = P at *
 obtain ⟨t,n,k,ps⟩:=g
 simp only [gV,Gm.cells] at kc hn2 hn3 k45 hw hbd
 obtain ⟨w,hPw⟩ : ∃ w,r.any P = w:=⟨_,rfl⟩
 rw [hPw]
 simp only [hPw] at k45
 generalize callW X A = C at kc k45 ⊢
 simp [Gm.cells,kc,hn2,hn3]
 refine wb_loop (σ:=Nat) (fun i => [(1,.sl cs.length cs),(2,.sl r.length (ints r)),(3,.box [I t,I n,I k,.sl ps.length (psC ps)]),(7,I i)]) (fun _ => H) (fun i => i ≤ r.length ∧ w = (r.drop i).any P) (fun i => r.length - i) ?_ 0 ⟨Nat.zero_le _,hPw.symm⟩ (by simp [restrict,find,hn3]) rfl
 rintro i ⟨hi,hinv⟩
 unfold t53L1
 by_cases hil : i < r.length
 ·have hil' : (i : Int) < r.length:=by omega
  have w1 : IntKind.i64.wrap ((i : Int) + 1) = (i : Int) + 1:=wrap64 (by omega) (by omega)
  have ha:=any_drop hil P
  rw [← hinv] at ha
  obtain ⟨s,hs⟩ : ∃ s,r[i] = s:=⟨_,rfl⟩
  rw [hs,hbd] at ha
  by_cases h1 : s < 0
  ·have hb : w = true:=by rw [ha];simp [h1]
   subst hb
   simp [hil,hil',hs,h1]
  ·by_cases h2 : t + n ≤ s
   ·have hb : w = true:=by rw [ha];simp [h2]
    subst hb
    simp [hil,hil',hs,h1,h2,hw]
   ·have hb : w = (r.drop (i + 1)).any P:=by rw [ha];simp [h1,h2]
    simp [hil,hil',hs,h1,h2,hw,w1,rnd_nrm]
    exact ⟨i + 1,⟨by omega,hb⟩,by omega,by omega⟩
 ·obtain rfl : i = r.length:=by omega
  have hb : w = false:=by rw [hinv,List.drop_length];rfl
  have k45:=fun L => k45 L hb
  subst hb
  rcases rv_noRp hov with rfl | rfl
  all_goals simp [hn3,k45]
end Go.Proofs.YtgbpioccaenjaaaGreat
