import Derived.Test.YtgbpioccaenjaaaGreatGE
set_option linter.unusedSimpArgs false
set_option linter.unusedVariables false
namespace Go.Proofs.YtgbpioccaenjaaaGreat
open Go Go.Hm

theorem rnd_take {α : Type} (st : List Bool → α → List Bool) (ps : List α) (o : List Bool) (i : Nat) (h : i < ps.length) : rnd st (ps.take (i + 1)) o = st (rnd st (ps.take i) o) ps[i]:=by
 rw [List.take_succ_eq_append_getElem h]
 simp only [rnd,List.foldl_append,List.foldl_cons,List.foldl_nil]
theorem derP_len (g : Gm) (tok : Bool) (o : List Bool) (p : Pr) : (derP g tok o p).length = o.length:=by
 unfold derP
 repeat' split
 all_goals simp
theorem bools_rep (n : Nat) : repl n [Bo false] = bools (List.replicate n false):=by
 simp [repl,bools]
theorem frz_bools (lim : Nat) (H : Heap) (d : Nat) (l : List Bool) : mapO (frz lim H d) (bools l) = some (bools l):=by
 induction l with
 | nil => rfl
 | cons a l ih =>
  simp only [bools,List.map_cons,mapO,frz_val] at ih ⊢
  rw [ih]
theorem bel_bools (lim : Nat) (l : List Bool) : belowL lim (bools l) = true:=by
 induction l with
 | nil => rfl
 | cons a l ih => simp only [bools,List.map_cons,belowL,Hm.below,Bool.true_and];exact ih
theorem getD_of {o : List Bool} {i : Nat} (h : i < o.length) : o.getD i false = o[i]:=by
 rw [List.getD_eq_getElem?_getD,List.getElem?_eq_getElem h];rfl
theorem all_nil {α : Type} (P : α → Bool) : ([] : List α).all P = true:=rfl
set_option maxRecDepth 20000 in
theorem rder_code {lk lim : Nat} {H : Heap} (g : Gm) (tok : Bool) (hl : g.ps.length ≤ 1000000) (hr : ∀ p ∈ g.ps,p.r.length ≤ 1000000) (hlk : lk ≤ H.length) :
  callW X A lk lim 83 [gV g,Bo tok] H = some (if chkE g = 0 then .sl g.n.toNat (bools (derM g tok)) else .e0,H):=by
 have kc:=fun (L : Nat) => rcheck_code (lk:=lk) (lim:=L) (H:=H) g hl hr
 refine wb_callB [2,8] rfl A83 rfl rfl ?_
 unfold t83B
 by_cases hc : chkE g = 0
 case neg =>
  have h3 : ((chkE g) != 0) = true:=by simp [hc]
  rw [if_neg hc]
  obtain ⟨t,n,k,ps⟩:=g
  simp only [gV,Gm.cells] at kc
  generalize callW X A = C at kc ⊢
  simp [Gm.cells,kc,hc]
 have ok:=gok_of hc
 rw [if_pos hc]
 rw [hc] at kc
 obtain ⟨t,n,k,ps⟩:=g
 have ok2:=ok
 obtain ⟨t1,t2,n1,n2,k1,k2,l1,l2,okp⟩:=ok2
 simp only at t1 t2 n1 n2 k1 k2 l1 l2 okp
 obtain ⟨n,rfl⟩:=Int.eq_ofNat_of_zero_le (by omega : 0 ≤ n)
 simp only [gV,Gm.cells] at kc
 have hro : (n : Int) ≤ (room : Int):=by unfold room;omega
 simp [Gm.cells,kc,hro,bools_rep]
 let bx : AV:=.box [I t,I n,I k,.sl ps.length (psC ps)]
 let f:=rnd (derP ⟨t,n,k,ps⟩ tok) ps
 have hf : Grows f:=rnd_grows (fun p => derP_grows _ _ p) ps
 refine wb_loop (σ:=List Bool × Bool) (fun s => [(1,Bo tok),(2,bx),(5,.hs H.length n 0 n 1),(6,Bo s.2)]) (fun s => H ++ [.cells (bools s.1)])
  (fun s => s.1.length = n ∧ fin f s.1 = derM ⟨t,n,k,ps⟩ tok ∧ (s.2 = false → f s.1 = s.1)) (fun s => cntF s.1 + if s.2 = true then 1 else 0) ?_ (List.replicate n false,true) ⟨by simp,rfl,by simp⟩ (by simp [bx]) (by simp)
 rintro ⟨o,more⟩ ⟨ho,hfin,hmore⟩
 simp only at ho hfin hmore
 unfold t83L3
 cases more with
 | false =>
  have h1 : fin f o = o:=by rw [fin_step hf,if_pos (hmore rfl)]
  rw [h1] at hfin
  rw [← hfin]
  have hb:=frz_bools H.length (H ++ [.cells (bools o)]) 7 o
  have hb2:=bel_bools 0 o
  have htk : (bools o).take n = bools o:=List.take_of_length_le (by rw [bools_len];omega)
  simp [bx,bools_len,ho,htk,hb,hb2]
  done
 | true =>
  simp
  let hsV : AV:=.hs H.length n 0 n 1
  let st:=derP ⟨t,n,k,ps⟩ tok
  refine wb_loop (σ:=Nat × List Bool × Bool) (fun s => [(1,Bo tok),(2,bx),(5,hsV),(6,Bo s.2.2),(7,I s.1)]) (fun s => H ++ [.cells (bools s.2.1)])
   (fun s => s.1 ≤ ps.length ∧ s.2.1 = rnd st (ps.take s.1) o ∧ s.2.2 = decide (s.2.1 ≠ o)) (fun s => ps.length - s.1) ?_ (0,o,false) ⟨Nat.zero_le _,rfl,by simp⟩ (by simp [bx,hsV]) rfl
  rintro ⟨i,o2,more⟩ ⟨hi,ho2,hm⟩
  simp only at hi ho2 hm
  unfold t83L2
  have w1 : IntKind.i64.wrap ((i : Int) + 1) = (i : Int) + 1:=wrap64 (by omega) (by omega)
  have hlen2 : o2.length = n:=by
   rw [ho2,← ho]
   have : ∀ (l : List Pr) (q : List Bool),(rnd st l q).length = q.length:=by
    intro l
    induction l with
    | nil => intro q;rfl
    | cons p l ih => intro q;simp only [rnd,List.foldl_cons] at ih ⊢;rw [ih];exact derP_len _ _ _ _
   exact this _ _
  by_cases hil : i < ps.length
  case neg =>
   obtain rfl : i = ps.length:=by omega
   rw [List.take_of_length_le (Nat.le_refl _)] at ho2
   have hfo : f o = o2:=ho2.symm
   have hstep:=fin_step hf o
   rw [hfo] at hstep
   simp [bx,hsV,rnd_nrm]
   by_cases he : o2 = o
   ·subst he
    refine ⟨o2,.inl ⟨⟨hlen2,by rw [← hfin],hfo⟩,by omega,by simpa using hm,rfl⟩⟩
   ·rw [if_neg he] at hstep
    refine ⟨o2,.inr ⟨⟨hlen2,by rw [← hfin,hstep]⟩,?_,by simpa [he] using hm,rfl⟩⟩
    have:=hf o
    rw [hfo] at this
    rcases this with h | h
    ·exact absurd h he
    ·exact h
  obtain ⟨p,hp⟩ : ∃ p,ps[i] = p:=⟨_,rfl⟩
  have pok:=okp p (hp ▸ List.getElem_mem hil)
  have hs:=psC_sub hil
  have hll:=psC_len ps
  have h2 : i * 2 + 2 ≤ 2 * ps.length:=by omega
  rw [hp] at hs
  simp only [Pr.cells] at hs
  have hnext : rnd st (ps.take (i + 1)) o = derP ⟨t,n,k,ps⟩ tok o2 p:=by rw [rnd_take _ _ _ _ hil,← ho2,hp]
  obtain ⟨pl,pr⟩:=p
  obtain ⟨q1,q2,q3,q4⟩:=pok
  simp only at q1 q2 q3 q4 hs
  obtain ⟨pl,rfl⟩:=Int.eq_ofNat_of_zero_le q2
  have hpl : pl < n:=by omega
  have hpl2 : pl < o2.length:=by omega
  have hpl3 : pl < (bools o2).length:=by rw [bools_len];omega
  obtain ⟨v,hv⟩ : ∃ v,o2[pl] = v:=⟨_,rfl⟩
  have hbl : (bools o2).length = n:=by rw [bools_len];exact hlen2
  have hpn1 : pl + 1 ≤ n:=hpl
  simp [-wi_stL,bx,hil,hll,hs,h2]
  rw [wi_stL]
  simp [replaceAt,hsV,hpl,hpl2,hbl,bools_get,hv]
  have hgD : o2.getD pl false = v:=by rw [getD_of hpl2,hv]
  obtain ⟨want,hwant⟩ : ∃ want,(!v && pr.all (okS ⟨t,n,k,ps⟩ tok o2)) = want:=⟨_,rfl⟩
  have hder : derP ⟨t,n,k,ps⟩ tok o2 ⟨pl,pr⟩ = if want = true then o2.set pl true else o2:=by
   unfold derP
   simp only [Int.toNat_natCast,hgD]
   cases v <;> cases hq : pr.all (okS ⟨t,n,k,ps⟩ tok o2) <;> rw [hq] at hwant <;> subst hwant <;> simp
  rw [hder] at hnext
  refine wb_loop (σ:=Nat × Bool) (fun s => [(1,Bo tok),(2,bx),(5,hsV),(6,Bo more),(7,I i),(8,.box [I pl,.sl pr.length (ints pr)]),(9,Bo s.2),(10,I s.1)]) (fun _ => H ++ [.cells (bools o2)])
   (fun s => s.1 ≤ pr.length ∧ (s.2 && (pr.drop s.1).all (okS ⟨t,n,k,ps⟩ tok o2)) = want) (fun s => pr.length - s.1) ?_ (0,!v) ⟨Nat.zero_le _,by rw [← hwant];rfl⟩ (by simp [bx,hsV]) rfl
  rintro ⟨m,okb⟩ ⟨hmm,hinv2⟩
  simp only at hmm hinv2
  unfold t83L1
  have w2 : IntKind.i64.wrap ((m : Int) + 1) = (m : Int) + 1:=wrap64 (by omega) (by omega)
  by_cases hgo : m < pr.length ∧ okb = true
  case neg =>
   have hw : okb = want:=by
    by_cases h1 : m < pr.length
    ·have h2 : okb = false:=by
      cases okb with
      | false => rfl
      | true => exact absurd ⟨h1,rfl⟩ hgo
     rw [h2] at hinv2 ⊢
     simpa using hinv2
    ·obtain rfl : m = pr.length:=by omega
     rw [List.drop_length,all_nil,Bool.and_true] at hinv2
     exact hinv2
   subst hw
   cases okb with
   | false =>
    have hc : ∀ q : Prop,(if m < pr.length then AV.val (Value.bool false) else AV.val (Value.bool false)) = AV.val (Value.bool false):=fun _ => by split <;> rfl
    by_cases h1 : m < pr.length
    ·simp [bx,hsV,h1,w1]
     rw [rnd_nrm]
     exact ⟨(i + 1,o2,more),⟨by simp only;omega,by rw [hnext];rfl,by simpa using hm⟩,by simp only;omega,by simp,rfl⟩
    ·simp [bx,hsV,h1,w1]
     rw [rnd_nrm]
     exact ⟨(i + 1,o2,more),⟨by simp only;omega,by rw [hnext];rfl,by simpa using hm⟩,by simp only;omega,by simp,rfl⟩
   | true =>
    have h1 : ¬ m < pr.length:=fun h => hgo ⟨h,rfl⟩
    have hwv : v = false:=by
     cases v with
     | false => rfl
     | true => simp at hwant
    rw [if_pos rfl] at hnext
    have hcn:=cntF_set o2 pl hpl2 (by rw [hv,hwv])
    have hle:=rnd_le (fun p => derP_grows ⟨t,n,k,ps⟩ tok p) (ps.take i) o
    have hle : cntF o2 ≤ cntF o:=by rw [ho2];exact hle
    have hne : o2.set pl true ≠ o:=fun h => by rw [h] at hcn;omega
    simp [bx,hsV,h1,w1,hpl,hbl,hpn1,setH,hlk,replaceAt_one _ hpl3,bools_set]
    rw [rnd_nrm]
    exact ⟨(i + 1,o2.set pl true,true),⟨by simp only;omega,hnext.symm,by simp [hne]⟩,by simp only;omega,by simp,rfl⟩
  obtain ⟨hml,rfl⟩:=hgo
  obtain ⟨x,hx⟩ : ∃ x,pr[m] = x:=⟨_,rfl⟩
  obtain ⟨x1,x2⟩:=q4 x (hx ▸ List.getElem_mem hml)
  rw [List.drop_eq_getElem_cons hml,hx,List.all_cons,Bool.true_and] at hinv2
  by_cases hxt : x < t
  ·have hok : okS ⟨t,n,k,ps⟩ tok o2 x = tok:=by unfold okS;rw [if_pos hxt]
   rw [hok] at hinv2
   have hxt2 : ¬ t ≤ x:=by omega
   cases tok with
   | true =>
    simp [bx,hsV,hml,hx,hxt,hxt2,w2]
    rw [rnd_nrm]
    exact ⟨(m + 1,true),⟨by simp only;omega,hinv2⟩,by simp only;omega,by simp,rfl⟩
   | false =>
    simp [bx,hsV,hml,hx,hxt,hxt2,w2]
    rw [rnd_nrm]
    exact ⟨(m + 1,false),⟨by simp only;omega,hinv2⟩,by simp only;omega,by simp,rfl⟩
  ·have hxt2 : t ≤ x:=by omega
   have hxn : (x - t).toNat < o2.length:=by omega
   obtain ⟨u,hu⟩ : ∃ u,o2[(x - t).toNat] = u:=⟨_,rfl⟩
   have hok : okS ⟨t,n,k,ps⟩ tok o2 x = u:=by unfold okS;rw [if_neg hxt];simp only;rw [getD_of hxn,hu]
   rw [hok] at hinv2
   have w3 : IntKind.i64.wrap (x - t) = x - t:=wrap64 (by omega) (by omega)
   have y1 : 0 ≤ x - t:=by omega
   have y2 : x - t < n:=by omega
   have y3 : (x - t).toNat < n:=by omega
   simp [bx,hsV,hml,hx,hxt,hxt2,w2,w3,y1,y2,hbl,bools_get,hxn,hu]
   rw [rnd_nrm]
   exact ⟨(m + 1,u),⟨by simp only;omega,hinv2⟩,by simp only;omega,by simp,rfl⟩
end Go.Proofs.YtgbpioccaenjaaaGreat

namespace Go.Proofs.YtgbpioccaenjaaaGreat
open Go Go.Hm

theorem rnd_ind {α : Type} {st : List Bool → α → List Bool} (Q : List Bool → Prop) (ps : List α) (hq : ∀ o,∀ p ∈ ps,Q o → Q (st o p)) : ∀ (l : List α),(∀ p ∈ l,p ∈ ps) → ∀ o,Q o → Q (rnd st l o)
 | [],_,_,h => h
 | p :: l,hl,o,h => rnd_ind Q ps hq l (fun q hq => hl q (List.mem_cons_of_mem _ hq)) (st o p) (hq o p (hl p (List.mem_cons_self ..)) h)
set_option maxRecDepth 20000 in
theorem grow_code {lk lim : Nat} {f : FuncId} {cap : List AV} (ps : List Pr) (st : List Bool → Pr → List Bool) (S : List Bool → Heap) (Q : List Bool → Prop) (L : Nat) (hl : ps.length ≤ 1000000) (hc : cap.all argOk = true)
  (hs : ∀ p,Grows fun o => st o p) (hQ : ∀ o,∀ p ∈ ps,Q o → Q (st o p)) (hL : ∀ o,(S o).length = L)
  (hst : ∀ o,∀ p ∈ ps,Q o → callW X A lk L f (.agg p.cells :: cap) (S o) = some (Bo (decide (st o p ≠ o)),S (st o p))) (o0 : List Bool) (h0 : Q o0) :
  callW X A lk lim 57 [.sl ps.length (psC ps),.fn f cap] (S o0) = some (.tup [],S (fin (rnd st ps) o0)):=by
 have hf : Grows (rnd st ps):=rnd_grows hs ps
 have htk : ∀ o,(S o).take L = S o:=fun o => List.take_of_length_le (by rw [hL];exact Nat.le_refl _)
 refine wb_callB [6] rfl A57 rfl rfl ?_
 unfold t57B
 rw [hL]
 simp
 refine wb_loop (σ:=List Bool × Bool) (fun s => [(0,.sl ps.length (psC ps)),(1,.fn f cap),(4,Bo s.2)]) (fun s => S s.1)
  (fun s => Q s.1 ∧ fin (rnd st ps) s.1 = fin (rnd st ps) o0 ∧ (s.2 = false → rnd st ps s.1 = s.1)) (fun s => cntF s.1 + if s.2 = true then 1 else 0) ?_ (o0,true) ⟨h0,rfl,by simp⟩ (by simp) rfl
 rintro ⟨o,again⟩ ⟨hq,hfin,hag⟩
 simp only at hq hfin hag
 unfold t57L2
 cases again with
 | false =>
  have h1 : fin (rnd st ps) o = o:=by rw [fin_step hf,if_pos (hag rfl)]
  rw [h1] at hfin
  rw [← hfin]
  simp [hL,htk]
 | true =>
  simp
  refine wb_loop (σ:=Nat × List Bool × Bool) (fun s => [(0,.sl ps.length (psC ps)),(1,.fn f cap),(4,Bo s.2.2),(8,.sl ps.length (psC ps)),(9,I ps.length),(10,I s.1)]) (fun s => S s.2.1)
   (fun s => s.1 ≤ ps.length ∧ Q s.2.1 ∧ s.2.1 = rnd st (ps.take s.1) o ∧ s.2.2 = decide (s.2.1 ≠ o)) (fun s => ps.length - s.1) ?_ (0,o,false) ⟨Nat.zero_le _,hq,rfl,by simp⟩ (by simp) rfl
  rintro ⟨i,o2,ag⟩ ⟨hi,hq2,ho2,hm⟩
  simp only at hi hq2 ho2 hm
  unfold t57L1
  have w1 : IntKind.i64.wrap ((i : Int) + 1) = (i : Int) + 1:=wrap64 (by omega) (by omega)
  by_cases hil : i < ps.length
  case neg =>
   obtain rfl : i = ps.length:=by omega
   rw [List.take_of_length_le (Nat.le_refl _)] at ho2
   have hfo : rnd st ps o = o2:=ho2.symm
   have hstep:=fin_step hf o
   rw [hfo] at hstep
   simp
   rw [rnd_nrm]
   refine ⟨(o2,ag),⟨hq2,?_,fun h => ?_⟩,?_,by simp,rfl⟩
   ·rw [← hfin,hstep]
    by_cases he : o2 = o
    ·rw [if_pos he,he,fin_step hf o,if_pos (hfo.trans he)]
    ·rw [if_neg he]
   ·have h : ag = false:=h
    rw [h] at hm
    have he : o2 = o:=by simpa using hm.symm
    show rnd st ps o2 = o2
    rw [he] at hfo ⊢;exact hfo
   ·show cntF o2 + (if ag = true then 1 else 0) < cntF o + (if true = true then 1 else 0)
    by_cases he : o2 = o
    ·rw [hm];simp [he]
    ·have:=hf o
     rw [hfo] at this
     rcases this with h | h
     ·exact absurd h he
     ·rw [hm];simp [he];omega
  obtain ⟨p,hp⟩ : ∃ p,ps[i] = p:=⟨_,rfl⟩
  have hpm : p ∈ ps:=hp ▸ List.getElem_mem hil
  have hsub:=psC_sub hil
  have hll:=psC_len ps
  have h2 : i * 2 + 2 ≤ 2 * ps.length:=by omega
  rw [hp] at hsub
  have hnext : rnd st (ps.take (i + 1)) o = st o2 p:=by rw [rnd_take _ _ _ _ hil,← ho2,hp]
  have hcall:=hst o2 p hpm hq2
  have hle:=rnd_le hs (ps.take i) o
  rw [← ho2] at hle
  have hch : decide (st o2 p ≠ o) = (decide (st o2 p ≠ o2) || ag):=by
   rw [hm]
   by_cases h1 : st o2 p = o2
   ·rw [h1];simp
   ·have h3 : cntF (st o2 p) < cntF o2:=by
     rcases hs p o2 with h | h
     ·exact absurd h h1
     ·exact h
    have h4 : st o2 p ≠ o:=fun h => by rw [h] at h3;omega
    simp [h1,h4]
  obtain ⟨c,hcc⟩ : ∃ c,decide (st o2 p ≠ o2) = c:=⟨_,rfl⟩
  rw [hcc] at hcall hch
  obtain ⟨pl,pr⟩:=p
  simp only [Pr.cells] at hsub hcall
  generalize callW X A = C at hcall ⊢
  simp [-wi_stL,hil,hll,hsub,h2]
  rw [wi_stL]
  simp [-argOk,aok_val,aok_agg,replaceAt,hcall,hc]
  cases c with
  | true =>
   simp [w1]
   rw [rnd_nrm]
   exact ⟨(i + 1,st o2 ⟨pl,pr⟩,true),⟨by simp only;omega,hQ _ _ hpm hq2,hnext.symm,by simpa using hch.symm⟩,by simp only;omega,by simp,rfl⟩
  | false =>
   simp [w1]
   rw [rnd_nrm]
   exact ⟨(i + 1,st o2 ⟨pl,pr⟩,ag),⟨by simp only;omega,hQ _ _ hpm hq2,hnext.symm,by simpa using hch.symm⟩,by simp only;omega,by simp,rfl⟩
end Go.Proofs.YtgbpioccaenjaaaGreat

namespace Go.Proofs.YtgbpioccaenjaaaGreat
open Go Go.Hm

theorem take_setG (H : Heap) (b : Nat) (x : HB) : (H.set b x).take H.length = H.set b x:=List.take_of_length_le (by simp)
theorem get_ltG {H : Heap} {b : Nat} {x : HB} (h : H[b]? = some x) : b < H.length:=by
 rcases Nat.lt_or_ge b H.length with h1 | h1
 ·exact h1
 ·rw [List.getElem?_eq_none h1] at h;cases h
structure DH (g : Gm) (tok : Bool) (H : Heap) (b : Nat) (o : List Bool) : Prop where
 g0 : H[b]? = some (.cells g.cells)
 g1 : H[b + 1]? = some (.cells [Bo tok])
 g2 : H[b + 2]? = some (.cells (bools o))
 g3 : H[b + 3]? = some (.cells [.hs (b + 2) g.n.toNat 0 g.n.toNat 1])
 g4 : H[b + 4]? = some (.cells [.fn 92 [.hp b 4 0,.hp (b + 1) 1 0,.hp (b + 3) 1 0]])
abbrev lackC (b : Nat) : List AV:=[.hp b 4 0,.hp (b + 1) 1 0,.hp (b + 3) 1 0]
set_option maxRecDepth 20000 in
theorem c52_code {lk lim : Nat} {H : Heap} {g : Gm} {tok : Bool} {b : Nat} {o : List Bool} (hd : DH g tok H b o) (ok : GOk g) (ho : o.length = g.n.toNat) (s : Int) (s1 : 0 ≤ s) (s2 : s < g.t + g.n) :
  callW X A lk lim 92 (I s :: lackC b) H = some (Bo (!okS g tok o s),H):=by
 refine wb_callB [] rfl A92 rfl rfl ?_
 unfold t92B
 obtain ⟨g0,g1,g2,g3,g4⟩:=hd
 obtain ⟨t,n,k,ps⟩:=g
 obtain ⟨t1,t2,n1,n2,k1,k2,l1,l2,okp⟩:=ok
 simp only at t1 t2 n1 n2 ho s2
 obtain ⟨n,rfl⟩:=Int.eq_ofNat_of_zero_le (by omega : 0 ≤ n)
 simp only [Gm.cells] at g0
 simp only [Int.toNat_natCast] at g3 ho
 by_cases hst : s < t
 ·have hok : okS ⟨t,n,k,ps⟩ tok o s = tok:=by unfold okS;rw [if_pos hst]
  rw [hok]
  have hst2 : ¬ t ≤ s:=by omega
  cases tok <;> simp [g0,g1,hst,hst2]
 ·have hst2 : t ≤ s:=by omega
  have hxn : (s - t).toNat < o.length:=by omega
  obtain ⟨u,hu⟩ : ∃ u,o[(s - t).toNat] = u:=⟨_,rfl⟩
  have hok : okS ⟨t,n,k,ps⟩ tok o s = u:=by unfold okS;rw [if_neg hst];simp only;rw [getD_of hxn,hu]
  rw [hok]
  have w3 : IntKind.i64.wrap (s - t) = s - t:=wrap64 (by omega) (by omega)
  have y1 : 0 ≤ s - t:=by omega
  have y2 : s - t < n:=by omega
  have hbl : (bools o).length = n:=by rw [bools_len];exact ho
  simp [g0,g3,g2,hst,hst2,w3,y1,y2,hbl,bools_get,hxn,hu]
theorem DH.set {g : Gm} {tok : Bool} {H : Heap} {b : Nat} {o o2 : List Bool} (hd : DH g tok H b o) : DH g tok (H.set (b + 2) (.cells (bools o2))) b o2:=by
 obtain ⟨g0,g1,g2,g3,g4⟩:=hd
 have hl:=get_ltG g2
 exact ⟨by rw [List.getElem?_set_ne (by omega)];exact g0,by rw [List.getElem?_set_ne (by omega)];exact g1,by rw [List.getElem?_set_self hl],by rw [List.getElem?_set_ne (by omega)];exact g3,by rw [List.getElem?_set_ne (by omega)];exact g4⟩
theorem not_any {α : Type} (P : α → Bool) (l : List α) : (l.any fun x => !P x) = !l.all P:=by
 induction l with
 | nil => rfl
 | cons a l ih => simp only [List.any_cons,List.all_cons,ih,Bool.not_and]
set_option maxRecDepth 20000 in
theorem c53_code {lk lim : Nat} {H : Heap} {g : Gm} {tok : Bool} {b : Nat} {o : List Bool} (hd : DH g tok H b o) (hlk : lk ≤ b + 2) (ok : GOk g) (ho : o.length = g.n.toNat) (p : Pr) (pok : POk g p) :
  callW X A lk lim 93 [.agg p.cells,.hp (b + 3) 1 0,.hp (b + 4) 1 0] H = some (Bo (decide (derP g tok o p ≠ o)),H.set (b + 2) (.cells (bools (derP g tok o p)))):=by
 have k35:=has35_code (lk:=lk) (lim:=H.length) (H:=H) (f:=92) (cap:=lackC b) p.r (fun s => !okS g tok o s) (by have:=pok.len;omega) rfl (fun s hs => c52_code hd ok ho s (pok.s s hs).1 (pok.s s hs).2)
 rw [not_any] at k35
 have htk:=fun x : HB => take_setG H (b + 2) x
 refine wb_callB [3] rfl A93 rfl rfl ?_
 unfold t93B
 obtain ⟨g0,g1,g2,g3,g4⟩:=hd
 obtain ⟨t,n,k,ps⟩:=g
 have n1:=ok.n1
 simp only at n1
 obtain ⟨n,rfl⟩:=Int.eq_ofNat_of_zero_le (by omega : 0 ≤ n)
 simp only [Int.toNat_natCast] at g3 ho
 obtain ⟨pl,pr⟩:=p
 obtain ⟨q1,q2,q3,q4⟩:=pok
 simp only at q1 q2 q3 q4 k35
 obtain ⟨pl,rfl⟩:=Int.eq_ofNat_of_zero_le q2
 have hpl2 : pl < o.length:=by omega
 have hpn : pl < n:=by omega
 have hpn1 : pl + 1 ≤ n:=hpn
 have hpn2 : (pl : Int) < n:=by omega
 obtain ⟨v,hv⟩ : ∃ v,o[pl] = v:=⟨_,rfl⟩
 have hbl : (bools o).length = n:=by rw [bools_len];exact ho
 have hpl3 : pl < (bools o).length:=by rw [hbl];exact hpn
 have hgD : o.getD pl false = v:=by rw [getD_of hpl2,hv]
 have hself : H.set (b + 2) (.cells (bools o)) = H:=by
  have hl:=get_ltG g2
  rw [List.getElem?_eq_getElem hl] at g2
  have g2:=Option.some.inj g2
  rw [← g2]
  exact List.set_getElem_self hl
 generalize callW X A = C at k35 ⊢
 cases v with
 | true =>
  have hder : derP ⟨t,n,k,ps⟩ tok o ⟨pl,pr⟩ = o:=by unfold derP;simp only [Int.toNat_natCast,hgD];rfl
  rw [hder,hself]
  simp [Pr.cells,g3,g2,hpn,hpn2,hbl,bools_get,hpl2,hv]
 | false =>
  cases hall : pr.all (okS ⟨t,n,k,ps⟩ tok o) with
  | false =>
   have hder : derP ⟨t,n,k,ps⟩ tok o ⟨pl,pr⟩ = o:=by unfold derP;simp only [Int.toNat_natCast,hgD,hall];rfl
   rw [hall] at k35
   rw [hder,hself]
   simp [Pr.cells,g3,g2,g4,hpn,hpn2,hbl,bools_get,hpl2,hv,k35]
  | true =>
   have hder : derP ⟨t,n,k,ps⟩ tok o ⟨pl,pr⟩ = o.set pl true:=by unfold derP;simp only [Int.toNat_natCast,hgD,hall];rfl
   rw [hall] at k35
   rw [hder]
   have hcn:=cntF_set o pl hpl2 hv
   have hne : o.set pl true ≠ o:=fun h => by rw [h] at hcn;omega
   simp [Pr.cells,g3,g2,g4,hpn,hpn1,hpn2,hbl,bools_get,hpl2,hv,k35,setH,hlk,replaceAt_one _ hpl3,bools_set,hne]
   exact htk _
end Go.Proofs.YtgbpioccaenjaaaGreat

namespace Go.Proofs.YtgbpioccaenjaaaGreat
open Go Go.Hm

def dS (g : Gm) (tok : Bool) (H : Heap) (o : List Bool) : Heap:=H ++ [.cells g.cells,.cells [Bo tok],.cells (bools o),.cells [.hs (H.length + 2) g.n.toNat 0 g.n.toNat 1],.cells [.fn 92 (lackC H.length)]]
theorem dS_dh (g : Gm) (tok : Bool) (H : Heap) (o : List Bool) : DH g tok (dS g tok H o) H.length o:=by
 unfold dS
 exact ⟨by rw [get_at0];rfl,by rw [Hm.get_at];rfl,by rw [Hm.get_at];rfl,by rw [Hm.get_at];rfl,by rw [Hm.get_at];rfl⟩
theorem dS_set (g : Gm) (tok : Bool) (H : Heap) (o o2 : List Bool) : (dS g tok H o).set (H.length + 2) (.cells (bools o2)) = dS g tok H o2:=by
 unfold dS
 rw [set_at];rfl
set_option maxRecDepth 20000 in
theorem der_code {lk lim : Nat} {H : Heap} (g : Gm) (tok : Bool) (hl : g.ps.length ≤ 1000000) (hr : ∀ p ∈ g.ps,p.r.length ≤ 1000000) (hlk : lk ≤ H.length) :
  callW X A lk lim 81 [gV g,Bo tok] H = some (if chkE g = 0 then .sl g.n.toNat (bools (derM g tok)) else .e0,H):=by
 have kc:=fun (L : Nat) (H' : Heap) => check_code (lk:=lk) (lim:=L) (H:=H') g hl hr
 have kg:=fun (L : Nat) (ok : GOk g) => grow_code (lk:=lk) (lim:=L) (f:=93) (cap:=[.hp (H.length + 3) 1 0,.hp (H.length + 4) 1 0]) g.ps (derP g tok) (dS g tok H) (fun o => o.length = g.n.toNat) (H.length + 5) hl rfl
  (fun p => derP_grows g tok p) (fun o p _ h => by rw [derP_len];exact h) (fun o => by simp [dS]) (fun o p hp ho => by
   have:=c53_code (lk:=lk) (lim:=H.length + 5) (dS_dh g tok H o) (by omega) ok ho p (ok.p p hp)
   rw [dS_set] at this
   exact this) (List.replicate g.n.toNat false) (by simp)
 refine wb_callB [] rfl A81 rfl rfl ?_
 unfold t81B
 by_cases hc : chkE g = 0
 case neg =>
  rw [if_neg hc]
  obtain ⟨t,n,k,ps⟩:=g
  simp only [gV,Gm.cells] at kc
  generalize callW X A = C at kc ⊢
  simp [Gm.cells,kc,hc]
 have ok:=gok_of hc
 rw [if_pos hc]
 rw [hc] at kc
 have kg:=fun L => kg L ok
 obtain ⟨t,n,k,ps⟩:=g
 have n1:=ok.n1
 have n2:=ok.n2
 simp only at n1 n2
 obtain ⟨n,rfl⟩:=Int.eq_ofNat_of_zero_le (by omega : 0 ≤ n)
 simp only [gV,Gm.cells] at kc
 have hro : (n : Int) ≤ (room : Int):=by unfold room;omega
 obtain ⟨F,hF⟩ : ∃ F,derM ⟨t,n,k,ps⟩ tok = F:=⟨_,rfl⟩
 have hFl : F.length = n:=by
  rw [← hF]
  have:=fin_ind (rnd_grows (fun p => derP_grows ⟨t,n,k,ps⟩ tok p) ps) (fun o => o.length = n) (fun o h => rnd_ind (fun o => o.length = n) ps (fun o p _ h => by rw [derP_len];exact h) ps (fun _ h => h) o h) _ (List.replicate n false) (Nat.le_refl _) (by simp)
  exact this
 have kg : ∀ L,callW X A lk L 57 [.sl ps.length (psC ps),.fn 93 [.hp (H.length + 3) 1 0,.hp (H.length + 4) 1 0]] (dS ⟨t,n,k,ps⟩ tok H (List.replicate n false)) = some (.tup [],dS ⟨t,n,k,ps⟩ tok H F):=fun L => by
  rw [← hF];exact kg L
 have hb:=fun (H' : Heap) => frz_bools H.length H' 7 F
 have hb2:=bel_bools 0 F
 have htk : (bools F).take n = bools F:=List.take_of_length_le (by rw [bools_len];omega)
 have hbl : (bools F).length = n:=by rw [bools_len];exact hFl
 simp only [dS,Gm.cells,lackC,Int.toNat_natCast] at kg
 rw [hF]
 simp only [Int.toNat_natCast]
 generalize callW X A = C at kc kg ⊢
 have s1 : lk ≤ H.length + 3:=by omega
 have s2 : lk ≤ H.length + 4:=by omega
 have s3 : ¬ (H.length + 2 < H.length):=by omega
 simp [Gm.cells,kc,hro,bools_rep,setH,s1,s2,set_at,Hm.get_at,get_at0,kg,hbl,htk,hb,hb2,s3]
end Go.Proofs.YtgbpioccaenjaaaGreat
