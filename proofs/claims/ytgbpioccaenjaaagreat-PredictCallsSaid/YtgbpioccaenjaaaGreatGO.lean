import Derived.Test.YtgbpioccaenjaaaGreatGN
set_option linter.unusedSimpArgs false
set_option linter.unusedVariables false
namespace Go.Proofs.YtgbpioccaenjaaaGreat
open Go Go.Hm

def derV (g : Gm) (tok : Bool) : AV:=if chkE g = 0 then .sl g.n.toNat (bools (derM g tok)) else .e0
theorem derV_arg (g : Gm) (tok : Bool) : (derV g tok = .e0) ∨ ∃ n c,derV g tok = .sl n c:=by
 unfold derV
 split
 ·exact .inr ⟨_,_,rfl⟩
 ·exact .inl rfl
section
variable {lk lim : Nat} {H : Heap} (g : Gm) (hl : g.ps.length ≤ 1000000) (hr : ∀ p ∈ g.ps,p.r.length ≤ 1000000) (hlk : lk ≤ H.length)
include hl hr hlk
theorem null_code : callW X A lk lim 56 [gV g] H = some (derV g false,H):=by
 have k:=der_code (lk:=lk) (lim:=H.length) (H:=H) g false hl hr hlk
 have e : (if chkE g = 0 then AV.sl g.n.toNat (bools (derM g false)) else AV.e0) = derV g false:=rfl
 rw [e] at k
 refine wb_callB [1] rfl A56 rfl rfl ?_
 unfold t56B
 simp only [gV,Gm.cells] at k
 generalize callW X A = C at k ⊢
 rcases derV_arg g false with h | ⟨n,c,h⟩ <;> rw [h] at k ⊢ <;> simp [Gm.cells,k]
theorem prod_code : callW X A lk lim 54 [gV g] H = some (derV g true,H):=by
 have k:=der_code (lk:=lk) (lim:=H.length) (H:=H) g true hl hr hlk
 have e : (if chkE g = 0 then AV.sl g.n.toNat (bools (derM g true)) else AV.e0) = derV g true:=rfl
 rw [e] at k
 refine wb_callB [1] rfl A54 rfl rfl ?_
 unfold t54B
 simp only [gV,Gm.cells] at k
 generalize callW X A = C at k ⊢
 rcases derV_arg g true with h | ⟨n,c,h⟩ <;> rw [h] at k ⊢ <;> simp [Gm.cells,k]
theorem rnull_code : callW X A lk lim 62 [gV g] H = some (derV g false,H):=by
 have k:=rder_code (lk:=lk) (lim:=H.length) (H:=H) g false hl hr hlk
 have e : (if chkE g = 0 then AV.sl g.n.toNat (bools (derM g false)) else AV.e0) = derV g false:=rfl
 rw [e] at k
 refine wb_callB [1] rfl A62 rfl rfl ?_
 unfold t62B
 simp only [gV,Gm.cells] at k
 generalize callW X A = C at k ⊢
 rcases derV_arg g false with h | ⟨n,c,h⟩ <;> rw [h] at k ⊢ <;> simp [Gm.cells,k]
theorem rprod_code : callW X A lk lim 60 [gV g] H = some (derV g true,H):=by
 have k:=rder_code (lk:=lk) (lim:=H.length) (H:=H) g true hl hr hlk
 have e : (if chkE g = 0 then AV.sl g.n.toNat (bools (derM g true)) else AV.e0) = derV g true:=rfl
 rw [e] at k
 refine wb_callB [1] rfl A60 rfl rfl ?_
 unfold t60B
 simp only [gV,Gm.cells] at k
 generalize callW X A = C at k ⊢
 rcases derV_arg g true with h | ⟨n,c,h⟩ <;> rw [h] at k ⊢ <;> simp [Gm.cells,k]
end

def rchS (g : Gm) (o : List Bool) (s : Int) : List Bool:=if s < g.t then o else if o.getD (s - g.t).toNat false = true then o else o.set (s - g.t).toNat true
def rchP (g : Gm) (o : List Bool) (p : Pr) : List Bool:=if o.getD p.l.toNat false = true then p.r.foldl (rchS g) o else o
theorem rchS_grows (g : Gm) (s : Int) : Grows fun o => rchS g o s:=fun o => by
 simp only [rchS]
 split
 ·exact .inl rfl
 ·split
  ·exact .inl rfl
  ·rename_i h;exact set_grows o _ h
theorem rchP_grows (g : Gm) (p : Pr) : Grows fun o => rchP g o p:=fun o => by
 simp only [rchP]
 split
 ·exact rnd_grows (st:=rchS g) (fun s => rchS_grows g s) p.r o
 ·exact .inl rfl
def rchM (g : Gm) : List Bool:=fin (rnd (rchP g) g.ps) ((List.replicate g.n.toNat false).set 0 true)
end Go.Proofs.YtgbpioccaenjaaaGreat

namespace Go.Proofs.YtgbpioccaenjaaaGreat
open Go Go.Hm

structure RH (g : Gm) (H : Heap) (b : Nat) (o : List Bool) : Prop where
 g0 : H[b]? = some (.cells g.cells)
 g2 : H[b + 1]? = some (.cells (bools o))
 g3 : H[b + 2]? = some (.cells [.hs (b + 1) g.n.toNat 0 g.n.toNat 1])
theorem RH.set {g : Gm} {H : Heap} {b : Nat} {o o2 : List Bool} (hd : RH g H b o) : RH g (H.set (b + 1) (.cells (bools o2))) b o2:=by
 obtain ⟨g0,g2,g3⟩:=hd
 have hl:=get_ltG g2
 exact ⟨by rw [List.getElem?_set_ne (by omega)];exact g0,by rw [List.getElem?_set_self hl],by rw [List.getElem?_set_ne (by omega)];exact g3⟩
theorem set_self {H : Heap} {b : Nat} {x : HB} (h : H[b]? = some x) : H.set b x = H:=by
 have hl:=get_ltG h
 rw [List.getElem?_eq_getElem hl] at h
 have h:=Option.some.inj h
 rw [← h]
 exact List.set_getElem_self hl
theorem rchS_len (g : Gm) (o : List Bool) (s : Int) : (rchS g o s).length = o.length:=by
 unfold rchS
 repeat' split
 all_goals simp
theorem fold_take {α : Type} (st : List Bool → α → List Bool) (l : List α) (o : List Bool) (i : Nat) (h : i < l.length) : (l.take (i + 1)).foldl st o = st ((l.take i).foldl st o) l[i]:=rnd_take st l o i h
set_option maxRecDepth 20000 in
theorem c41_code {lk lim : Nat} {H : Heap} {g : Gm} {b : Nat} {o : List Bool} (hd : RH g H b o) (hlk : lk ≤ b + 1) (ok : GOk g) (ho : o.length = g.n.toNat) (p : Pr) (pok : POk g p) :
  callW X A lk lim 82 [.agg p.cells,.hp (b + 2) 1 0,.hp b 4 0] H = some (Bo (decide (rchP g o p ≠ o)),H.set (b + 1) (.cells (bools (rchP g o p)))):=by
 refine wb_callB [3] rfl A82 rfl rfl ?_
 unfold t82B
 have hself:=set_self hd.g2
 have hlt:=get_ltG hd.g2
 obtain ⟨t,n,k,ps⟩:=g
 have n1:=ok.n1
 have n2:=ok.n2
 have t1:=ok.t1
 have t2:=ok.t2
 simp only at n1 n2 t1 t2
 obtain ⟨n,rfl⟩:=Int.eq_ofNat_of_zero_le (by omega : 0 ≤ n)
 simp only [Int.toNat_natCast] at ho
 obtain ⟨pl,pr⟩:=p
 obtain ⟨q1,q2,q3,q4⟩:=pok
 simp only at q1 q2 q3 q4
 obtain ⟨pl,rfl⟩:=Int.eq_ofNat_of_zero_le q2
 have hpn : pl < n:=by omega
 have hpl2 : pl < o.length:=by omega
 obtain ⟨v,hv⟩ : ∃ v,o[pl] = v:=⟨_,rfl⟩
 have hbl : (bools o).length = n:=by rw [bools_len];exact ho
 have hgD : o.getD pl false = v:=by rw [getD_of hpl2,hv]
 have g0:=hd.g0
 have g2:=hd.g2
 have g3:=hd.g3
 simp only [Gm.cells] at g0
 simp only [Int.toNat_natCast] at g3
 cases v with
 | false =>
  have hr : rchP ⟨t,n,k,ps⟩ o ⟨pl,pr⟩ = o:=by unfold rchP;simp only [Int.toNat_natCast,hgD];rfl
  rw [hr,hself]
  simp [Pr.cells,g3,g2,hpn,hbl,bools_get,hpl2,hv]
 | true =>
  have hr : rchP ⟨t,n,k,ps⟩ o ⟨pl,pr⟩ = pr.foldl (rchS ⟨t,n,k,ps⟩) o:=by unfold rchP;simp only [Int.toNat_natCast,hgD];rfl
  rw [hr]
  obtain ⟨cR,hcR⟩ : ∃ c,decide (pr.foldl (rchS ⟨t,n,k,ps⟩) o ≠ o) = c:=⟨_,rfl⟩
  rw [hcR]
  simp [Pr.cells,g3,g2,hpn,hbl,bools_get,hpl2,hv]
  refine wb_loop (σ:=Nat × List Bool × Bool) (fun s => [(1,.hp (b + 2) 1 0),(2,.hp b 4 0),(4,Bo s.2.2),(14,.sl pr.length (ints pr)),(15,I pr.length),(16,I s.1)]) (fun s => H.set (b + 1) (.cells (bools s.2.1)))
   (fun s => s.1 ≤ pr.length ∧ s.2.1 = (pr.take s.1).foldl (rchS ⟨t,n,k,ps⟩) o ∧ s.2.2 = decide (s.2.1 ≠ o)) (fun s => pr.length - s.1) ?_ (0,o,false) ⟨Nat.zero_le _,rfl,by simp⟩ (by simp) (by rw [hself])
  rintro ⟨m,o2,mo⟩ ⟨hm,ho2,hmo⟩
  simp only at hm ho2 hmo
  unfold t82L1
  have w1 : IntKind.i64.wrap ((m : Int) + 1) = (m : Int) + 1:=wrap64 (by omega) (by omega)
  by_cases hml : m < pr.length
  case neg =>
   obtain rfl : m = pr.length:=by omega
   rw [List.take_of_length_le (Nat.le_refl _)] at ho2
   have hmo2 : mo = cR:=by rw [hmo,ho2];exact hcR
   rw [← ho2,← hmo2]
   have htk:=take_setG H (b + 1) (.cells (bools o2))
   simp [htk]
  obtain ⟨x,hx⟩ : ∃ x,pr[m] = x:=⟨_,rfl⟩
  obtain ⟨x1,x2⟩:=q4 x (hx ▸ List.getElem_mem hml)
  have hnext:=fold_take (rchS ⟨t,n,k,ps⟩) pr o m hml
  rw [← ho2,hx] at hnext
  have hlen2 : o2.length = n:=by
   rw [ho2]
   have : ∀ (l : List Int) (q : List Bool),(l.foldl (rchS ⟨t,n,k,ps⟩) q).length = q.length:=by
    intro l
    induction l with
    | nil => intro q;rfl
    | cons a l ih => intro q;simp only [List.foldl_cons];rw [ih];exact rchS_len _ _ _
   rw [this];exact ho
  have hle:=rnd_le (fun s => rchS_grows ⟨t,n,k,ps⟩ s) (pr.take m) o
  have hle : cntF o2 ≤ cntF o:=by rw [ho2];exact hle
  obtain ⟨e0,e2,e3⟩:=(hd.set (o2:=o2))
  simp only [Gm.cells] at e0
  simp only [Int.toNat_natCast] at e3
  have hbl2 : (bools o2).length = n:=by rw [bools_len];exact hlen2
  by_cases hxt : x < t
  ·have hr : rchS ⟨t,n,k,ps⟩ o2 x = o2:=by unfold rchS;rw [if_pos hxt]
   rw [hr] at hnext
   simp [hml,hx,e0,hxt,w1]
   rw [rnd_nrm]
   exact ⟨(m + 1,o2,mo),⟨by simp only;omega,hnext.symm,by simpa using hmo⟩,by simp only;omega,by simp,rfl⟩
  ·have hxn : (x - t).toNat < o2.length:=by omega
   have hxn3 : (x - t).toNat < n:=by omega
   obtain ⟨u,hu⟩ : ∃ u,o2[(x - t).toNat] = u:=⟨_,rfl⟩
   have w3 : IntKind.i64.wrap (x - t) = x - t:=wrap64 (by omega) (by omega)
   have y1 : 0 ≤ x - t:=by omega
   have y0 : t ≤ x:=by omega
   have y2 : x - t < n:=by omega
   have hpl3 : (x - t).toNat < (bools o2).length:=by rw [hbl2];exact hxn3
   have hgD2 : o2.getD (x - t).toNat false = u:=by rw [getD_of hxn,hu]
   cases u with
   | true =>
    have hr : rchS ⟨t,n,k,ps⟩ o2 x = o2:=by unfold rchS;rw [if_neg hxt];simp only [hgD2,if_true]
    rw [hr] at hnext
    simp [hml,hx,e0,e2,e3,hxt,w1,w3,y0,y1,y2,hbl2,bools_get,hxn,hu]
    rw [rnd_nrm]
    exact ⟨(m + 1,o2,mo),⟨by simp only;omega,hnext.symm,by simpa using hmo⟩,by simp only;omega,by simp,rfl⟩
   | false =>
    have hr : rchS ⟨t,n,k,ps⟩ o2 x = o2.set (x - t).toNat true:=by unfold rchS;rw [if_neg hxt];simp only [hgD2];rfl
    rw [hr] at hnext
    have hcn:=cntF_set o2 _ hxn hu
    have hne : o2.set (x - t).toNat true ≠ o:=fun h => by rw [h] at hcn;omega
    have y3 : (x - t).toNat + 1 ≤ n:=hxn3
    simp [hml,hx,e0,e2,e3,hxt,w1,w3,y0,y1,y2,y3,hbl2,bools_get,hxn,hu,setH,hlk,replaceAt_one _ hpl3,bools_set]
    rw [rnd_nrm]
    exact ⟨(m + 1,o2.set (x - t).toNat true,true),⟨by simp only;omega,hnext.symm,by simp [hne]⟩,by simp only;omega,by simp,by simp⟩
end Go.Proofs.YtgbpioccaenjaaaGreat

namespace Go.Proofs.YtgbpioccaenjaaaGreat
open Go Go.Hm

def rS (g : Gm) (H : Heap) (o : List Bool) : Heap:=H ++ [.cells g.cells,.cells (bools o),.cells [.hs (H.length + 1) g.n.toNat 0 g.n.toNat 1]]
theorem rS_rh (g : Gm) (H : Heap) (o : List Bool) : RH g (rS g H o) H.length o:=by
 unfold rS
 exact ⟨by rw [get_at0];rfl,by rw [Hm.get_at];rfl,by rw [Hm.get_at];rfl⟩
theorem rS_set (g : Gm) (H : Heap) (o o2 : List Bool) : (rS g H o).set (H.length + 1) (.cells (bools o2)) = rS g H o2:=by
 unfold rS
 rw [set_at];rfl
theorem rchP_len (g : Gm) (o : List Bool) (p : Pr) : (rchP g o p).length = o.length:=by
 have : ∀ (l : List Int) (q : List Bool),(l.foldl (rchS g) q).length = q.length:=by
  intro l
  induction l with
  | nil => intro q;rfl
  | cons a l ih => intro q;simp only [List.foldl_cons];rw [ih];exact rchS_len _ _ _
 unfold rchP
 split
 ·exact this _ _
 ·rfl
def rchV (g : Gm) : AV:=if chkE g = 0 then .sl g.n.toNat (bools (rchM g)) else .e0
theorem rchM_len (g : Gm) : (rchM g).length = g.n.toNat:=
 fin_ind (rnd_grows (fun p => rchP_grows g p) g.ps) (fun o => o.length = g.n.toNat) (fun o h => rnd_ind (fun o => o.length = g.n.toNat) g.ps (fun o p _ h => by rw [rchP_len];exact h) g.ps (fun _ h => h) o h) _ _ (Nat.le_refl _) (by simp)
set_option maxRecDepth 20000 in
theorem rch_code {lk lim : Nat} {H : Heap} (g : Gm) (hl : g.ps.length ≤ 1000000) (hr : ∀ p ∈ g.ps,p.r.length ≤ 1000000) (hlk : lk ≤ H.length) :
  callW X A lk lim 55 [gV g] H = some (rchV g,H):=by
 have kc:=fun (L : Nat) (H' : Heap) => check_code (lk:=lk) (lim:=L) (H:=H') g hl hr
 have kg:=fun (L : Nat) (ok : GOk g) => grow_code (lk:=lk) (lim:=L) (f:=82) (cap:=[.hp (H.length + 2) 1 0,.hp H.length 4 0]) g.ps (rchP g) (rS g H) (fun o => o.length = g.n.toNat) (H.length + 3) hl rfl
  (fun p => rchP_grows g p) (fun o p _ h => by rw [rchP_len];exact h) (fun o => by simp [rS]) (fun o p hp ho => by
   have:=c41_code (lk:=lk) (lim:=H.length + 3) (rS_rh g H o) (by omega) ok ho p (ok.p p hp)
   rw [rS_set] at this
   exact this) ((List.replicate g.n.toNat false).set 0 true) (by simp)
 refine wb_callB [] rfl A55 rfl rfl ?_
 unfold t55B
 unfold rchV
 by_cases hc : chkE g = 0
 case neg =>
  rw [if_neg hc]
  obtain ⟨t,n,k,ps⟩:=g
  simp only [gV,Gm.cells] at kc
  generalize callW X A = C at kc ⊢
  simp [Gm.cells,kc,hc]
 have ok:=gok_of hc
 rw [if_pos hc]
 rw [hc] at kc
 have kg:=fun L => kg L ok
 have hFl:=rchM_len g
 obtain ⟨t,n,k,ps⟩:=g
 have n1:=ok.n1
 have n2:=ok.n2
 simp only at n1 n2
 obtain ⟨n,rfl⟩:=Int.eq_ofNat_of_zero_le (by omega : 0 ≤ n)
 simp only [gV,Gm.cells] at kc
 have hro : (n : Int) ≤ (room : Int):=by unfold room;omega
 obtain ⟨F,hF⟩ : ∃ F,rchM ⟨t,n,k,ps⟩ = F:=⟨_,rfl⟩
 rw [hF] at hFl ⊢
 simp only [Int.toNat_natCast] at hFl
 have kg : ∀ L,callW X A lk L 57 [.sl ps.length (psC ps),.fn 82 [.hp (H.length + 2) 1 0,.hp H.length 4 0]] (rS ⟨t,n,k,ps⟩ H ((List.replicate n false).set 0 true)) = some (.tup [],rS ⟨t,n,k,ps⟩ H F):=fun L => by
  rw [← hF];exact kg L
 have hb:=fun (H' : Heap) => frz_bools H.length H' 7 F
 have hb2:=bel_bools 0 F
 have htk : (bools F).take n = bools F:=List.take_of_length_le (by rw [bools_len];omega)
 have hbl : (bools F).length = n:=by rw [bools_len];exact hFl
 simp only [rS,Gm.cells,Int.toNat_natCast] at kg
 simp only [Int.toNat_natCast]
 have s1 : lk ≤ H.length + 1:=by omega
 have s2 : lk ≤ H.length + 2:=by omega
 have s3 : ¬ (H.length + 1 < H.length):=by omega
 have z1 : 0 < n:=by omega
 have z2 : 1 ≤ n:=by omega
 have z3 : (bools (List.replicate n false)).length = n:=by rw [bools_len];simp
 have z4 : replaceAt (bools (List.replicate n false)) 0 [Bo true] = bools ((List.replicate n false).set 0 true):=by
  rw [replaceAt_one _ (by rw [z3];omega),bools_set]
 generalize callW X A = C at kc kg ⊢
 simp [Gm.cells,kc,hro,bools_rep,setH,s1,s2,set_at,Hm.get_at,get_at0,kg,hbl,htk,hb,hb2,s3,z1,z2,z3,z4]
end Go.Proofs.YtgbpioccaenjaaaGreat

namespace Go.Proofs.YtgbpioccaenjaaaGreat
open Go Go.Hm

theorem rchS_keep (g : Gm) (o : List Bool) (s : Int) (i : Nat) (h : o.getD i false = true) : (rchS g o s).getD i false = true:=by
 unfold rchS
 split
 ·exact h
 ·split
  ·exact h
  ·rw [List.getD_eq_getElem?_getD] at h ⊢
   rw [List.getElem?_set]
   split
   ·split
    ·rfl
    ·rename_i h1 h2
     subst h1
     rw [List.getElem?_eq_none (by omega)] at h
     simp at h
   ·exact h
theorem rchF_keep (g : Gm) : ∀ (l : List Int) (o : List Bool) (i : Nat),o.getD i false = true → (l.foldl (rchS g) o).getD i false = true
 | [],_,_,h => h
 | a :: l,o,i,h => rchF_keep g l (rchS g o a) i (rchS_keep g o a i h)
theorem rchF_len (g : Gm) : ∀ (l : List Int) (o : List Bool),(l.foldl (rchS g) o).length = o.length
 | [],_ => rfl
 | a :: l,o => by simp only [List.foldl_cons];rw [rchF_len g l,rchS_len]
set_option maxRecDepth 20000 in
theorem rrch_code {lk lim : Nat} {H : Heap} (g : Gm) (hl : g.ps.length ≤ 1000000) (hr : ∀ p ∈ g.ps,p.r.length ≤ 1000000) (hlk : lk ≤ H.length) :
  callW X A lk lim 61 [gV g] H = some (rchV g,H):=by
 have kc:=fun (L : Nat) => rcheck_code (lk:=lk) (lim:=L) (H:=H) g hl hr
 refine wb_callB [1,6] rfl A61 rfl rfl ?_
 unfold t61B
 unfold rchV
 by_cases hc : chkE g = 0
 case neg =>
  rw [if_neg hc]
  obtain ⟨t,n,k,ps⟩:=g
  simp only [gV,Gm.cells] at kc
  generalize callW X A = C at kc ⊢
  simp [Gm.cells,kc,hc]
 have ok:=gok_of hc
 rw [if_pos hc]
 rw [hc] at kc
 obtain ⟨t,n,k,ps⟩:=g
 have ok2:=ok
 obtain ⟨t1,t2,n1,n2,k1,k2,l1,l2,okp⟩:=ok2
 simp only at t1 t2 n1 n2 k1 k2 l1 l2 okp
 obtain ⟨n,rfl⟩:=Int.eq_ofNat_of_zero_le (by omega : 0 ≤ n)
 simp only [gV,Gm.cells] at kc
 have hro : (n : Int) ≤ (room : Int):=by unfold room;omega
 have z1 : 0 < n:=by omega
 have z2 : 1 ≤ n:=by omega
 have z3 : (bools (List.replicate n false)).length = n:=by rw [bools_len];simp
 have z4 : replaceAt (bools (List.replicate n false)) 0 [Bo true] = bools ((List.replicate n false).set 0 true):=by
  rw [replaceAt_one _ (by rw [z3];omega),bools_set]
 simp [Gm.cells,kc,hro,bools_rep,setH,hlk,z1,z2,z3,z4]
 let bx : AV:=.box [I t,I n,I k,.sl ps.length (psC ps)]
 let hsV : AV:=.hs H.length n 0 n 1
 let f:=rnd (rchP ⟨t,n,k,ps⟩) ps
 have hf : Grows f:=rnd_grows (fun p => rchP_grows _ p) ps
 refine wb_loop (σ:=List Bool × Bool) (fun s => [(1,bx),(3,hsV),(4,Bo s.2)]) (fun s => H ++ [.cells (bools s.1)])
  (fun s => s.1.length = n ∧ fin f s.1 = rchM ⟨t,n,k,ps⟩ ∧ (s.2 = false → f s.1 = s.1)) (fun s => cntF s.1 + if s.2 = true then 1 else 0) ?_ ((List.replicate n false).set 0 true,true) ⟨by simp,rfl,by simp⟩ (by simp [bx,hsV]) (by simp)
 rintro ⟨o,more⟩ ⟨ho,hfin,hmore⟩
 simp only at ho hfin hmore
 unfold t61L3
 cases more with
 | false =>
  have h1 : fin f o = o:=by rw [fin_step hf,if_pos (hmore rfl)]
  rw [h1] at hfin
  rw [← hfin]
  have hb:=frz_bools H.length (H ++ [.cells (bools o)]) 7 o
  have hb2:=bel_bools 0 o
  have htk : (bools o).take n = bools o:=List.take_of_length_le (by rw [bools_len];omega)
  simp [bx,hsV,bools_len,ho,htk,hb,hb2]
 | true =>
  simp
  let st:=rchP ⟨t,n,k,ps⟩
  refine wb_loop (σ:=Nat × List Bool × Bool) (fun s => [(1,bx),(3,hsV),(4,Bo s.2.2),(5,I s.1)]) (fun s => H ++ [.cells (bools s.2.1)])
   (fun s => s.1 ≤ ps.length ∧ s.2.1 = rnd st (ps.take s.1) o ∧ s.2.2 = decide (s.2.1 ≠ o)) (fun s => ps.length - s.1) ?_ (0,o,false) ⟨Nat.zero_le _,rfl,by simp⟩ (by simp [bx,hsV]) rfl
  rintro ⟨i,o2,more⟩ ⟨hi,ho2,hm⟩
  simp only at hi ho2 hm
  unfold t61L2
  have w1 : IntKind.i64.wrap ((i : Int) + 1) = (i : Int) + 1:=wrap64 (by omega) (by omega)
  have hlen2 : o2.length = n:=by
   rw [ho2,← ho]
   have : ∀ (l : List Pr) (q : List Bool),(rnd st l q).length = q.length:=by
    intro l
    induction l with
    | nil => intro q;rfl
    | cons p l ih => intro q;simp only [rnd,List.foldl_cons] at ih ⊢;rw [ih];exact rchP_len _ _ _
   exact this _ _
  by_cases hil : i < ps.length
  case neg =>
   obtain rfl : i = ps.length:=by omega
   rw [List.take_of_length_le (Nat.le_refl _)] at ho2
   have hfo : f o = o2:=ho2.symm
   have hstep:=fin_step hf o
   rw [hfo] at hstep
   simp [bx,hsV,rnd_nrm]
   by_cases he : o2 = o
   ·subst he
    refine ⟨o2,.inl ⟨⟨hlen2,by rw [← hfin],hfo⟩,by omega,by simpa using hm,rfl⟩⟩
   ·rw [if_neg he] at hstep
    refine ⟨o2,.inr ⟨⟨hlen2,by rw [← hfin,hstep]⟩,?_,by simpa [he] using hm,rfl⟩⟩
    have:=hf o
    rw [hfo] at this
    rcases this with h | h
    ·exact absurd h he
    ·exact h
  obtain ⟨p,hp⟩ : ∃ p,ps[i] = p:=⟨_,rfl⟩
  have pok:=okp p (hp ▸ List.getElem_mem hil)
  have hs:=psC_sub hil
  have hll:=psC_len ps
  have h2 : i * 2 + 2 ≤ 2 * ps.length:=by omega
  rw [hp] at hs
  simp only [Pr.cells] at hs
  have hnext : rnd st (ps.take (i + 1)) o = rchP ⟨t,n,k,ps⟩ o2 p:=by rw [rnd_take _ _ _ _ hil,← ho2,hp]
  obtain ⟨pl,pr⟩:=p
  obtain ⟨q1,q2,q3,q4⟩:=pok
  simp only at q1 q2 q3 q4 hs
  obtain ⟨pl,rfl⟩:=Int.eq_ofNat_of_zero_le q2
  have hpl : pl < n:=by omega
  have hpl2 : pl < o2.length:=by omega
  have hbl : (bools o2).length = n:=by rw [bools_len];exact hlen2
  simp [-wi_stL,bx,hil,hll,hs,h2]
  rw [wi_stL]
  simp [replaceAt,hsV]
  have hle2:=rnd_le (fun p => rchP_grows ⟨t,n,k,ps⟩ p) (ps.take i) o
  have hle2 : cntF o2 ≤ cntF o:=by rw [ho2];exact hle2
  refine wb_loop (σ:=Nat × List Bool × Bool) (fun s => [(1,bx),(3,hsV),(4,Bo s.2.2),(5,I i),(6,.box [I pl,.sl pr.length (ints pr)]),(7,I s.1)]) (fun s => H ++ [.cells (bools s.2.1)])
   (fun s => s.1 ≤ pr.length ∧ (s.1 = 0 ∨ o2.getD pl false = true) ∧ s.2.1 = (pr.take s.1).foldl (rchS ⟨t,n,k,ps⟩) o2 ∧ s.2.2 = decide (s.2.1 ≠ o)) (fun s => pr.length - s.1) ?_ (0,o2,more) ⟨Nat.zero_le _,.inl rfl,rfl,hm⟩ (by simp [bx,hsV]) rfl
  rintro ⟨m,o3,mo⟩ ⟨hmm,hgo,ho3,hmo⟩
  simp only at hmm hgo ho3 hmo
  unfold t61L1
  have w2 : IntKind.i64.wrap ((m : Int) + 1) = (m : Int) + 1:=wrap64 (by omega) (by omega)
  have hlen3 : o3.length = n:=by rw [ho3,rchF_len];exact hlen2
  have hbl3 : (bools o3).length = n:=by rw [bools_len];exact hlen3
  have hpl3 : pl < o3.length:=by omega
  obtain ⟨v,hv⟩ : ∃ v,o3[pl] = v:=⟨_,rfl⟩
  have hgD : o3.getD pl false = v:=by rw [getD_of hpl3,hv]
  by_cases hml : m < pr.length
  case neg =>
   obtain rfl : m = pr.length:=by omega
   rw [List.take_of_length_le (Nat.le_refl _)] at ho3
   simp [bx,hsV,w1]
   rw [rnd_nrm]
   refine ⟨(i + 1,o3,mo),⟨by simp only;omega,?_,by simpa using hmo⟩,by simp only;omega,by simp,rfl⟩
   rw [hnext]
   unfold rchP
   simp only [Int.toNat_natCast]
   rcases hgo with h | h
   ·have hpr : pr = []:=List.length_eq_zero_iff.1 h
    subst hpr
    rw [ho3]
    split <;> rfl
   ·rw [if_pos h];exact ho3
  cases v with
  | false =>
   have hm0 : m = 0:=by
    rcases hgo with h | h
    ·exact h
    ·have:=rchF_keep ⟨t,n,k,ps⟩ (pr.take m) o2 pl h
     rw [← ho3,hgD] at this
     cases this
   subst hm0
   have ho3 : o3 = o2:=ho3
   subst ho3
   simp [bx,hsV,hml,w1,hpl,hbl3,bools_get,hpl3,hv]
   rw [rnd_nrm]
   refine ⟨(i + 1,o3,mo),⟨by simp only;omega,?_,by simpa using hmo⟩,by simp only;omega,by simp,rfl⟩
   rw [hnext]
   unfold rchP
   simp only [Int.toNat_natCast,hgD]
   rfl
  | true =>
   have hg2 : o2.getD pl false = true:=by
    rcases hgo with h | h
    ·subst h
     have ho3 : o3 = o2:=ho3
     rw [← ho3,hgD]
    ·exact h
   obtain ⟨x,hx⟩ : ∃ x,pr[m] = x:=⟨_,rfl⟩
   obtain ⟨x1,x2⟩:=q4 x (hx ▸ List.getElem_mem hml)
   have hnx:=fold_take (rchS ⟨t,n,k,ps⟩) pr o2 m hml
   rw [← ho3,hx] at hnx
   have w3 : IntKind.i64.wrap (x - t) = x - t:=wrap64 (by omega) (by omega)
   have hle3:=rnd_le (fun s => rchS_grows ⟨t,n,k,ps⟩ s) (pr.take m) o2
   have hle3 : cntF o3 ≤ cntF o2:=by rw [ho3];exact hle3
   by_cases hxt : x < t
   ·have hr : rchS ⟨t,n,k,ps⟩ o3 x = o3:=by unfold rchS;rw [if_pos hxt]
    rw [hr] at hnx
    have y0 : ¬ t ≤ x:=by omega
    have y1 : ¬ 0 ≤ x - t:=by omega
    simp [bx,hsV,hml,hpl,hbl3,bools_get,hpl3,hv,hx,w2,w3,y0,y1]
    rw [rnd_nrm]
    exact ⟨(m + 1,o3,mo),⟨by simp only;omega,.inr hg2,hnx.symm,by simpa using hmo⟩,by simp only;omega,by simp,rfl⟩
   ·have y0 : t ≤ x:=by omega
    have y1 : 0 ≤ x - t:=by omega
    have y2 : x - t < n:=by omega
    have y3 : (x - t).toNat + 1 ≤ n:=by omega
    have hxn : (x - t).toNat < o3.length:=by omega
    obtain ⟨u,hu⟩ : ∃ u,o3[(x - t).toNat] = u:=⟨_,rfl⟩
    have hgD2 : o3.getD (x - t).toNat false = u:=by rw [getD_of hxn,hu]
    have hpl4 : (x - t).toNat < (bools o3).length:=by rw [hbl3];omega
    cases u with
    | true =>
     have hr : rchS ⟨t,n,k,ps⟩ o3 x = o3:=by unfold rchS;rw [if_neg hxt];simp only [hgD2,if_true]
     rw [hr] at hnx
     simp [bx,hsV,hml,hpl,hbl3,bools_get,hpl3,hv,hx,w2,w3,y0,y1,y2,hxn,hu]
     rw [rnd_nrm]
     exact ⟨(m + 1,o3,mo),⟨by simp only;omega,.inr hg2,hnx.symm,by simpa using hmo⟩,by simp only;omega,by simp,rfl⟩
    | false =>
     have hr : rchS ⟨t,n,k,ps⟩ o3 x = o3.set (x - t).toNat true:=by unfold rchS;rw [if_neg hxt];simp only [hgD2];rfl
     rw [hr] at hnx
     have hcn:=cntF_set o3 _ hxn hu
     have hne : o3.set (x - t).toNat true ≠ o:=fun h => by rw [h] at hcn;omega
     simp [bx,hsV,hml,hpl,hbl3,bools_get,hpl3,hv,hx,w2,w3,y0,y1,y2,y3,hxn,hu,setH,hlk,replaceAt_one _ hpl4,bools_set]
     rw [rnd_nrm]
     exact ⟨(m + 1,o3.set (x - t).toNat true,true),⟨by simp only;omega,.inr hg2,hnx.symm,by simp [hne]⟩,by simp only;omega,by simp,by simp⟩
end Go.Proofs.YtgbpioccaenjaaaGreat

namespace Go.Proofs.YtgbpioccaenjaaaGreat
open Go Go.Hm

theorem rnd_len {α : Type} {st : List Bool → α → List Bool} (h : ∀ o p,(st o p).length = o.length) : ∀ (l : List α) (o : List Bool),(rnd st l o).length = o.length
 | [],_ => rfl
 | p :: l,o => by
  have:=rnd_len h l (st o p)
  simp only [rnd,List.foldl_cons] at this ⊢
  rw [this,h]
end Go.Proofs.YtgbpioccaenjaaaGreat

namespace Go.Proofs.YtgbpioccaenjaaaGreat
open Go Go.Hm

def redL (a b : List Bool) : Nat → Nat → Int × Bool
 | 0,_ => (0,true)
 | m + 1,i => if (a.getD i false && b.getD i false) = true then redL a b m (i + 1) else (i,false)
def redP (g : Gm) : Int × Bool:=if chkE g = 0 then redL (derM g true) (rchM g) g.n.toNat 0 else (0,false)
def redV (g : Gm) : AV:=.tup [I (redP g).1,Bo (redP g).2]
theorem derP_lenR (g : Gm) (tok : Bool) (l : List Pr) (o : List Bool) : (rnd (derP g tok) l o).length = o.length:=rnd_len (fun o p => derP_len g tok o p) l o
theorem derM_len (g : Gm) (tok : Bool) : (derM g tok).length = g.n.toNat:=
 fin_ind (rnd_grows (fun p => derP_grows g tok p) g.ps) (fun o => o.length = g.n.toNat) (fun o h => by rw [derP_lenR];exact h) _ _ (Nat.le_refl _) (by simp)
set_option maxRecDepth 20000 in
theorem red_code {lk lim : Nat} {H : Heap} (g : Gm) (hl : g.ps.length ≤ 1000000) (hr : ∀ p ∈ g.ps,p.r.length ≤ 1000000) (hlk : lk ≤ H.length) : callW X A lk lim 30 [gV g] H = some (redV g,H):=by
 have kc:=fun (L : Nat) => check_code (lk:=lk) (lim:=L) (H:=H) g hl hr
 have kp:=fun (L : Nat) => prod_code (lk:=lk) (lim:=L) (H:=H) g hl hr hlk
 have kr:=fun (L : Nat) => rch_code (lk:=lk) (lim:=L) (H:=H) g hl hr hlk
 refine wb_callB [1] rfl A30 rfl rfl ?_
 unfold t30B
 unfold redV redP
 by_cases hc : chkE g = 0
 case neg =>
  rw [if_neg hc]
  obtain ⟨t,n,k,ps⟩:=g
  simp only [gV,Gm.cells] at kc
  generalize callW X A = C at kc ⊢
  simp [Gm.cells,kc,hc]
 have ok:=gok_of hc
 rw [if_pos hc]
 rw [hc] at kc
 have ha:=derM_len g true
 have hb:=rchM_len g
 unfold derV at kp
 unfold rchV at kr
 rw [if_pos hc] at kp kr
 generalize derM g true = a at ha kp ⊢
 generalize rchM g = b at hb kr ⊢
 obtain ⟨t,n,k,ps⟩:=g
 obtain ⟨t1,t2,n1,n2,k1,k2,l1,l2,okp⟩:=ok
 simp only at t1 t2 n1 n2 k1 k2 l1 l2 okp
 obtain ⟨n,rfl⟩:=Int.eq_ofNat_of_zero_le (by omega : 0 ≤ n)
 simp only [gV,Gm.cells,Int.toNat_natCast] at kc kp kr ha hb ⊢
 generalize callW X A = C at kc kp kr ⊢
 obtain ⟨res,hres⟩ : ∃ res,redL a b n 0 = res:=⟨_,rfl⟩
 rw [hres]
 simp [kc,kp,kr]
 refine wb_loop (σ:=Nat) (fun i => [(4,.sl n (bools a)),(5,.sl n (bools b)),(15,I n),(16,I i)]) (fun _ => H)
  (fun i => i ≤ n ∧ redL a b (n - i) i = res) (fun i => n - i) ?_ 0 (by simp [hres]) (by simp) rfl
 rintro i ⟨hi,hinv⟩
 unfold t30L1
 have w1 : IntKind.i64.wrap ((i : Int) + 1) = (i : Int) + 1:=wrap64 (by omega) (by omega)
 by_cases hil : i < n
 case neg =>
  obtain rfl : i = n:=by omega
  rw [Nat.sub_self] at hinv
  subst hinv
  simp [redL]
 have hia : i < a.length:=by omega
 have hib : i < b.length:=by omega
 rw [show n - i = (n - (i + 1)) + 1 by omega,redL,getD_of hia,getD_of hib] at hinv
 obtain ⟨u,hu⟩ : ∃ u,a[i] = u:=⟨_,rfl⟩
 obtain ⟨v,hv⟩ : ∃ v,b[i] = v:=⟨_,rfl⟩
 rw [hu,hv] at hinv
 cases u with
 | false =>
  subst hinv
  simp [hil,bools_get,hia,hib,hu,ha]
 | true =>
  cases v with
  | false =>
   subst hinv
   simp [hil,bools_get,hia,hib,hu,hv,ha,hb]
  | true =>
   simp only [Bool.and_self,if_true] at hinv
   simp [hil,bools_get,hia,hib,hu,hv,ha,hb,w1]
   rw [rnd_nrm]
   exact ⟨i + 1,⟨by omega,hinv⟩,by omega,by simp,rfl⟩
set_option maxRecDepth 20000 in
theorem rred_code {lk lim : Nat} {H : Heap} (g : Gm) (hl : g.ps.length ≤ 1000000) (hr : ∀ p ∈ g.ps,p.r.length ≤ 1000000) (hlk : lk ≤ H.length) : callW X A lk lim 32 [gV g] H = some (redV g,H):=by
 have kc:=fun (L : Nat) => rcheck_code (lk:=lk) (lim:=L) (H:=H) g hl hr
 have kp:=fun (L : Nat) => rprod_code (lk:=lk) (lim:=L) (H:=H) g hl hr hlk
 have kr:=fun (L : Nat) => rrch_code (lk:=lk) (lim:=L) (H:=H) g hl hr hlk
 refine wb_callB [1] rfl A32 rfl rfl ?_
 unfold t32B
 unfold redV redP
 by_cases hc : chkE g = 0
 case neg =>
  rw [if_neg hc]
  obtain ⟨t,n,k,ps⟩:=g
  simp only [gV,Gm.cells] at kc
  generalize callW X A = C at kc ⊢
  simp [Gm.cells,kc,hc]
 have ok:=gok_of hc
 rw [if_pos hc]
 rw [hc] at kc
 have ha:=derM_len g true
 have hb:=rchM_len g
 unfold derV at kp
 unfold rchV at kr
 rw [if_pos hc] at kp kr
 generalize derM g true = a at ha kp ⊢
 generalize rchM g = b at hb kr ⊢
 obtain ⟨t,n,k,ps⟩:=g
 obtain ⟨t1,t2,n1,n2,k1,k2,l1,l2,okp⟩:=ok
 simp only at t1 t2 n1 n2 k1 k2 l1 l2 okp
 obtain ⟨n,rfl⟩:=Int.eq_ofNat_of_zero_le (by omega : 0 ≤ n)
 simp only [gV,Gm.cells,Int.toNat_natCast] at kc kp kr ha hb ⊢
 generalize callW X A = C at kc kp kr ⊢
 obtain ⟨res,hres⟩ : ∃ res,redL a b n 0 = res:=⟨_,rfl⟩
 rw [hres]
 simp [kc,kp,kr]
 let bx : AV:=.box [I t,I n,I k,.sl ps.length (psC ps)]
 refine wb_loop (σ:=Nat) (fun i => [(1,bx),(4,.sl n (bools a)),(5,.sl n (bools b)),(6,I i)]) (fun _ => H)
  (fun i => i ≤ n ∧ redL a b (n - i) i = res) (fun i => n - i) ?_ 0 (by simp [hres]) (by simp [bx]) rfl
 rintro i ⟨hi,hinv⟩
 unfold t32L1
 have w1 : IntKind.i64.wrap ((i : Int) + 1) = (i : Int) + 1:=wrap64 (by omega) (by omega)
 by_cases hil : i < n
 case neg =>
  obtain rfl : i = n:=by omega
  rw [Nat.sub_self] at hinv
  subst hinv
  simp [redL,bx]
 have hia : i < a.length:=by omega
 have hib : i < b.length:=by omega
 rw [show n - i = (n - (i + 1)) + 1 by omega,redL,getD_of hia,getD_of hib] at hinv
 obtain ⟨u,hu⟩ : ∃ u,a[i] = u:=⟨_,rfl⟩
 obtain ⟨v,hv⟩ : ∃ v,b[i] = v:=⟨_,rfl⟩
 rw [hu,hv] at hinv
 cases u with
 | false =>
  subst hinv
  simp [bx,hil,bools_get,hia,hib,hu,ha]
 | true =>
  cases v with
  | false =>
   subst hinv
   simp [bx,hil,bools_get,hia,hib,hu,hv,ha,hb]
  | true =>
   simp only [Bool.and_self,if_true] at hinv
   simp [bx,hil,bools_get,hia,hib,hu,hv,ha,hb,w1]
   rw [rnd_nrm]
   exact ⟨i + 1,⟨by omega,hinv⟩,by omega,by simp [bx],rfl⟩
end Go.Proofs.YtgbpioccaenjaaaGreat

namespace Go.Proofs.YtgbpioccaenjaaaGreat
open Go Go.Hm

abbrev tr (o : List Bool) (i : Nat) : Prop:=o.getD i false = true
theorem tr_set {o : List Bool} {i j : Nat} (h : tr o j) : tr (o.set i true) j:=by
 unfold tr at *
 rw [List.getD_eq_getElem?_getD] at *
 rw [List.getElem?_set]
 split
 ·split
  ·rfl
  ·rename_i h1 h2
   subst h1
   rw [List.getElem?_eq_none (by omega)] at h
   simp at h
 ·exact h
theorem tr_set_self {o : List Bool} {i : Nat} (h : i < o.length) : tr (o.set i true) i:=by
 unfold tr
 rw [List.getD_eq_getElem?_getD,List.getElem?_set,if_pos rfl,if_pos h]
 rfl
theorem rep_not (n i : Nat) : ¬ tr (List.replicate n false) i:=fun h => by
 unfold tr at h
 rw [List.getD_eq_getElem?_getD,List.getElem?_replicate] at h
 split at h <;> simp at h
end Go.Proofs.YtgbpioccaenjaaaGreat
