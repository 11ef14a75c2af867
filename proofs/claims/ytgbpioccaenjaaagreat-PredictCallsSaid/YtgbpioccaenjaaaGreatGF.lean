import Derived.Test.YtgbpioccaenjaaaGreatGE
set_option linter.unusedSimpArgs false
set_option linter.unusedVariables false
namespace Go.Proofs.YtgbpioccaenjaaaGreat
open Go Go.Hm

def quV (b : Nat) (q : List Nat) (off : Nat) (inq : List Bool) : List AV:=.hs b q.length off (q.length - off) 1 :: bools inq
def foH (H : Heap) (g : Gm) (F : AV) (cs qv : List AV) (q : List Nat) (G : Heap) : Heap:=
 H ++ (.cells g.cells :: .cells [F] :: .cells cs :: .cells [.hs (H.length + 2) cs.length 0 cs.length 1] :: .cells qv :: .cells (nts q) :: G)
section
variable {H : Heap} {g : Gm} {F : AV} {cs qv : List AV} {q : List Nat} {G : Heap}
theorem foH_len : (foH H g F cs qv q G).length = H.length + 6 + G.length:=by simp [foH];omega
theorem foH0 : (foH H g F cs qv q G)[H.length]? = some (.cells g.cells):=by unfold foH;rw [Hm.get_at0];rfl
theorem foH1 : (foH H g F cs qv q G)[H.length + 1]? = some (.cells [F]):=by unfold foH;rw [Hm.get_at];rfl
theorem foH2 : (foH H g F cs qv q G)[H.length + 2]? = some (.cells cs):=by unfold foH;rw [Hm.get_at];rfl
theorem foH3 : (foH H g F cs qv q G)[H.length + 3]? = some (.cells [.hs (H.length + 2) cs.length 0 cs.length 1]):=by unfold foH;rw [Hm.get_at];rfl
theorem foH4 : (foH H g F cs qv q G)[H.length + 4]? = some (.cells qv):=by unfold foH;rw [Hm.get_at];rfl
theorem foH5 : (foH H g F cs qv q G)[H.length + 5]? = some (.cells (nts q)):=by unfold foH;rw [Hm.get_at];rfl
theorem foHG (j : Nat) : (foH H g F cs qv q G)[H.length + 6 + j]? = G[j]?:=by
 unfold foH
 rw [Nat.add_assoc,Hm.get_at,Nat.add_comm 6 j]
 rfl
theorem foH_app (x : HB) : foH H g F cs qv q G ++ [x] = foH H g F cs qv q (G ++ [x]):=by simp [foH]
theorem foH_set2 (ds : List AV) (h : ds.length = cs.length) : (foH H g F cs qv q G).set (H.length + 2) (.cells ds) = foH H g F ds qv q G:=by
 unfold foH;rw [Hm.set_at,h];rfl
theorem foH_set4 (x : List AV) : (foH H g F cs qv q G).set (H.length + 4) (.cells x) = foH H g F cs x q G:=by
 unfold foH;rw [Hm.set_at];rfl
theorem foH_set5 (x : List Nat) : (foH H g F cs qv q G).set (H.length + 5) (.cells (nts x)) = foH H g F cs qv x G:=by
 unfold foH;rw [Hm.set_at];rfl
theorem foH_setG (j : Nat) (x : HB) : (foH H g F cs qv q G).set (H.length + 6 + j) x = foH H g F cs qv q (G.set j x):=by
 unfold foH;rw [Nat.add_assoc,Hm.set_at,Nat.add_comm 6 j];rfl
end
theorem quV_len {b off : Nat} {q : List Nat} {inq : List Bool} (h : inq.length = 16) : (quV b q off inq).length = 17:=by simp [quV,h]
theorem quV_get {b off : Nat} {q : List Nat} {inq : List Bool} {m : Nat} {x : Bool} (h : inq[m]? = some x) : (quV b q off inq)[1 + m]? = some (Bo x):=by
 rw [Nat.add_comm];simp [quV,bools_get,h]
theorem quV_set {b off : Nat} {q : List Nat} {inq : List Bool} {m : Nat} {x : Bool} (h : inq.length = 16) (hm : m < 16) : replaceAt (quV b q off inq) (1 + m) [Bo x] = quV b q off (inq.set m x):=by
 unfold replaceAt
 have h1 : (quV b q off inq).set (1 + m) (Bo x) = quV b q off (inq.set m x):=by rw [Nat.add_comm];simp [quV,bools_set]
 rw [← h1,List.set_eq_take_append_cons_drop,if_pos (by rw [quV_len h];omega)]
 simp
theorem quV_set0 {b off : Nat} {q : List Nat} {inq : List Bool} (x : AV) : replaceAt (quV b q off inq) 0 [x] = x :: bools inq:=by
 simp [replaceAt,quV]
theorem quV_hd {b off : Nat} {q : List Nat} {inq : List Bool} (h : 0 < (quV b q off inq).length) : (quV b q off inq)[0] = .hs b q.length off (q.length - off) 1:=rfl
theorem quV_head {b off : Nat} {q : List Nat} {inq : List Bool} : (quV b q off inq)[0]? = some (.hs b q.length off (q.length - off) 1):=rfl
set_option maxRecDepth 20000 in
theorem qput_code {lk lim : Nat} {H : Heap} {g : Gm} {F : AV} {cs : List AV} {q : List Nat} {off : Nat} {inq : List Bool} {G : Heap} (hlk : lk ≤ H.length + 4) (hlim : lim ≤ H.length + 4)
  (h16 : inq.length = 16) (m : Nat) (hm : m < 16) (hq : off ≤ q.length) (hr : q.length ≤ 1000000) :
  callW X A lk lim 68 [.hp (H.length + 4) 17 0,I (m : Int)] (foH H g F cs (quV (H.length + 5) q off inq) q G) = some (.tup [],if inq.getD m false = true then foH H g F cs (quV (H.length + 5) q off inq) q G else foH H g F cs (quV (H.length + 5) (q ++ [m]) off (inq.set m true)) (q ++ [m]) G):=by
 obtain ⟨b,hb⟩ : ∃ b,inq.getD m false = b:=⟨_,rfl⟩
 have hb2 : inq[m]? = some b:=by
  rw [List.getD_eq_getElem?_getD,List.getElem?_eq_getElem (by omega)] at hb
  rw [List.getElem?_eq_getElem (by omega),← hb];rfl
 rw [hb]
 have hql:=quV_len (b:=H.length + 5) (q:=q) (off:=off) h16
 have hqg:=quV_get (b:=H.length + 5) (q:=q) (off:=off) hb2
 have hqs:=fun (x : Bool) => quV_set (b:=H.length + 5) (q:=q) (off:=off) (x:=x) h16 hm
 have hql2:=quV_len (b:=H.length + 5) (q:=q) (off:=off) (inq:=inq.set m true) (by simpa using h16)
 have hqh:=quV_head (b:=H.length + 5) (q:=q) (off:=off) (inq:=inq.set m true)
 have hqz:=fun x => quV_set0 (b:=H.length + 5) (q:=q) (off:=off) (inq:=inq.set m true) x
 have hpl : off + (q.length - off) = q.length:=by omega
 have hna : nts q ++ [AV.val (.int .i64 m)] = nts (q ++ [m]):=by simp [nts]
 have hle : q.length + 1 - off = q.length - off + 1:=by omega
 refine wb_callB [] rfl A68 rfl rfl ?_
 unfold t68B
 generalize callW X A = C
 have hm1 : (m : Int) < 16:=by omega
 have hm0 : ¬ (m : Int) < 0:=by omega
 have hm2 : 1 + m + 1 ≤ 17:=by omega
 have g4 : lk ≤ H.length + 4:=hlk
 have g5 : lk ≤ H.length + 5:=by omega
 have r1 : (q.length - off + 1) * 8 ≤ room:=by unfold room;omega
 cases b with
 | true =>
  simp [foH4,hm,hm1,hm0,hql,hqg]
 | false =>
  simp [-wi_st,-wb_regN,foH4,hm,hm1,hm0,hql,hqg]
  rw [wb_regN]
  simp [-wi_st,-wb_regN,foH4,hm,hm1,hm0,hql,hqg]
  rw [wb_regN]
  simp [-wi_st,-wb_regN,foH4,hm,hm1,hm0,hql,hqg]
  rw [wi_st]
  simp [-wi_st,-wb_regN,foH4,hm,hm1,hm0,hm2,hql,hqs,setH,g4,foH_set4]
  rw [wb_regN]
  simp [-wi_st,-wb_regN,foH4,foH5,hm,hm1,hm0,hm2,hql,hqs,hql2,quV_hd,src_one,r1,setH,g5,appC,appG,hpl,hna,foH_set5]
  rw [wi_st]
  simp [-wi_st,-wb_regN,foH4,hql2,hqz,setH,g4,foH_set4,hlim]
  simp [quV,hle]
set_option maxRecDepth 20000 in
theorem qtake_code {lk lim : Nat} {H : Heap} {g : Gm} {F : AV} {cs : List AV} {q : List Nat} {off : Nat} {inq : List Bool} {G : Heap} (hlk : lk ≤ H.length + 4) (hlim : lim ≤ H.length + 4)
  (h16 : inq.length = 16) (hoff : off ≤ q.length) (hm : ∀ m ∈ q,m < 16) :
  callW X A lk lim 69 [.hp (H.length + 4) 17 0] (foH H g F cs (quV (H.length + 5) q off inq) q G) = some (if off < q.length then .tup [I (q.getD off 0 : Nat),Bo true] else .tup [I 0,Bo false],if off < q.length then foH H g F cs (quV (H.length + 5) q (off + 1) (inq.set (q.getD off 0) false)) q G else foH H g F cs (quV (H.length + 5) q off inq) q G):=by
 have hql:=quV_len (b:=H.length + 5) (q:=q) (off:=off) h16
 refine wb_callB [] rfl A69 rfl rfl ?_
 unfold t69B
 generalize callW X A = C
 have g4 : lk ≤ H.length + 4:=hlk
 by_cases ho : off < q.length
 case neg =>
  rw [if_neg ho,if_neg ho]
  have hz : ((q.length - off : Nat) == 0) = true:=by simp;omega
  have hz2 : q.length - off = 0:=by omega
  simp [foH4,hql,quV_hd,hz2]
 rw [if_pos ho,if_pos ho]
 have hz : ((q.length - off : Nat) == 0) = false:=by rw [beq_eq_false_iff_ne];omega
 have hz2 : ¬ q.length - off = 0:=by omega
 have hz3 : 0 < q.length - off:=by omega
 obtain ⟨n,hn⟩ : ∃ n,q[off] = n:=⟨_,rfl⟩
 have hn2 : q.getD off 0 = n:=by rw [List.getD_eq_getElem?_getD,List.getElem?_eq_getElem ho,← hn];rfl
 have hn3 : q[off]? = some n:=by rw [List.getElem?_eq_getElem ho,hn]
 have hnm : n < 16:=hm n (hn ▸ List.getElem_mem ho)
 have hm1 : (n : Int) < 16:=by omega
 have hm0 : ¬ (n : Int) < 0:=by omega
 have hm2 : 1 + n + 1 ≤ 17:=by omega
 rw [hn2]
 simp [-wi_st,-wb_regN,-wb_regD]
 rw [wb_regN]
 simp [-wi_st,-wb_regN,-wb_regD]
 rw [wb_regN]
 simp [-wi_st,-wb_regN,-wb_regD,foH4,foH5,hql,quV_hd,hz,hz2,hz3]
 rw [wb_regN]
 simp [-wi_st,-wb_regN,-wb_regD,foH4,foH5,hql,quV_hd,hz,hz2,hz3,ho,hn3,hn]
 rw [wb_regD rfl]
 have hb1 : (1 : Int) ≤ ((q.length - off : Nat) : Int):=by omega
 have hb2 : q.length - (off + 1) = q.length - off - 1:=by omega
 have hqz:=fun x => quV_set0 (b:=H.length + 5) (q:=q) (off:=off) (inq:=inq) x
 have hqy : AV.hs (H.length + 5) q.length (off + 1) (q.length - off - 1) 1 :: bools inq = quV (H.length + 5) q (off + 1) inq:=by rw [quV,hb2]
 have hql2:=quV_len (b:=H.length + 5) (q:=q) (off:=off + 1) h16
 have hqs:=quV_set (b:=H.length + 5) (q:=q) (off:=off + 1) (x:=false) h16 hnm
 simp [-wi_stD,-wb_regN,-wb_regD,foH4,foH5,hql,quV_hd,hz,hz2,hz3,ho,hn3,hn,bnd,hb1]
 rw [wi_stD]
 simp [-wi_stD,-wb_regN,-wb_regD,foH4,hql,hqz,setH,g4,hlim,foH_set4,hqy,hql2,hm1,hm0,hnm]
 rw [wi_stD]
 simp [-wi_stD,-wb_regN,-wb_regD,foH4,hm2,setH,g4,hlim,foH_set4,hqs,hql2]
 rw [wb_regN]
 simp
end Go.Proofs.YtgbpioccaenjaaaGreat

namespace Go.Proofs.YtgbpioccaenjaaaGreat
open Go Go.Hm

def putQ (q : List Nat) (inq : List Bool) (m : Nat) : List Nat × List Bool:=if inq.getD m false = true then (q,inq) else (q ++ [m],inq.set m true)
structure QInv (g : Gm) (S : Ss) (q : List Nat) (off : Nat) (inq : List Bool) : Prop where
 reach : Reach g S
 ofl : off ≤ q.length
 lt : ∀ m ∈ q,m < g.n.toNat
 nd : (q.drop off).Nodup
 len : inq.length = 16
 iff : ∀ m,m < 16 → (inq.getD m false = true ↔ m ∈ q.drop off)
 sz : q.length ≤ szS S
def Pend (g : Gm) (S : Ss) (w : List Nat) (P : Pl → Prop) : Prop:=∀ p ∈ pls g,p.l ∈ w ∨ P p ∨ ClosedF g S p
def qmu (g : Gm) (S : Ss) (q : List Nat) (off : Nat) : Nat:=2 * (g.n.toNat * 585 - szS S) + (q.length - off)
theorem drop_snoc {α : Type} {q : List α} {off : Nat} (h : off ≤ q.length) (x : α) : (q ++ [x]).drop off = q.drop off ++ [x]:=by
 rw [List.drop_append_of_le_length h]
section
variable {g : Gm} {S : Ss} {q : List Nat} {off : Nat} {inq : List Bool}
theorem QInv.small (hg : GOk g) (h : QInv g S q off inq) : q.length ≤ 9360:=by
 have h1:=h.sz
 have h2:=szF_le hg h.reach.ok
 have:=hg.n2
 omega
theorem QInv.lt16 (hg : GOk g) (h : QInv g S q off inq) : ∀ m ∈ q,m < 16:=fun m hm => by
 have:=h.lt m hm
 have:=hg.n2
 omega
theorem putQ_len (q : List Nat) {inq : List Bool} (m : Nat) (h : inq.length = 16) : (putQ q inq m).2.length = 16:=by
 unfold putQ;split <;> simp [h]
theorem grow_inv (hg : GOk g) (h : QInv g S q off inq) {p : Pl} (hp : p ∈ pls g) {P : Pl → Prop} (hP : Pend g S (q.drop off) fun p' => P p' ∨ p' = p)
  (hlt : (S.getD p.s []).length < (uni (S.getD p.s []) (cat g.k.toNat (ofM g (setsM g) p.r) (S.getD p.l []))).length) :
  QInv g (stF g (setsM g) S p) (putQ q inq p.s).1 off (putQ q inq p.s).2 ∧ Pend g (stF g (setsM g) S p) ((putQ q inq p.s).1.drop off) P ∧ qmu g (stF g (setsM g) S p) (putQ q inq p.s).1 off < qmu g S q off:=by
 have pok:=pls_ok hg p hp
 have hr:=reach_step hg h.reach hp
 have hup:=stF_up (F:=setsM g) h.reach.ok pok
 have hsz : szS S < szS (stF g (setsM g) S p):=by
  rcases hup.1 with e | e
  ·exact absurd (hup.2.1 e) (by omega)
  ·exact e
 have hle:=szF_le hg hr.ok
 have h16 : p.s < 16:=by have:=pok.s;have:=hg.n2;omega
 have hin : p.s ∈ (putQ q inq p.s).1.drop off ∧ ∀ m ∈ q.drop off,m ∈ (putQ q inq p.s).1.drop off:=by
  unfold putQ
  split
  ·rename_i hi
   exact ⟨(h.iff _ h16).1 hi,fun m hm => hm⟩
  ·show p.s ∈ (q ++ [p.s]).drop off ∧ _
   rw [drop_snoc h.ofl]
   exact ⟨by simp,fun m hm => List.mem_append_left _ hm⟩
 have hlen : (putQ q inq p.s).1.length ≤ q.length + 1 ∧ q.length ≤ (putQ q inq p.s).1.length:=by
  unfold putQ;split <;> simp
 have hoff:=h.ofl
 have hqs:=h.sz
 refine ⟨⟨hr,by omega,?_,?_,putQ_len _ _ h.len,?_,by omega⟩,?_,?_⟩
 ·intro m hm
  unfold putQ at hm
  split at hm
  ·exact h.lt m hm
  ·rcases List.mem_append.1 hm with hm | hm
   ·exact h.lt m hm
   ·rw [List.mem_singleton.1 hm];exact pok.s
 ·unfold putQ
  split
  ·exact h.nd
  ·rename_i hi
   show ((q ++ [p.s]).drop off).Nodup
   rw [drop_snoc h.ofl,List.nodup_append]
   exact ⟨h.nd,by simp,fun a ha b hb => by
    rw [List.mem_singleton.1 hb]
    rintro rfl
    exact hi ((h.iff _ h16).2 ha)⟩
 ·intro m hm
  unfold putQ
  split
  ·exact h.iff m hm
  ·show (inq.set p.s true).getD m false = true ↔ m ∈ (q ++ [p.s]).drop off
   rw [drop_snoc h.ofl,List.mem_append,List.mem_singleton,← h.iff m hm,List.getD_eq_getElem?_getD,List.getD_eq_getElem?_getD]
   by_cases e : p.s = m
   ·subst e
    rw [List.getElem?_set_self (by rw [h.len];exact h16)]
    simp
   ·rw [List.getElem?_set_ne e]
    simp [Ne.symm e]
 ·intro p' hp'
  have pok':=pls_ok hg p' hp'
  by_cases e : p'.l = p.s
  ·exact .inl (by rw [e];exact hin.1)
  have hsl : (stF g (setsM g) S p).getD p'.l [] = S.getD p'.l []:=by
   unfold stF
   rw [getD_set _ (by rw [h.reach.ok.len];exact pok.s),if_neg e]
  rcases hP p' hp' with h1 | (h1 | rfl) | h1
  ·exact .inl (hin.2 _ h1)
  ·exact .inr (.inl h1)
  ·refine .inr (.inr fun x hx => ?_)
   rw [hsl] at hx
   exact (stF_mem h.reach.ok pok _ x).2 (.inr ⟨rfl,hx⟩)
  ·refine .inr (.inr fun x hx => ?_)
   rw [hsl] at hx
   exact (stF_mem h.reach.ok pok _ x).2 (.inl (h1 x hx))
 ·unfold qmu
  omega
theorem still_inv (hg : GOk g) (h : QInv g S q off inq) {p : Pl} (hp : p ∈ pls g) {P : Pl → Prop} (hP : Pend g S (q.drop off) fun p' => P p' ∨ p' = p)
  (hle : (uni (S.getD p.s []) (cat g.k.toNat (ofM g (setsM g) p.r) (S.getD p.l []))).length ≤ (S.getD p.s []).length) : Pend g S (q.drop off) P:=by
 have pok:=pls_ok hg p hp
 have hup:=(stF_up (F:=setsM g) h.reach.ok pok).2.2 hle
 intro p' hp'
 rcases hP p' hp' with h1 | (h1 | rfl) | h1
 ·exact .inl h1
 ·exact .inr (.inl h1)
 ·refine .inr (.inr fun x hx => ?_)
  rw [← hup]
  exact (stF_mem h.reach.ok pok _ x).2 (.inr ⟨rfl,hx⟩)
 ·exact .inr (.inr h1)
theorem pend_mono {w : List Nat} {P Q : Pl → Prop} (h : Pend g S w P) (hPQ : ∀ p ∈ pls g,P p → Q p) : Pend g S w Q:=fun p hp => by
 rcases h p hp with h1 | h1 | h1
 ·exact .inl h1
 ·exact .inr (.inl (hPQ p hp h1))
 ·exact .inr (.inr h1)
theorem take_inv (hg : GOk g) (h : QInv g S q off inq) (ho : off < q.length) (hP : Pend g S (q.drop off) fun _ => False) :
  QInv g S q (off + 1) (inq.set (q.getD off 0) false) ∧ Pend g S (q.drop (off + 1)) (fun p => p.l = q.getD off 0) ∧ qmu g S q (off + 1) < qmu g S q off ∧ q.getD off 0 < g.n.toNat:=by
 have hd : q.drop off = q.getD off 0 :: q.drop (off + 1):=by
  rw [List.drop_eq_getElem_cons ho,List.getD_eq_getElem?_getD,List.getElem?_eq_getElem ho];rfl
 have hn : q.getD off 0 ∈ q:=List.drop_subset off q (by rw [hd];exact List.mem_cons_self ..)
 have hnd:=h.nd
 rw [hd,List.nodup_cons] at hnd
 have h16:=h.lt16 hg _ hn
 generalize q.getD off 0 = n at *
 refine ⟨⟨h.reach,ho,h.lt,hnd.2,by simp [h.len],fun m hm => ?_,h.sz⟩,fun p hp => ?_,by unfold qmu;omega,h.lt n hn⟩
 ·have:=h.iff m hm
  rw [hd,List.mem_cons] at this
  rw [List.getD_eq_getElem?_getD] at this ⊢
  by_cases e : n = m
  ·subst e
   rw [List.getElem?_set_self (by rw [h.len];exact h16)]
   simp [hnd.1]
  ·rw [List.getElem?_set_ne e,this]
   simp [Ne.symm e]
 ·rcases hP p hp with h1 | h1 | h1
  ·rw [hd,List.mem_cons] at h1
   exact h1.elim (fun e => .inr (.inl e)) .inl
  ·exact h1.elim
  ·exact .inr (.inr h1)
theorem start_inv (hg : GOk g) : QInv g (startF g) [0] 0 (true :: List.replicate 15 false) ∧ Pend g (startF g) [0] fun _ => False:=by
 have hn:=hg.n1
 have hs:=reach_start hg
 refine ⟨⟨hs,by simp,fun m hm => ?_,by simp,by simp,fun m hm => ?_,?_⟩,fun p hp => ?_⟩
 ·rw [List.mem_singleton.1 hm];omega
 ·cases m with
  | zero => simp
  | succ m =>
   have : (List.replicate 15 false).getD m false = false:=by
    rw [List.getD_eq_getElem?_getD,List.getElem?_replicate];split <;> rfl
   rw [List.getD_cons_succ,this]
   simp
 ·obtain ⟨k,hk⟩ : ∃ k,g.n.toNat = k + 1:=⟨g.n.toNat - 1,by omega⟩
  unfold startF
  rw [hk,List.replicate_succ]
  simp [szS]
 ·by_cases e : p.l = 0
  ·exact .inl (by rw [e];simp)
  ·refine .inr (.inr fun x hx => ?_)
   obtain ⟨a,_,b,hb,rfl⟩:=mem_cat.1 hx
   exact absurd ((start_mem hg).1 hb).1 e
theorem done_inv (hg : GOk g) (h : QInv g S q off inq) (ho : q.length ≤ off) (hP : Pend g S (q.drop off) fun _ => False) : S = folM g:=by
 refine reach_eq hg h.reach fun p hp => ?_
 rcases hP p hp with h1 | h1 | h1
 ·rw [List.drop_eq_nil_of_le ho] at h1;cases h1
 ·exact h1.elim
 ·exact h1
end
theorem place_at {g : Gm} {lf : Nat} {ps : Pr} (hps : ps ∈ g.ps) (hl : ps.l.toNat = lf) {j : Nat} (hj : j < ps.r.length) (hs : ¬ ps.r[j] < g.t) : (⟨lf,(ps.r[j] - g.t).toNat,ps.r.drop (j + 1)⟩ : Pl) ∈ pls g:=
 List.mem_flatMap.2 ⟨ps,hps,mem_plsR.2 ⟨ps.r.take j,ps.r[j],by
  show ps.r = ps.r.take j ++ ps.r[j] :: ps.r.drop (j + 1)
  rw [← List.drop_eq_getElem_cons hj,List.take_append_drop],hs,hl.symm,rfl⟩⟩
theorem place_len {t : Int} {l : Nat} {r : List Int} {p : Pl} (hp : p ∈ plsR t l r) {j : Nat} (hj : j < r.length) (he : p.r.length = r.length - 1 - j) : ¬ r[j] < t ∧ p = ⟨l,(r[j] - t).toNat,r.drop (j + 1)⟩:=by
 obtain ⟨a,s,e,h1,h2,h3⟩:=mem_plsR.1 hp
 have hal : a.length = j:=by
  have:=congrArg List.length e
  simp at this
  omega
 have hs : r[j] = s:=by
  have : r[j]? = some s:=by rw [e,← hal];simp
  rw [List.getElem?_eq_getElem hj] at this
  exact Option.some.inj this
 have hd : r.drop (j + 1) = p.r:=by
  rw [e,← hal]
  simp
 rw [hs,hd]
 refine ⟨h1,?_⟩
 cases p
 simp only at h2 h3 ⊢
 subst h2;subst h3
 rfl
theorem place_lt {t : Int} {l : Nat} {r : List Int} {p : Pl} (hp : p ∈ plsR t l r) : p.r.length < r.length:=by
 obtain ⟨a,s,e,_⟩:=mem_plsR.1 hp
 have:=congrArg List.length e
 simp at this
 omega
end Go.Proofs.YtgbpioccaenjaaaGreat
