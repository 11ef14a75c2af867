import Derived.Test.YtgbpioccaenjaaaGreatGC
set_option linter.unusedSimpArgs false
set_option linter.unusedVariables false
namespace Go.Proofs.YtgbpioccaenjaaaGreat
open Go Go.Hm

def SC (cs : List AV) (S : Ss) : Prop:=cs.length = S.length ∧ ∀ (j : Nat) v,cs[j]? = some v → RV v (S.getD j [])
theorem SC.get {cs : List AV} {S : Ss} (h : SC cs S) {j : Nat} (hj : j < S.length) : ∃ v,cs[j]? = some v ∧ RV v (S.getD j []):=by
 have : j < cs.length:=by rw [h.1];exact hj
 exact ⟨cs[j],List.getElem?_eq_getElem this,h.2 j _ (List.getElem?_eq_getElem this)⟩
def ofV (g : Gm) (S : Ss) (r : List Int) : AV:=match r.getLast? with
 | none => rowsV [[]]
 | some s => catV g.k.toNat (ofM g S r.dropLast) (nxt g S s)
theorem ofV_nil (g : Gm) (S : Ss) : ofV g S [] = rowsV [[]]:=rfl
theorem ofV_snoc (g : Gm) (S : Ss) (r : List Int) (s : Int) : ofV g S (r ++ [s]) = catV g.k.toNat (ofM g S r) (nxt g S s):=by
 unfold ofV
 rw [List.getLast?_append,List.dropLast_concat]
 rfl
theorem ofM_snoc (g : Gm) (S : Ss) (r : List Int) (s : Int) : ofM g S (r ++ [s]) = cat g.k.toNat (ofM g S r) (nxt g S s):=by simp [ofM]
theorem ofV_rv (g : Gm) (S : Ss) (r : List Int) : RV (ofV g S r) (ofM g S r):=by
 rcases List.eq_nil_or_concat r with rfl | ⟨r,s,rfl⟩
 ·exact .inl rfl
 ·rw [List.concat_eq_append,ofV_snoc,ofM_snoc]
  exact RV.cat ..
theorem rv_one {v : AV} {l : List (List UInt8)} (h : RV v l) : argOk v = true:=by rcases h with rfl | ⟨rfl,_⟩ <;> rfl
theorem rv_noRp {v : AV} {l : List (List UInt8)} (h : RV v l) : (v = .e0) ∨ v = rowsV l:=h.symm.imp And.left id
theorem u8_wrap (s : Int) : IntKind.u8.wrap s = ((byteI s).toNat : Int):=by
 unfold byteI
 rw [UInt8.toNat_ofNat']
 show s % 256 = _
 omega
theorem bytes1 (c : UInt8) : bytesOf [.val (.int .u8 (c.toNat : Int))] = some [c]:=by
 simp [bytesOf]

set_option maxRecDepth 20000 in
theorem of_code1 {lk lim : Nat} {H : Heap} (hlk : lk ≤ H.length) (g : Gm) (v4 : AV) {cs : List AV} {S : Ss} (hS : SC cs S)  (r : List Int) (hr : ∀ s ∈ r,s < g.t + S.length) (hg : 0 ≤ g.t ∧ g.t ≤ 1000000) (hl : r.length ≤ 1000000) (hSl : S.length ≤ 1000000)
  (hO : ∀ i,(ofM g S (r.take i)).length ≤ 2000000 ∧ ∀ x ∈ ofM g S (r.take i),x.length ≤ 1000000) (hN : ∀ s ∈ r,(nxt g S s).length ≤ 2000000 ∧ ∀ x ∈ nxt g S s,x.length ≤ 1000000) :
  callW X A lk lim 67 [.agg [I g.t,I g.n,I g.k,v4],.sl cs.length cs,.sl r.length (ints r)] H = some (ofV g S r,H):=by
 have kc:=fun (L : Nat) (va vb : AV) (a b : List (List UInt8)) (h1 : RV va a) (h2 : RV vb b) (h3 : a.length ≤ 2000000) (h4 : b.length ≤ 2000000) h5 h6 => cat_code (lk:=lk) (lim:=L) (H:=H) hlk g.k h1 h2 h3 h4 h5 h6
 refine wb_callB [3] rfl A67 rfl rfl ?_
 unfold t67B
 generalize callW X A = C at kc ⊢
 simp
 refine wb_loop (σ:=Nat) (fun i => [(1,.sl cs.length cs),(3,.box [I g.t,I g.n,I g.k,v4]),(7,ofV g S (r.take i)),(12,.sl r.length (ints r)),(13,I r.length),(14,I i)]) (fun _ => H) (fun i => i ≤ r.length) (fun i => r.length - i) ?_ 0 (by omega) (by simp [restrict,find,ofV_nil,rowsB]) rfl
 intro i hi
 unfold t67L1
 by_cases hil : i < r.length
 ·have hil' : (i : Int) < r.length:=by omega
  have w1 : IntKind.i64.wrap ((i : Int) + 1) = (i : Int) + 1:=wrap64 (by omega) (by omega)
  have hrs:=hr r[i] (List.getElem_mem hil)
  have hn:=hN r[i] (List.getElem_mem hil)
  have ho:=hO i
  have hrv:=ofV_rv g S (r.take i)
  have hsn:=ofV_snoc g S (r.take i) r[i]
  rw [← List.take_succ_eq_append_getElem hil] at hsn
  obtain ⟨s,hs⟩ : ∃ s,r[i] = s:=⟨_,rfl⟩
  rw [hs] at hrs hn hsn
  generalize ofM g S (r.take i) = o at ho hrv hsn
  generalize ofV g S (r.take i) = ov at hrv
  by_cases hst : s < g.t
  ·have hst' : ¬ g.t ≤ s:=by omega
   have hw8:=u8_wrap s
   have hb1:=bytes1 (byteI s)
   have hnx : nxt g S s = [[byteI s]]:=if_pos hst
   rw [hnx] at hn hsn
   have kc1:=fun L => kc L ov (rowsV [[byteI s]]) o [[byteI s]] hrv (.inl rfl) ho.1 (by simp) ho.2 hn.2
   have hcv:=rv_noRp (RV.cat g.k.toNat o [[byteI s]])
   generalize catV g.k.toNat o [[byteI s]] = cv at kc1 hcv hsn
   have e1 : rowsV [[byteI s]] = .sl 1 [Sg [byteI s]]:=rfl
   rw [e1] at kc1
   rcases rv_noRp hrv with rfl | rfl <;> rcases hcv with rfl | rfl
   all_goals
    simp [hil,hil',hs,hw8,hb1,hst',kc1,w1,rnd_nrm]
    exact ⟨i + 1,by omega,by omega,hsn.symm,by omega⟩
  ·have hst' : g.t ≤ s:=by omega
   have hst2 : ¬ s < g.t:=by omega
   have hw8:=u8_wrap s
   have hb1:=bytes1 (byteI s)
   have hnx : nxt g S s = S.getD (s - g.t).toNat []:=if_neg hst
   obtain ⟨j,hj⟩ : ∃ j : Nat,s - g.t = (j : Int):=⟨(s - g.t).toNat,by omega⟩
   have hjl : j < S.length:=by omega
   have hjc : j < cs.length:=by rw [hS.1];exact hjl
   have hjc' : (j : Int) < cs.length:=by omega
   have wj : IntKind.i64.wrap (s - g.t) = (j : Int):=by rw [wrap64 (by omega) (by omega)];exact hj
   rw [hj,Int.toNat_natCast] at hnx
   obtain ⟨v,hcv0,hv⟩:=hS.get hjl
   have hcvE : cs[j] = v:=by rw [List.getElem?_eq_getElem hjc] at hcv0;simpa using hcv0
   rw [← hnx] at hv
   have kc1:=fun L => kc L ov v o (nxt g S s) hrv hv ho.1 hn.1 ho.2 hn.2
   have hcv:=rv_noRp (RV.cat g.k.toNat o (nxt g S s))
   generalize catV g.k.toNat o (nxt g S s) = cv at kc1 hcv hsn
   generalize nxt g S s = nx at hv kc1 hcv hsn
   rcases rv_noRp hrv with rfl | rfl <;> rcases hcv with rfl | rfl <;> rcases rv_noRp hv with rfl | rfl
   all_goals
    simp [hil,hil',hs,hw8,hb1,hst',hst2,kc1,w1,rnd_nrm,wj,hjc,hjc',hcv0,hcvE]
    exact ⟨i + 1,by omega,by omega,hsn.symm,by omega⟩
 ·obtain rfl : i = r.length:=by omega
  rw [List.take_length]
  have hrv:=ofV_rv g S r
  rcases rv_noRp hrv with e | e <;> rw [e] <;> simp

set_option maxRecDepth 20000 in
theorem of_code2 {lk lim : Nat} {H : Heap} (hlk : lk ≤ H.length) (g : Gm) (v4 : AV) {cs : List AV} {S : Ss} (hS : SC cs S) {b : Nat} (hb : H[b]? = some (.cells cs)) (r : List Int) (hr : ∀ s ∈ r,s < g.t + S.length) (hg : 0 ≤ g.t ∧ g.t ≤ 1000000) (hl : r.length ≤ 1000000) (hSl : S.length ≤ 1000000)
  (hO : ∀ i,(ofM g S (r.take i)).length ≤ 2000000 ∧ ∀ x ∈ ofM g S (r.take i),x.length ≤ 1000000) (hN : ∀ s ∈ r,(nxt g S s).length ≤ 2000000 ∧ ∀ x ∈ nxt g S s,x.length ≤ 1000000) :
  callW X A lk lim 67 [.agg [I g.t,I g.n,I g.k,v4],.hs b cs.length 0 cs.length 1,.sl r.length (ints r)] H = some (ofV g S r,H):=by
 have kc:=fun (L : Nat) (va vb : AV) (a b : List (List UInt8)) (h1 : RV va a) (h2 : RV vb b) (h3 : a.length ≤ 2000000) (h4 : b.length ≤ 2000000) h5 h6 => cat_code (lk:=lk) (lim:=L) (H:=H) hlk g.k h1 h2 h3 h4 h5 h6
 refine wb_callB [3] rfl A67 rfl rfl ?_
 unfold t67B
 generalize callW X A = C at kc ⊢
 simp
 refine wb_loop (σ:=Nat) (fun i => [(1,.hs b cs.length 0 cs.length 1),(3,.box [I g.t,I g.n,I g.k,v4]),(7,ofV g S (r.take i)),(12,.sl r.length (ints r)),(13,I r.length),(14,I i)]) (fun _ => H) (fun i => i ≤ r.length) (fun i => r.length - i) ?_ 0 (by omega) (by simp [restrict,find,ofV_nil,rowsB]) rfl
 intro i hi
 unfold t67L1
 by_cases hil : i < r.length
 ·have hil' : (i : Int) < r.length:=by omega
  have w1 : IntKind.i64.wrap ((i : Int) + 1) = (i : Int) + 1:=wrap64 (by omega) (by omega)
  have hrs:=hr r[i] (List.getElem_mem hil)
  have hn:=hN r[i] (List.getElem_mem hil)
  have ho:=hO i
  have hrv:=ofV_rv g S (r.take i)
  have hsn:=ofV_snoc g S (r.take i) r[i]
  rw [← List.take_succ_eq_append_getElem hil] at hsn
  obtain ⟨s,hs⟩ : ∃ s,r[i] = s:=⟨_,rfl⟩
  rw [hs] at hrs hn hsn
  generalize ofM g S (r.take i) = o at ho hrv hsn
  generalize ofV g S (r.take i) = ov at hrv
  by_cases hst : s < g.t
  ·have hst' : ¬ g.t ≤ s:=by omega
   have hw8:=u8_wrap s
   have hb1:=bytes1 (byteI s)
   have hnx : nxt g S s = [[byteI s]]:=if_pos hst
   rw [hnx] at hn hsn
   have kc1:=fun L => kc L ov (rowsV [[byteI s]]) o [[byteI s]] hrv (.inl rfl) ho.1 (by simp) ho.2 hn.2
   have hcv:=rv_noRp (RV.cat g.k.toNat o [[byteI s]])
   generalize catV g.k.toNat o [[byteI s]] = cv at kc1 hcv hsn
   have e1 : rowsV [[byteI s]] = .sl 1 [Sg [byteI s]]:=rfl
   rw [e1] at kc1
   rcases rv_noRp hrv with rfl | rfl <;> rcases hcv with rfl | rfl
   all_goals
    simp [hil,hil',hs,hw8,hb1,hst',kc1,w1,rnd_nrm]
    exact ⟨i + 1,by omega,by omega,hsn.symm,by omega⟩
  ·have hst' : g.t ≤ s:=by omega
   have hst2 : ¬ s < g.t:=by omega
   have hw8:=u8_wrap s
   have hb1:=bytes1 (byteI s)
   have hnx : nxt g S s = S.getD (s - g.t).toNat []:=if_neg hst
   obtain ⟨j,hj⟩ : ∃ j : Nat,s - g.t = (j : Int):=⟨(s - g.t).toNat,by omega⟩
   have hjl : j < S.length:=by omega
   have hjc : j < cs.length:=by rw [hS.1];exact hjl
   have hjc' : (j : Int) < cs.length:=by omega
   have wj : IntKind.i64.wrap (s - g.t) = (j : Int):=by rw [wrap64 (by omega) (by omega)];exact hj
   rw [hj,Int.toNat_natCast] at hnx
   obtain ⟨v,hcv0,hv⟩:=hS.get hjl
   have hcvE : cs[j] = v:=by rw [List.getElem?_eq_getElem hjc] at hcv0;simpa using hcv0
   rw [← hnx] at hv
   have kc1:=fun L => kc L ov v o (nxt g S s) hrv hv ho.1 hn.1 ho.2 hn.2
   have hcv:=rv_noRp (RV.cat g.k.toNat o (nxt g S s))
   generalize catV g.k.toNat o (nxt g S s) = cv at kc1 hcv hsn
   generalize nxt g S s = nx at hv kc1 hcv hsn
   rcases rv_noRp hrv with rfl | rfl <;> rcases hcv with rfl | rfl <;> rcases rv_noRp hv with rfl | rfl
   all_goals
    simp [hil,hil',hs,hw8,hb1,hst',hst2,kc1,w1,rnd_nrm,wj,hjc,hjc',hcv0,hcvE,hb]
    exact ⟨i + 1,by omega,by omega,hsn.symm,by omega⟩
 ·obtain rfl : i = r.length:=by omega
  rw [List.take_length]
  have hrv:=ofV_rv g S r
  rcases rv_noRp hrv with e | e <;> rw [e] <;> simp
end Go.Proofs.YtgbpioccaenjaaaGreat

namespace Go.Proofs.YtgbpioccaenjaaaGreat
open Go Go.Hm

def FinX (rs : List ARes) (t : Bool) (H : Heap) (P : AV → Heap → Prop) : Ex → Kt:=fun x e h => ∃ v h',finish ⟨0,.skip,rs,t⟩ H (some (x,e,h)) = some (v,h') ∧ P v h'
theorem finX_ret {rs : List ARes} {t : Bool} {H H' : Heap} {env : Env} {P : AV → Heap → Prop} : FinX rs t H P .ret env H' = ∃ v h',finish ⟨0,.skip,rs,t⟩ H (some (.ret,env,H')) = some (v,h') ∧ P v h':=rfl
theorem wb_callX {X : Orc} {A : FuncId → Option AFn} {f : FuncId} {lk lim np : Nat} {args : List AV} {b : AC} {rs : List ARes} {t : Bool} {H : Heap} {P : AV → Heap → Prop} (B : List Nat) (hX : X lk lim f args H = none) (hA : A f = some ⟨np,b,rs,t⟩) (hl : args.length = np) (ha : args.all argOk = true)
  (h : WB ⟨callW X A,lk,if t then H.length else lim,B⟩ b (FinX rs t H P) (enterFrom 0 args) H) : ∃ v h',callW X A lk lim f args H = some (v,h') ∧ P v h':=by
 obtain ⟨x,e,h1,h2,⟨v,h',h3,h4⟩,_⟩:=wb_sound h (enter_inv ha)
 refine ⟨v,h',?_,h4⟩
 rw [callW_eq hX hA hl,h2]
 exact h3
theorem mk_mks {env : Env} {l : AO} {b n es bytes : Nat} {z : List AV} (h : ev env l = I (n : Int)) (hz : z.length = es) (hr : n * bytes ≤ room) : mkOp (.mks es bytes z l) env b = some (.hs b (n * es) 0 n es,.cells (repl n z)):=by
 simp only [mkOp,h]
 have h1 : (0 : Int) ≤ (n : Int):=by omega
 have h2 : (n : Int) * (bytes : Int) ≤ (room : Int):=by
  rw [← Int.natCast_mul];exact Int.ofNat_le.2 hr
 rw [if_pos ⟨h1,h2,hz⟩,Int.toNat_natCast]
theorem sc_frz (lim : Nat) (H : Heap) (d : Nat) : ∀ {cs : List AV} {S : Ss},SC cs S → mapO (frz lim H (d + 1)) cs = some cs ∧ belowL 0 cs = true:=by
 intro cs
 induction cs with
 | nil => intro S _;exact ⟨rfl,rfl⟩
 | cons v cs ih =>
  intro S h
  obtain ⟨i1,i2⟩:=ih (S:=S.drop 1) ⟨by have:=h.1;simp at this ⊢;omega,fun j w hw => by
   have:=h.2 (j + 1) w (by simpa using hw)
   rw [List.getD_eq_getElem?_getD] at this ⊢
   rw [List.getElem?_drop,Nat.add_comm];exact this⟩
  have h0:=h.2 0 v rfl
  have hv : frz lim H (d + 1) v = some v ∧ Hm.below 0 v = true:=by
   rcases h0 with rfl | ⟨rfl,_⟩
   ·exact ⟨by simp [frz],by first | rfl | simp [Hm.below]⟩
   ·exact ⟨by simp [frz],rfl⟩
  exact ⟨by simp only [mapO,hv.1,i1],by simp only [belowL,hv.2,i2,Bool.true_and]⟩
theorem sc_set {cs : List AV} {S : Ss} (h : SC cs S) {j : Nat} {v : AV} {l : List (List UInt8)} (hv : RV v l) : SC (cs.set j v) (S.set j l):=by
 refine ⟨by simp [h.1],fun i w hw => ?_⟩
 rw [List.getD_eq_getElem?_getD]
 by_cases hij : i = j
 ·subst hij
  have hl : i < cs.length:=by
   have:=(List.getElem?_eq_some_iff.1 hw).1
   simpa using this
  rw [List.getElem?_set_self hl] at hw
  rw [List.getElem?_set_self (by rw [← h.1];exact hl)]
  cases hw
  exact hv
 ·rw [List.getElem?_set_ne (fun e => hij e.symm)] at hw ⊢
  rw [← List.getD_eq_getElem?_getD]
  exact h.2 i w hw
theorem sc_start (n : Nat) : SC (repl n [.e0]) (List.replicate n []):=by
 have : repl n [.e0] = List.replicate n AV.e0:=by simp [repl]
 rw [this]
 refine ⟨by simp,fun j v hv => ?_⟩
 rw [List.getElem?_replicate] at hv
 rw [List.getD_eq_getElem?_getD,List.getElem?_replicate]
 split at hv
 ·rename_i hj
  rw [if_pos hj]
  cases hv
  exact .inr ⟨rfl,rfl⟩
 ·cases hv

theorem of_need {g : Gm} (hg : GOk g) {S : Ss} (h : SOk g S) {p : Pr} (hp : POk g p) : (∀ s ∈ p.r,s < g.t + S.length) ∧ (∀ i,(ofM g S (p.r.take i)).length ≤ 2000000 ∧ ∀ x ∈ ofM g S (p.r.take i),x.length ≤ 1000000) ∧
  ∀ s ∈ p.r,(nxt g S s).length ≤ 2000000 ∧ ∀ x ∈ nxt g S s,x.length ≤ 1000000:=by
 have hk:=hg.k2
 refine ⟨fun s hs => ?_,fun i => ?_,fun s hs => ?_⟩
 ·have:=hp.s s hs;have:=h.len;have:=hg.n1;omega
 ·have h1:=ofM_ok hg h (r:=p.r.take i) fun s hs => (hp.s s (List.mem_of_mem_take hs)).1
  have h2:=h1.size hg
  exact ⟨by omega,fun x hx => by have:=h1.len x hx;omega⟩
 ·unfold nxt
  split
  ·simp
  ·have h1:=h.get (s - g.t).toNat
   have h2:=h1.size hg
   exact ⟨by omega,fun x hx => by have:=h1.len x hx;omega⟩
set_option maxRecDepth 20000 in
set_option maxHeartbeats 2000000 in
theorem sets_code {lk lim : Nat} {H : Heap} (hlk : lk ≤ H.length) (g : Gm) (hl : g.ps.length ≤ 1000000) (hr : ∀ p ∈ g.ps,p.r.length ≤ 1000000) :
  ∃ v h',callW X A lk lim 44 [gV g] H = some (v,h') ∧ h' = H ∧ if chkE g = 0 then ∃ cs,v = .sl cs.length cs ∧ SC cs (setsM g) else v = .e0:=by
 have kc:=fun (L : Nat) => check_code (lk:=lk) (lim:=L) (H:=H) g hl hr
 refine wb_callX [1,6] rfl A44 rfl rfl ?_
 unfold t44B
 by_cases hc : chkE g = 0
 case neg =>
  have h3 : ((chkE g) != 0) = true:=by simp [hc]
  obtain ⟨t,n,k,ps⟩:=g
  simp only [gV,Gm.cells] at kc
  generalize callW X A = C at kc ⊢
  simp [Gm.cells,kc,hc,finX_ret]
  exact ⟨.e0,H,⟨rfl,rfl⟩,rfl,rfl⟩
 have ok:=gok_of hc
 have ko:=fun (K : Nat) (hK : K ≤ H.length + 1) (L : Nat) (cs : List AV) (S : Ss) (hS : SC cs S) (hok : SOk g S) (p : Pr) (hp : POk g p) =>
  of_code2 (lk:=K) (lim:=L) (H:=H ++ [.cells cs]) (by simp;omega) g (.sl g.ps.length (psC g.ps)) hS (b:=H.length) (by simp) p.r (of_need ok hok hp).1 ⟨by have:=ok.t1;omega,by have:=ok.t2;omega⟩ (by have:=hp.len;omega) (by rw [hok.len];have:=ok.n2;omega) (of_need ok hok hp).2.1 (of_need ok hok hp).2.2
 have ku:=fun (L : Nat) (G : Heap) (va vb : AV) (a b : List (List UInt8)) (ha : RV va a) (hb : RV vb b) h => union_code (lk:=lk) (lim:=L) (H:=G) ha hb h
 rw [hc] at kc
 obtain ⟨t,n,k,ps⟩:=g
 have ok2:=ok
 obtain ⟨t1,t2,n1,n2,k1,k2,l1,l2,okp⟩:=ok2
 simp only at t1 t2 n1 n2 k1 k2 l1 l2 okp
 obtain ⟨n,rfl⟩:=Int.eq_ofNat_of_zero_le (by omega : 0 ≤ n)
 simp only [gV,Gm.cells] at kc ko
 have hro : n * 24 ≤ room:=by unfold room;omega
 generalize callW X A = C at kc ko ku ⊢
 simp [-wi_mks,-wb_regN,Gm.cells,hc]
 simp [-wi_mks,Gm.cells,kc]
 rw [wi_mks,mk_mks (l:=.tmp 12) (z:=[.e0]) (es:=1) (n:=n) rfl rfl hro]
 simp
 let g : Gm:=⟨t,n,k,ps⟩
 let bx : AV:=.box [I t,I n,I k,.sl ps.length (psC ps)]
 let hsV : AV:=.hs H.length n 0 n 1
 have hcl:=rndS_climbs ok
 have hS0:=SOk.start g
 refine wb_loop (σ:=Ss × List AV × Bool) (fun s => [(1,bx),(3,hsV),(4,Bo s.2.2)]) (fun s => H ++ [.cells s.2.1])
  (fun s => SOk g s.1 ∧ SC s.2.1 s.1 ∧ climb (rndS g) (n * 585 - szS s.1 + 1) s.1 = setsM g ∧ (s.2.2 = false → rndS g s.1 = s.1)) (fun s => 2 * (n * 585 - szS s.1) + if s.2.2 = true then 1 else 0) ?_ (List.replicate n [],repl n [.e0],true)
  ⟨hS0,sc_start n,by
   have h1 : szS (List.replicate n []) = 0:=by simp [szS]
   simp only [h1];rfl,by simp⟩ (by simp [bx,hsV]) rfl
 rintro ⟨S,cs,more⟩ ⟨hS,hC,hcm,hm⟩
 simp only at hS hC hcm hm
 have hcn : cs.length = n:=by rw [hC.1,hS.len];rfl
 unfold t44L2
 cases more with
 | false =>
  have h1 : setsM g = S:=by
   rw [← hcm]
   unfold climb
   rw [if_pos (hm rfl)]
  have hz:=sc_frz H.length (H ++ [.cells cs]) 6 hC
  have htk : cs.take n = cs:=List.take_of_length_le (by omega)
  simp [bx,hsV,finX_ret,hcn,htk,hz]
  exact ⟨_,_,⟨rfl,rfl⟩,rfl,cs,by rw [hcn],by rw [h1];exact hC⟩
 | true =>
  simp [bx]
  refine wb_loop (σ:=Nat × Ss × List AV × Bool) (fun s => [(1,bx),(3,hsV),(4,Bo s.2.2.2),(16,.sl ps.length (psC ps)),(17,I ps.length),(18,I s.1)]) (fun s => H ++ [.cells s.2.2.1])
   (fun s => s.1 ≤ ps.length ∧ s.2.1 = (ps.take s.1).foldl (stS g) S ∧ SOk g s.2.1 ∧ SC s.2.2.1 s.2.1 ∧ ((s.2.2.2 = false ∧ s.2.1 = S) ∨ (s.2.2.2 = true ∧ szS S < szS s.2.1))) (fun s => ps.length - s.1) ?_ (0,S,cs,false)
   ⟨Nat.zero_le _,rfl,hS,hC,.inl ⟨rfl,rfl⟩⟩ (by simp [bx,hsV,restrict,find]) rfl
  rintro ⟨i,S2,cs2,more⟩ ⟨hi,hS2,hok,hC2,hmo⟩
  simp only at hi hS2 hok hC2 hmo
  have hcn2 : cs2.length = n:=by rw [hC2.1,hok.len];rfl
  unfold t44L1
  have w1 : IntKind.i64.wrap ((i : Int) + 1) = (i : Int) + 1:=wrap64 (by omega) (by omega)
  by_cases hil : i < ps.length
  case neg =>
   obtain rfl : i = ps.length:=by omega
   rw [List.take_of_length_le (Nat.le_refl _)] at hS2
   have hfo : rndS g S = S2:=hS2.symm
   have hle:=szS_le ok hok
   simp only [Int.toNat_natCast] at hle
   simp [bx,hsV,rnd_nrm]
   rcases hmo with ⟨e1,e2⟩ | ⟨e1,e2⟩
   ·subst e2
    exact ⟨S2,cs2,.inl ⟨⟨hok,hC2,hcm,hfo⟩,by omega,e1,rfl⟩⟩
   ·refine ⟨S2,cs2,.inr ⟨⟨hok,hC2,?_⟩,by omega,e1,rfl⟩⟩
    have hne : rndS g S ≠ S:=fun e => by rw [hfo] at e;rw [e] at e2;omega
    have h1:=climb_more hcl (n * 585 - szS S) S2 hok (by show n * 585 - szS S2 < _;omega)
    rw [← hcm]
    conv => rhs;unfold climb
    rw [if_neg hne,hfo]
    exact h1.symm
  obtain ⟨p,hp⟩ : ∃ p,ps[i] = p:=⟨_,rfl⟩
  have pok:=okp p (hp ▸ List.getElem_mem hil)
  have hs:=psC_sub hil
  have hll:=psC_len ps
  have h2 : i * 2 + 2 ≤ 2 * ps.length:=by omega
  rw [hp] at hs
  simp only [Pr.cells] at hs
  have hnext : (ps.take (i + 1)).foldl (stS g) S = stS g S2 p:=by
   rw [List.take_succ_eq_append_getElem hil,List.foldl_append,← hS2,hp]
   rfl
  have hup:=stS_up hok pok
  have hok3:=stS_ok ok hok pok
  have ko1:=fun L => ko (H.length + 1) (Nat.le_refl _) L cs2 S2 hC2 hok p pok
  have hov:=ofV_rv g S2 p.r
  have hofok:=ofM_ok ok hok (r:=p.r) fun s hs => (pok.s s hs).1
  have hosz:=hofok.size ok
  obtain ⟨pl,pr⟩:=p
  obtain ⟨q1,q2,q3,q4⟩:=pok
  simp only at q1 q2 q3 q4 hs ko1 hov hosz
  obtain ⟨pl,rfl⟩:=Int.eq_ofNat_of_zero_le q2
  have hpl : pl < n:=by omega
  obtain ⟨v,hv,hrv⟩:=hC2.get (j:=pl) (by rw [hok.len];exact hpl)
  have hplc : pl < cs2.length:=by omega
  have hvE : cs2[pl] = v:=by rw [List.getElem?_eq_getElem hplc] at hv;simpa using hv
  have hgsz:=(hok.get pl).size ok
  have ku1:=fun L => ku L (H ++ [.cells cs2]) v _ _ _ hrv hov (Nat.le_trans (Nat.add_le_add hgsz hosz) (by decide))
  have hpn1 : pl + 1 ≤ n:=hpl
  simp only [stS,Int.toNat_natCast] at hup hok3 hnext
  have hC3:=sc_set hC2 (j:=pl) (v:=rowsV (uni (S2.getD pl []) (ofM g S2 pr))) (l:=uni (S2.getD pl []) (ofM g S2 pr)) (.inl rfl)
  have hgt : ((S2.getD pl []).length : Int) < (uni (S2.getD pl []) (ofM g S2 pr)).length ↔ ¬ (uni (S2.getD pl []) (ofM g S2 pr)).length ≤ (S2.getD pl []).length:=by omega
  have hvl : slN v = (S2.getD pl []).length:=(rv_cells (H:=H) hrv).2
  generalize ofV g S2 pr = ov at ko1 hov ku1
  generalize uni (S2.getD pl []) (ofM g S2 pr) = u at *
  rw [hcn2] at ko1
  simp [-wi_stL,bx,hil,hll,hs,h2]
  rw [wi_stL]
  have hset : List.take pl cs2 ++ AV.sl u.length (rowsB u) :: List.drop (pl + 1) cs2 = cs2.set pl (rowsV u):=by
   rw [List.set_eq_take_append_cons_drop,if_pos hplc]
  have hsh : setH lk H.length 0 (H ++ [.cells cs2]) H.length (cs2.set pl (rowsV u)) [AV.sl u.length (rowsB u)] = some (H ++ [.cells (cs2.set pl (rowsV u))]):=by
   unfold setH
   rw [if_pos ⟨hlk,.inl (Nat.le_refl _),.inl (Nat.zero_le _)⟩,set_app]
  obtain ⟨L,hL⟩ : ∃ L,(S2.getD pl []).length = L:=⟨_,rfl⟩
  rw [hL] at hup hvl
  have fin : ∀ b : Bool,b = (more || decide (L < u.length)) → (b = false ∧ S2.set pl u = S) ∨ (b = true ∧ szS S < szS (S2.set pl u)):=fun b hb => by
   by_cases hgr : L < u.length
   ·have hb2 : b = true:=by rw [hb];simp [hgr]
    have h3 : szS S2 < szS (S2.set pl u):=by
     rcases hup.1 with e | e
     ·exact absurd (hup.2.1 e) (by omega)
     ·exact e
    rcases hmo with ⟨_,e⟩ | ⟨_,e⟩
    ·exact .inr ⟨hb2,by rw [← e];exact h3⟩
    ·exact .inr ⟨hb2,by omega⟩
   ·have h3 : S2.set pl u = S2:=hup.2.2 (by omega)
    rw [h3]
    have hb2 : b = more:=by rw [hb];simp [hgr]
    rw [hb2]
    exact hmo
  generalize S2.getD pl [] = q at *
  rcases rv_noRp hrv with rfl | rfl <;> rcases rv_noRp hov with rfl | rfl
  all_goals
   try (obtain rfl : L = 0:=hvl.symm)
   cases more with
   | true =>
    have hf:=fin true (by simp)
    have hf : szS S < szS (S2.set pl u):=by simpa using hf
    simp [replaceAt,hsV,hpl,hcn2,hv,hvE,ko1,ku1,hL,hpn1,hset,hsh,w1,rnd_nrm]
    exact ⟨i + 1,S2.set pl u,cs2.set pl (rowsV u),⟨by omega,hnext.symm,hok3,hC3,hf⟩,by omega,by omega,rfl⟩
   | false =>
    have hf:=fin _ rfl
    simp [replaceAt,hsV,hpl,hcn2,hv,hvE,ko1,ku1,hL,hpn1,hset,hsh,w1,rnd_nrm]
    simp at hf
    rcases hf with ⟨e1,e2⟩ | ⟨e1,e2⟩
    ·exact ⟨i + 1,S2.set pl u,cs2.set pl (rowsV u),.inl ⟨⟨by omega,hnext.symm,hok3,hC3,e2⟩,by omega,⟨by first | exact e1 | omega,by omega⟩,rfl⟩⟩
    ·exact ⟨i + 1,S2.set pl u,cs2.set pl (rowsV u),.inr ⟨⟨by omega,hnext.symm,hok3,hC3,e2⟩,by omega,⟨by first | exact e1 | omega,by omega⟩,rfl⟩⟩
end Go.Proofs.YtgbpioccaenjaaaGreat
