import Derived.Test.YtgbpioccaenjaaaGreatWa
import Derived.Test.YtgbpioccaenjaaaGreatGM
set_option linter.unusedSimpArgs false
set_option linter.unusedVariables false
namespace Go.Proofs.YtgbpioccaenjaaaGreat
open Go Go.Hm

def lookP (g : Gm) (p : Pr) : List (List UInt8):=cat g.k.toNat (ofM g (setsM g) p.r) ((folM g).getD p.l.toNat [])
def lookM (g : Gm) : Ss:=g.ps.map (lookP g)
theorem look_ok {g : Gm} (hg : GOk g) {p : Pr} (hp : p ∈ g.ps) : FOk g (lookP g p):=
 cat_fok hg (ofM_ok hg (sets_ok hg) fun s hs => ((hg.p p hp).s s hs).1) ((fol_ok hg).get _)
theorem lookM_len (g : Gm) : (lookM g).length = g.ps.length:=by simp [lookM]
theorem look_len {g : Gm} (hg : GOk g) {l : List (List UInt8)} (h : l ∈ lookM g) : l.length ≤ 1000000:=by
 obtain ⟨p,hp,rfl⟩:=List.mem_map.1 h
 exact Nat.le_trans ((look_ok hg hp).size hg) (by decide)
theorem sc_snoc {cs : List AV} {S : Ss} (h : SC cs S) {v : AV} {l : List (List UInt8)} (hv : RV v l) : SC (cs ++ [v]) (S ++ [l]):=by
 refine ⟨by simp [h.1],fun j u hu => ?_⟩
 by_cases hj : j < cs.length
 ·rw [List.getElem?_append_left hj] at hu
  have:=h.2 j u hu
  rwa [List.getD_eq_getElem?_getD,List.getElem?_append_left (by rw [← h.1];exact hj),← List.getD_eq_getElem?_getD]
 ·rw [List.getElem?_append_right (by omega)] at hu
  have hj2 : j - cs.length = 0:=by
   rcases Nat.eq_zero_or_pos (j - cs.length) with h0 | h0
   ·exact h0
   ·rw [List.getElem?_eq_none (by simp;omega)] at hu;cases hu
  rw [hj2] at hu
  simp only [List.getElem?_cons_zero,Option.some.injEq] at hu
  subst hu
  rw [List.getD_eq_getElem?_getD,List.getElem?_append_right (by rw [← h.1];omega),← h.1,hj2]
  exact hv
def tbV (H : Heap) (cs : List AV) : AV:=if cs = [] then .e0 else .hs H.length cs.length 0 cs.length 1
def tbH (H : Heap) (cs : List AV) : Heap:=if cs = [] then H else H ++ [.cells cs]
theorem tbH_len (H : Heap) (cs : List AV) : H.length ≤ (tbH H cs).length:=by
 unfold tbH;split <;> simp
set_option maxRecDepth 20000 in
theorem table_code {lk lim : Nat} {H : Heap} (hlk : lk ≤ H.length) (g : Gm) (hc : chkE g = 0) :
  ∃ v h',callW X A lk lim 23 [gV g] H = some (v,h') ∧ h' = H ∧ ∃ cs,v = .agg [.sl cs.length cs] ∧ SC cs (lookM g):=by
 have ok:=gok_of hc
 have hl : g.ps.length ≤ 1000000:=Nat.le_trans ok.l2 (by decide)
 have hr : ∀ p ∈ g.ps,p.r.length ≤ 1000000:=fun p hp => Nat.le_trans (ok.p p hp).len (by decide)
 obtain ⟨v1,g1,k1,e1,h1⟩:=sets_code (lim:=H.length) hlk g hl hr
 rw [if_pos hc] at h1
 obtain ⟨Fc,rfl,hF⟩:=h1
 rw [e1] at k1
 obtain ⟨v2,g2,k2,e2,h2⟩:=fsets_code (lim:=H.length) hlk g hl hr
 rw [if_pos hc] at h2
 obtain ⟨Gc,rfl,hG⟩:=h2
 rw [e2] at k2
 have ko:=fun (K L : Nat) (cs : List AV) (hK : K ≤ (tbH H cs).length) (p : Pr) (hp : p ∈ g.ps) =>
  of23_code (lk:=K) (lim:=L) (H:=tbH H cs) hK g hl hr hF p.r (hr p hp) (by rw [(sets_ok ok).len];have:=ok.n2;omega)
   fun _ => ⟨(of_need ok (sets_ok ok) (ok.p p hp)).2.1,(of_need ok (sets_ok ok) (ok.p p hp)).2.2⟩
 have kc:=fun (L : Nat) (cs : List AV) (va vb : AV) (a b : List (List UInt8)) (ha : RV va a) (hb : RV vb b) h3 h4 h5 h6 => cat_code (lk:=lk) (lim:=L) (H:=tbH H cs) (Nat.le_trans hlk (tbH_len H cs)) g.k ha hb h3 h4 h5 h6
 refine wb_callX [1,2,6] rfl A23 rfl rfl ?_
 unfold t23B
 have hll : ∀ {p : Pr},p ∈ g.ps → (lookP g p).length ≤ 1000000:=fun hp => look_len ok (List.mem_map.2 ⟨_,hp,rfl⟩)
 have hoo : ∀ p ∈ g.ps,OfOk g (setsM g) p.r:=fun p hp => ⟨hc,by rw [(sets_ok ok).len];have:=ok.n1;omega,by
  rw [List.any_eq_false]
  intro s hs
  have:=(ok.p p hp).s s hs
  simp only [badS,Bool.or_eq_true,decide_eq_true_eq,not_or]
  omega⟩
 have kcc : ∀ (L : Nat) (cs : List AV) (p : Pr) (hp : p ∈ g.ps) (vb : AV),RV vb ((folM g).getD p.l.toNat []) → callW X A lk L 46 [I g.k,ofV g (setsM g) p.r,vb] (tbH H cs) = some (catV g.k.toNat (ofM g (setsM g) p.r) ((folM g).getD p.l.toNat []),tbH H cs):=fun L cs p hp vb hv =>
  kc L cs _ _ _ _ (ofV_rv ..) hv (by
   have:=(of_need ok (sets_ok ok) (ok.p p hp)).2.1 p.r.length
   rw [List.take_length] at this
   exact this.1) (Nat.le_trans (((fol_ok ok).get _).size ok) (by decide)) (by
   have:=(of_need ok (sets_ok ok) (ok.p p hp)).2.1 p.r.length
   rw [List.take_length] at this
   exact this.2) (frow_len ok ((fol_ok ok).get _))
 have hGl : Gc.length = g.n.toNat:=by rw [hG.1,(fol_ok ok).len]
 have hGg : ∀ p ∈ g.ps,∃ v,Gc[p.l.toNat]? = some v ∧ RV v ((folM g).getD p.l.toNat []):=fun p hp => hG.get (by rw [(fol_ok ok).len];have:=(ok.p p hp).l1;have:=(ok.p p hp).l0;omega)
 have hlk2 : (lookM g).length = g.ps.length:=lookM_len g
 have hlg : ∀ (i : Nat) (h : i < g.ps.length),(lookM g)[i]? = some (lookP g g.ps[i]):=fun i h => by simp [lookM,h]
 have kof : ∀ (K L : Nat) (cs : List AV),K ≤ (tbH H cs).length → ∀ (p : Pr),p ∈ g.ps → callW X A K L 47 [gV g,.sl Fc.length Fc,.sl p.r.length (ints p.r)] (tbH H cs) = some (ofV g (setsM g) p.r,tbH H cs):=fun K L cs hK p hp => by
  have:=ko K L cs hK p hp
  rwa [if_pos (hoo p hp)] at this
 have hcv : ∀ p,RV (catV g.k.toNat (ofM g (setsM g) p.r) ((folM g).getD p.l.toNat [])) (lookP g p):=fun p => RV.cat _ _ _
 generalize lookM g = M at hlk2 hlg ⊢
 generalize hlp : (fun p : Pr => lookP g p) = LP at *
 clear ko kc hoo hll hG
 obtain ⟨t,n,k,ps⟩:=g
 obtain ⟨t1,t2,n1,n2,k1',k2',l1,l2,okp⟩:=ok
 simp only at t1 t2 n1 n2 k1' k2' l1 l2 okp hGl hGg hlk2 hlg
 simp only [gV,Gm.cells] at k1 k2 kof kcc
 generalize callW X A = C at k1 k2 kof kcc ⊢
 simp [k1,k2,Gm.cells]
 let bx : AV:=.box [I t,I n,I k,.sl ps.length (psC ps)]
 refine wb_loop (σ:=Nat × List AV) (fun s => [(1,bx),(2,.box [tbV H s.2]),(3,.sl Fc.length Fc),(4,.sl Gc.length Gc),(12,.sl ps.length (psC ps)),(13,I ps.length),(14,I s.1)]) (fun s => tbH H s.2)
  (fun s => s.1 ≤ ps.length ∧ SC s.2 (M.take s.1)) (fun s => ps.length - s.1) ?_ (0,[]) ⟨Nat.zero_le _,rfl,fun j v h => by simp at h⟩ (by simp [bx,tbV]) (by simp [tbH])
 rintro ⟨i,cs⟩ ⟨hi,hcs⟩
 simp only at hi hcs
 have hcl : cs.length = i:=by rw [hcs.1];simp;omega
 unfold t23L1
 have w1 : IntKind.i64.wrap ((i : Int) + 1) = (i : Int) + 1:=wrap64 (by omega) (by omega)
 have hro1 : 24 ≤ room:=by unfold room;omega
 have hro : (cs.length + 1) * 24 ≤ room:=by unfold room;omega
 by_cases hil : i < ps.length
 case neg =>
  obtain rfl : i = ps.length:=by omega
  rw [List.take_of_length_le (by omega)] at hcs
  have h0 : ¬ cs = []:=fun e => by subst e;simp at hcl;omega
  have hfz:=fun d => (sc_frz H.length (H ++ [.cells cs]) d hcs).1
  have hbl:=(sc_frz H.length (H ++ [.cells cs]) 0 hcs).2
  simp [bx,tbV,tbH,h0]
  simp [finX_ret,hbl,hfz]
  exact ⟨_,_,⟨rfl,rfl⟩,rfl,cs,rfl,hcs⟩
 have hs:=psC_sub hil
 have hll:=psC_len ps
 have h2 : i * 2 + 2 ≤ 2 * ps.length:=by omega
 have hpm:=List.getElem_mem hil
 have hMi:=hlg i hil
 obtain ⟨v,hv1,hv2⟩:=hGg _ hpm
 have hco:=fun K L hK => kof K L cs hK _ hpm
 have hcc:=fun L => kcc L cs _ hpm v hv2
 have hr2:=hcv ps[i]
 have ho2:=ofV_rv ⟨t,n,k,ps⟩ (setsM ⟨t,n,k,ps⟩) ps[i].r
 have hpl0:=(okp _ hpm).l0
 generalize ofV ⟨t,n,k,ps⟩ (setsM ⟨t,n,k,ps⟩) ps[i].r = O at hco hcc ho2
 generalize catV k.toNat (ofM ⟨t,n,k,ps⟩ (setsM ⟨t,n,k,ps⟩) ps[i].r) ((folM ⟨t,n,k,ps⟩).getD ps[i].l.toNat []) = R at hcc hr2
 generalize ofM ⟨t,n,k,ps⟩ (setsM ⟨t,n,k,ps⟩) ps[i].r = oL at ho2
 generalize (folM ⟨t,n,k,ps⟩).getD ps[i].l.toNat [] = vL at hv2
 generalize lookP ⟨t,n,k,ps⟩ ps[i] = rL at hr2 hMi
 generalize ps[i] = p at hs hco hv1 hpl0 hpm
 obtain ⟨pl,pr⟩:=p
 simp only [Pr.cells] at hs hv1 hpl0 hco
 obtain ⟨pl,rfl⟩:=Int.eq_ofNat_of_zero_le hpl0
 simp only [Int.toNat_natCast] at hv1
 have hpn : pl < Gc.length:=(List.getElem?_eq_some_iff.1 hv1).1
 have done : ∀ (E : Env) (H' : Heap),E = [(1,bx),(2,.box [tbV H (cs ++ [R])]),(3,.sl Fc.length Fc),(4,.sl Gc.length Gc),(12,.sl ps.length (psC ps)),(13,I ps.length),(14,I ((i : Int) + 1))] → H' = tbH H (cs ++ [R]) →
  ∃ s : Nat × List AV,(s.1 ≤ ps.length ∧ SC s.2 (M.take s.1)) ∧ ps.length - s.1 < ps.length - i ∧ E = [(1,bx),(2,.box [tbV H s.2]),(3,.sl Fc.length Fc),(4,.sl Gc.length Gc),(12,.sl ps.length (psC ps)),(13,I ps.length),(14,I s.1)] ∧ H' = tbH H s.2:=fun E H' h1 h2 =>
   ⟨(i + 1,cs ++ [R]),⟨by simp only;omega,by
    simp only
    rw [List.take_add_one,hMi]
    exact sc_snoc hcs hr2⟩,by simp only;omega,by rw [h1];simp,h2⟩
 have hR:=rv_noRp hr2
 clear hMi hcs hr2 kof kcc hlg hGg
 have hvE : ∀ h,Gc[pl]'h = v:=fun h => (List.getElem?_eq_some_iff.1 hv1).2
 by_cases h0 : cs = []
 ·subst h0
  simp only [tbV,tbH,if_true] at hco hcc
  rcases rv_noRp ho2 with rfl | rfl <;> rcases rv_noRp hv2 with rfl | rfl <;> rcases hR with rfl | rfl
  all_goals
   simp [bx,hil,hs,hll,h2,replaceAt,hco,hvE,hpn,tbV,tbH,hcc,srcCells,hro1,src_one,w1]
   rw [rnd_nrm]
   refine done _ _ ?_ ?_
   ·simp [bx,tbV]
   ·simp [tbH]
 ·simp only [tbV,tbH,if_neg h0] at hco hcc
  rcases rv_noRp ho2 with rfl | rfl <;> rcases rv_noRp hv2 with rfl | rfl <;> rcases hR with rfl | rfl
  all_goals
   simp [bx,hil,hs,hll,h2,replaceAt,hco,hvE,hpn,tbV,tbH,h0,hcc,srcCells,hro,src_one,appC,appG,setH,hlk,w1]
   rw [rnd_nrm]
   refine done _ _ ?_ ?_
   ·simp [bx,tbV]
   ·simp [tbH]
end Go.Proofs.YtgbpioccaenjaaaGreat

namespace Go.Proofs.YtgbpioccaenjaaaGreat
open Go Go.Hm

def unP (p : Pr) : Int × List Int:=(p.l,p.r)
def confM (g : Gm) : Option (Nat × Nat × Nat × List UInt8):=confF (g.ps.map unP) (lookM g) g.n.toNat 0
theorem rowA_of {v : AV} {l : List (List UInt8)} (h : RV v l) : rowA v = some l:=by
 rcases h with rfl | ⟨rfl,rfl⟩
 ·simp [rowA,textsL_B]
 ·rfl
theorem rowsA_of : ∀ {cs : List AV} {S : Ss},SC cs S → rowsA cs = some S
 | [],S,h => by rw [List.eq_nil_of_length_eq_zero (l:=S) h.1.symm];rfl
 | v :: cs,[],h => by have:=h.1;simp at this
 | v :: cs,l :: S,h => by
  have h0 : RV v l:=h.2 0 v rfl
  have hs : SC cs S:=⟨by have:=h.1;simpa using this,fun j u hu => h.2 (j + 1) u (by simpa using hu)⟩
  simp only [rowsA,rowA_of h0,rowsA_of hs]
theorem intsA_of (r : List Int) : intsA (ints r) = some r:=intsA_ints r
theorem prodsA_of : ∀ ps : List Pr,prodsA (psC ps) = some (ps.map unP)
 | [] => rfl
 | p :: ps => by
  show prodsA (I p.l :: .sl p.r.length (ints p.r) :: psC ps) = _
  simp only [prodsA,intsA_of,prodsA_of ps,if_true]
  rfl
theorem okA_of {g : Gm} (hg : GOk g) : okA g.t g.n g.k (g.ps.map unP) = true:=by
 simp only [okA,Bool.and_eq_true,decide_eq_true_eq,List.all_eq_true,List.length_map,List.mem_map]
 refine ⟨⟨hg.t1,hg.t2,hg.n1,hg.n2,hg.k1,hg.k2,hg.l1,hg.l2⟩,?_⟩
 rintro q ⟨p,hp,rfl⟩
 have h:=hg.p p hp
 exact ⟨⟨⟨h.l0,h.l1⟩,h.len⟩,h.s⟩
theorem conf_at {lk lim : Nat} {H : Heap} {g : Gm} (hc : chkE g = 0) {cs : List AV} (hs : SC cs (lookM g)) : callW X A lk lim 24 [gV g,.agg [.sl cs.length cs]] H = some (conV (confM g),H):=by
 have ok:=gok_of hc
 have h : conflictG [gV g,.agg [.sl cs.length cs]] H = some (conV (confM g)):=by
  have hl : lookA (.sl cs.length cs) = some (lookM g):=by
   simp only [lookA,rowsA_of hs]
   rw [if_pos hs.1.symm]
  show (match prodsA (psC g.ps),lookA (.sl cs.length cs) with
   | some ps,some look => if ps.length = g.ps.length ∧ look.length = ps.length ∧ okA g.t g.n g.k ps = true ∧ look.all (fun l => decide (l.length ≤ 1000000)) = true then some (conV (confF ps look g.n.toNat 0)) else none
   | _,_ => none) = _
  rw [prodsA_of,hl]
  simp only
  rw [if_pos ⟨by simp,by rw [lookM_len];simp,okA_of ok,List.all_eq_true.2 fun l h => decide_eq_true (look_len ok h)⟩]
  rfl
 exact callW_prim (withFun_at h)
def cfV : Option (Nat × Nat × Nat × List UInt8) → AV
 | none => .agg [I 0,I 0,I 0,Sg []]
 | some (l,a,b,x) => .agg [I l,I a,I b,Sg x]
def BuildR (g : Gm) (v : AV) : Prop:=
 if chkE g = 0 then (match confM g with
  | some c => v = .tup [.agg [.e0],cfV (some c),I 9]
  | none => ∃ cs,v = .tup [.agg [.sl cs.length cs],cfV none,I 0] ∧ SC cs (lookM g))
 else v = .tup [.agg [.e0],cfV none,I (chkE g)]
set_option maxRecDepth 20000 in
theorem build_code {lk lim : Nat} {H : Heap} (hlk : lk ≤ H.length) (g : Gm) (hl : g.ps.length ≤ 1000000) (hr : ∀ p ∈ g.ps,p.r.length ≤ 1000000) :
  ∃ v h',callW X A lk lim 7 [gV g] H = some (v,h') ∧ h' = H ∧ BuildR g v:=by
 have kc:=fun (L : Nat) => check_code (lk:=lk) (lim:=L) (H:=H) g hl hr
 refine wb_callX [1,2,3,6] rfl A7 rfl rfl ?_
 unfold t7B
 by_cases hc : chkE g = 0
 case neg =>
  have fin : BuildR g (.tup [.agg [.e0],cfV none,I (chkE g)]):=by unfold BuildR;rw [if_neg hc]
  generalize BuildR g = Q at fin ⊢
  generalize chkE g = e at kc hc fin
  have hc2 : (e != 0) = true:=by simpa using hc
  obtain ⟨t,n,k,ps⟩:=g
  simp only [gV,Gm.cells] at kc
  generalize callW X A = C at kc ⊢
  simp [Gm.cells,kc,hc2,hc,finX_ret,replaceAt]
  exact ⟨_,_,⟨rfl,rfl⟩,rfl,fin⟩
 rw [hc] at kc
 obtain ⟨v,h',kt,e1,cs,rfl,hs⟩:=table_code (lim:=H.length) hlk g hc
 rw [e1] at kt
 have kf:=conf_at (lk:=lk) (lim:=H.length) (H:=H) hc hs
 have fin : match confM g with
  | some c => BuildR g (.tup [.agg [.e0],cfV (some c),I 9])
  | none => BuildR g (.tup [.agg [.sl cs.length cs],cfV none,I 0]):=by
  cases hm : confM g with
  | none => simp only;unfold BuildR;rw [if_pos hc,hm];exact ⟨cs,rfl,hs⟩
  | some c => simp only;unfold BuildR;rw [if_pos hc,hm]
 generalize BuildR g = Q at fin ⊢
 generalize confM g = r at kf fin
 obtain ⟨t,n,k,ps⟩:=g
 simp only [gV,Gm.cells] at kc kt kf
 generalize callW X A = C at kc kt kf ⊢
 cases r with
 | none =>
  simp only [conV] at kf fin
  simp [Gm.cells,kc,kt,kf,finX_ret,replaceAt]
  exact ⟨_,_,⟨rfl,rfl⟩,rfl,fin⟩
 | some c =>
  obtain ⟨l,a,b,x⟩:=c
  simp only [conV] at kf fin
  simp [Gm.cells,kc,kt,kf,finX_ret,replaceAt]
  exact ⟨_,_,⟨rfl,rfl⟩,rfl,fin⟩
end Go.Proofs.YtgbpioccaenjaaaGreat
