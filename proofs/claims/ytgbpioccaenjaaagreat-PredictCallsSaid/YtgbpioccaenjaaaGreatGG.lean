import Derived.Test.YtgbpioccaenjaaaGreatGF
set_option linter.unusedSimpArgs false
set_option linter.unusedVariables false
namespace Go.Proofs.YtgbpioccaenjaaaGreat
open Go Go.Hm

theorem back_code {lk lim : Nat} {H : Heap} (hlk : lk ≤ H.length) (r : List Int) : callW X A lk lim 70 [.sl r.length (ints r)] H = some (.fn 89 [.rop [.sl r.length (ints r)] 0],H):=by
 refine wb_callB [] rfl A70 rfl rfl ?_
 unfold t70B
 generalize callW X A = C
 simp
structure KF (C : Orc) (g : Gm) (F : AV) (L : Nat) : Prop where
 back : ∀ K M (h : Heap) (r : List Int),K ≤ h.length → C K M 70 [.sl r.length (ints r)] h = some (.fn 89 [.rop [.sl r.length (ints r)] 0],h)
 first : ∀ K M (h : Heap) (r : List Int),K ≤ h.length → r.length ≤ 8 → (∀ x ∈ r,0 ≤ x ∧ x < g.t + g.n) → C K M 47 [gV g,F,.sl r.length (ints r)] h = some (ofV g (setsM g) r,h)
 cat : ∀ K M (h : Heap) va vb a b,K ≤ h.length → RV va a → RV vb b → ROk g a → FOk g b → C K M 46 [I g.k,va,vb] h = some (catV g.k.toNat a b,h)
 uni : ∀ K M (h : Heap) va vb a b,RV va a → RV vb b → FOk g a → FOk g b → C K M 66 [va,vb] h = some (rowsV (uni a b),h)
 put : ∀ K M (H : Heap) (cs : List AV) (q : List Nat) (off : Nat) (inq : List Bool) (G : Heap) (m : Nat),H.length = L → K ≤ L + 4 → M ≤ L + 4 → inq.length = 16 → m < 16 → off ≤ q.length → q.length ≤ 1000000 →
  C K M 68 [.hp (L + 4) 17 0,I (m : Int)] (foH H g F cs (quV (L + 5) q off inq) q G) = some (.tup [],foH H g F cs (quV (L + 5) (putQ q inq m).1 off (putQ q inq m).2) (putQ q inq m).1 G)
structure KG (C : Orc) (g : Gm) (F : AV) (L : Nat) : Prop extends KF C g F L where
 take : ∀ K M (H : Heap) (cs : List AV) (q : List Nat) (off : Nat) (inq : List Bool) (G : Heap),H.length = L → K ≤ L + 4 → M ≤ L + 4 → inq.length = 16 → off ≤ q.length → (∀ m ∈ q,m < 16) →
  C K M 69 [.hp (L + 4) 17 0] (foH H g F cs (quV (L + 5) q off inq) q G) = some (if off < q.length then .tup [I (q.getD off 0 : Nat),Bo true] else .tup [I 0,Bo false],if off < q.length then foH H g F cs (quV (L + 5) q (off + 1) (inq.set (q.getD off 0) false)) q G else foH H g F cs (quV (L + 5) q off inq) q G)
 prods : ∀ K M (h : Heap) (lf : Nat),K ≤ h.length → C K M 36 [gV g,I lf] h = some (slvN (ofN g.ps lf g.ps.length),h)
structure S1 where
 i : Nat
 S : Ss
 cs : List AV
 q : List Nat
 inq : List Bool
 G : Heap
def S1.heap (H : Heap) (g : Gm) (F : AV) (off : Nat) (s : S1) : Heap:=foH H g F s.cs (quV (H.length + 5) s.q off s.inq) s.q s.G
def fenv (L j : Nat) (t : Env) : Env:=(1,.hp L 4 0) :: (2,.e0) :: (3,.hp (L + 1) 1 0) :: (4,.hp (L + 3) 1 0) :: (5,.hp (L + 4) 17 0) :: (6,.hp (L + 6 + j) 1 0) :: t
structure I1 (g : Gm) (off j lf m0 : Nat) (P : Pl → Prop) (S : Ss) (cs : List AV) (q : List Nat) (inq : List Bool) (G : Heap) : Prop where
 inv : QInv g S q off inq
 sc : SC cs S
 left : G[j]? = some (.cells [I lf])
 pend : Pend g S (q.drop off) P
 mu : qmu g S q off ≤ m0
def P1 (g : Gm) (ixs : List Nat) (lf i : Nat) (p : Pl) : Prop:=p.l = lf ∧ ∃ i',i ≤ i' ∧ i' < ixs.length ∧ p ∈ plsR g.t lf (g.ps.getD (ixs.getD i' 0) ⟨0,[]⟩).r
def inv1 (g : Gm) (ixs : List Nat) (off j lf m0 : Nat) (s : S1) : Prop:=s.i ≤ ixs.length ∧ I1 g off j lf m0 (P1 g ixs lf s.i) s.S s.cs s.q s.inq s.G
def env1 (L j : Nat) (ixs : List Nat) (s : S1) : Env:=fenv L j [(38,slvN ixs),(39,I ixs.length),(40,I s.i)]
set_option maxRecDepth 20000 in
set_option maxHeartbeats 2000000 in
theorem r12_tail {C : Orc} {lk : Nat} {H : Heap} (hlk : lk ≤ H.length) {g : Gm} {F : AV} {cs : List AV} {q : List Nat} {off : Nat} {inq : List Bool} {G : Heap} {Q : Ex → Kt} {m : Nat} {vm : AV} {Sm u : List (List UInt8)} {E : Env}
  (hE : restrict [4,5,13,14] E = [(4,.hp (H.length + 3) 1 0),(5,.hp (H.length + 4) 17 0),(13,I m),(14,rowsV u)]) (hm : m < cs.length) (hvm : cs[m]? = some vm) (hr : RV vm Sm)
  (kp : ∀ cs,C lk H.length 68 [.hp (H.length + 4) 17 0,I (m : Int)] (foH H g F cs (quV (H.length + 5) q off inq) q G) = some (.tup [],foH H g F cs (quV (H.length + 5) (putQ q inq m).1 off (putQ q inq m).2) (putQ q inq m).1 G))
  (h0 : u.length ≤ Sm.length → ∀ e,Q .nrm e (foH H g F cs (quV (H.length + 5) q off inq) q G))
  (h1 : Sm.length < u.length → ∀ e,Q .nrm e (foH H g F (cs.set m (rowsV u)) (quV (H.length + 5) (putQ q inq m).1 off (putQ q inq m).2) (putQ q inq m).1 G)) :
  WB ⟨C,lk,H.length,[]⟩ (AC.regN [4,5,13,14]
   [{ dst:=some 81,grd:=none,op:=AOp.mv (AO.tmp 14) },
    { dst:=some 82,grd:=none,op:=AOp.len false (AO.tmp 81) },
    { dst:=some 83,grd:=none,op:=AOp.ld1 none (AO.tmp 4) },
    { dst:=some 84,grd:=none,op:=AOp.mv (AO.tmp 13) },
    { dst:=some 85,grd:=none,op:=AOp.ixA 1 (AO.tmp 83) (AO.tmp 84) },
    { dst:=some 86,grd:=none,op:=AOp.ld1 none (AO.tmp 85) },
    { dst:=some 87,grd:=none,op:=AOp.len false (AO.tmp 86) },
    { dst:=some 88,grd:=none,op:=AOp.bini BinOp.gtr (AO.tmp 82) (AO.tmp 87) }])
  (Fol ⟨C,lk,H.length,[]⟩
   (AC.cond (AO.tmp 88)
    ((AC.regN [4,5,13,14]
       [{ dst:=some 89,grd:=none,op:=AOp.ld1 none (AO.tmp 4) },
        { dst:=some 90,grd:=none,op:=AOp.mv (AO.tmp 13) },
        { dst:=some 91,grd:=none,op:=AOp.mv (AO.tmp 14) },
        { dst:=some 92,grd:=none,op:=AOp.ixA 1 (AO.tmp 89) (AO.tmp 90) },
        { dst:=none,grd:=none,op:=AOp.st none 1 (AO.tmp 92) (AO.tmp 91) }]).seq
     (AC.regN [5,13]
      [{ dst:=some 93,grd:=none,op:=AOp.mv (AO.tmp 13) },
       { dst:=some 94,grd:=none,op:=AOp.call 68 [AO.tmp 5,AO.tmp 93] }]))
    AC.skip) Q) E (foH H g F cs (quV (H.length + 5) q off inq) q G):=by
 have hvmE : cs[m] = vm:=by rw [List.getElem?_eq_getElem hm] at hvm;simpa using hvm
 have g2 : lk ≤ H.length + 2:=by omega
 have hm1 : m + 1 ≤ cs.length:=hm
 have hset : List.take m cs ++ AV.sl u.length (rowsB u) :: List.drop (m + 1) cs = cs.set m (rowsV u):=by
  rw [List.set_eq_take_append_cons_drop,if_pos hm]
 have hs2:=foH_set2 (H:=H) (g:=g) (F:=F) (cs:=cs) (qv:=quV (H.length + 5) q off inq) (q:=q) (G:=G) (cs.set m (rowsV u)) (by simp)
 have hcn : (cs.set m (rowsV u)).length = cs.length:=by simp
 rw [wb_regN,hE]
 by_cases hlt : Sm.length < u.length
 ·have hlt2 : (Sm.length : Int) < u.length:=by omega
  have hlt3 : u.length = 0 → False:=fun e => by omega
  have h1x:=h1 hlt
  have kp1:=kp (cs.set m (rowsV u))
  rcases hr with rfl | ⟨rfl,rfl⟩
  ·simp [-wi_st,-wb_regN,-wb_true,-wb_false,foH3,foH2,hm,hvm,hvmE,hlt2]
   rw [wb_true rfl,wb_seq,wb_regN]
   simp [-wi_st,-wb_regN,-wb_true,-wb_false,foH3,foH2,hm,hvm,hvmE]
   rw [wi_st]
   simp [-wi_st,-wb_regN,-wb_true,-wb_false,foH2,setH,g2,replaceAt,hm1,hset,hs2]
   rw [wb_regN]
   simp [-wi_st,-wb_true,-wb_false,kp1]
   exact h1x _
  ·have hlt4 : 0 < u.length:=by simpa using hlt
   simp [-wi_st,-wb_regN,-wb_true,-wb_false,foH3,foH2,hm,hvm,hvmE,hlt4]
   rw [wb_true rfl,wb_seq,wb_regN]
   simp [-wi_st,-wb_regN,-wb_true,-wb_false,foH3,foH2,hm,hvm,hvmE]
   rw [wi_st]
   simp [-wi_st,-wb_regN,-wb_true,-wb_false,foH2,setH,g2,replaceAt,hm1,hset,hs2]
   rw [wb_regN]
   simp [-wi_st,-wb_true,-wb_false,kp1]
   exact h1x _
 ·have hlt2 : ¬ (Sm.length : Int) < u.length:=by omega
  have h0x:=h0 (by omega)
  rcases hr with rfl | ⟨rfl,rfl⟩
  ·simp [-wi_st,-wb_regN,-wb_true,-wb_false,foH3,foH2,hm,hvm,hvmE,hlt2]
   rw [wb_false rfl,wb_skip]
   exact h0x _
  ·have hlt4 : ¬ 0 < u.length:=by simpa using hlt
   simp [-wi_st,-wb_regN,-wb_true,-wb_false,foH3,foH2,hm,hvm,hvmE,hlt4]
   rw [wb_false rfl,wb_skip]
   exact h0x _
set_option maxRecDepth 20000 in
set_option maxHeartbeats 2000000 in
theorem l1_round {C : Orc} {lk : Nat} {H : Heap} (hlk : lk ≤ H.length) {g : Gm} (hg : GOk g) {nf : Nat} {Fc : List AV} (k : KF C g (.sl nf Fc) H.length) {ixs : List Nat} {off j lf m0 : Nat}
  (hlen : ixs.length ≤ 1000000) (hix : ∀ i ∈ ixs,i < g.ps.length) (hlf : ∀ i (h : i < g.ps.length),i ∈ ixs → g.ps[i].l.toNat = lf) {Q : Ex → Kt}
  (hQ : ∀ s e,inv1 g ixs off j lf m0 s → s.i = ixs.length → restrict [1,2,3,4,5,6] e = fenv H.length j [] → Q (.exit 2) e (s.heap H g (.sl nf Fc) off)) (s : S1) (hs : inv1 g ixs off j lf m0 s) :
  WB ⟨C,lk,H.length,[]⟩ t45L1 (Rnd [1,2,3,4,5,6,38,39,40] (env1 H.length j ixs) (fun s => s.heap H g (.sl nf Fc) off) (inv1 g ixs off j lf m0) (fun s => ixs.length - s.i) s Q) (env1 H.length j ixs s) (s.heap H g (.sl nf Fc) off):=by
 obtain ⟨i,S,cs,q,inq,G⟩:=s
 obtain ⟨hi,hI⟩:=hs
 simp only at hi hI
 unfold t45L1
 by_cases hil : i < ixs.length
 case neg =>
  obtain rfl : i = ixs.length:=by omega
  have hQ2:=hQ ⟨ixs.length,S,cs,q,inq,G⟩
  simp [-wb_true,-wb_false,-wb_regN,env1,fenv]
  rw [wb_regN]
  simp [-wb_true,-wb_false]
  rw [wb_false rfl]
  simp
  exact hQ2 _ ⟨Nat.le_refl _,hI⟩ rfl rfl
 obtain ⟨ix,hixE⟩ : ∃ ix,ixs[i] = ix:=⟨_,rfl⟩
 have hixm : ix ∈ ixs:=hixE ▸ List.getElem_mem hil
 have hixl:=hix ix hixm
 have hsl : slvN ixs = .sl ixs.length (nts ixs):=by
  unfold slvN;rw [if_neg (fun e => by subst e;simp at hil)]
 have hq2 : ixs[i]? = some ix:=by rw [List.getElem?_eq_getElem hil,hixE]
 obtain ⟨p,hp⟩ : ∃ p,g.ps[ix] = p:=⟨_,rfl⟩
 have hpm : p ∈ g.ps:=hp ▸ List.getElem_mem hixl
 have pok:=hg.p p hpm
 have hll:=psC_len g.ps
 have hpr:=psC_r hixl
 rw [hp] at hpr
 have h2 : ix * 2 + 2 ≤ 2 * g.ps.length:=by omega
 have hcl : (g.cells).length = 4:=rfl
 have g1 : ∀ n,lk ≤ H.length + n:=fun n => by omega
 have hil2 : (i : Int) < ixs.length:=by omega
 have hc3 : ∀ h : 3 < g.cells.length,(g.cells)[3] = .sl g.ps.length (psC g.ps):=fun _ => rfl
 have hprE : ∀ h,(psC g.ps)[ix * 2 + 1]'h = .sl p.r.length (ints p.r):=fun h => by rw [List.getElem?_eq_getElem h] at hpr;simpa using hpr
 have hne : fenv H.length j [] = [(1,.hp H.length 4 0),(2,.e0),(3,.hp (H.length + 1) 1 0),(4,.hp (H.length + 3) 1 0),(5,.hp (H.length + 4) 17 0),(6,.hp (H.length + 6 + j) 1 0)]:=rfl
 simp [-wi_st,-wb_regN,-wb_true,-wb_false,env1,fenv,S1.heap,hsl]
 rw [wb_regN]
 simp [-wi_st,-wb_regN,-wb_true,-wb_false,hil2]
 rw [wb_true rfl,wb_skip,fol_nrm,wb_seq,wb_block,wb_seq,wb_regN]
 simp [-wi_st,-wb_regN,-wb_true,-wb_false,hq2,hixE,hil]
 rw [wb_regN]
 simp [-wi_st,-wb_regN,-wb_true,-wb_false,foH0,foH_len,hcl,hc3,hll,h2,hpr,hprE,hixl,foH_app]
 rw [wi_st]
 have kb:=fun M (G : Heap) => k.back lk M (foH H g (.sl nf Fc) cs (quV (H.length + 5) q off inq) q G) p.r (by rw [foH_len];omega)
 have gG : ∀ n,lk ≤ H.length + 6 + n:=fun n => by omega
 simp [-wi_st,-wb_regN,-wb_true,-wb_false,foHG,foH_setG,setH,gG,replaceAt]
 rw [wb_regN]
 simp [-wi_st,-wb_regN,-wb_true,-wb_false,foHG,kb]
 have hbi : ∀ h : Heap,backIt 89 [.rop [.sl p.r.length (ints p.r)] 0] h = some (backV p.r 0):=fun h => backIt_ints h p.r (by have:=pok.len;omega)
 have hgt : ixs.getD i 0 = ix:=by rw [List.getD_eq_getElem?_getD,hq2];rfl
 have hgp : g.ps.getD ix ⟨0,[]⟩ = p:=by rw [List.getD_eq_getElem?_getD,List.getElem?_eq_getElem hixl,hp];rfl
 have hjG : j < G.length:=(List.getElem?_eq_some_iff.1 hI.left).1
 have hplf : p.l.toNat = lf:=by rw [← hp];exact hlf ix hixl hixm
 refine wb_rangeE (backV p.r 0) (fun i' h => ∃ S cs q inq G2,h = foH H g (.sl nf Fc) cs (quV (H.length + 5) q off inq) q G2 ∧ G2[G.length]? = some (.cells [.sl p.r.length (ints p.r)]) ∧
   I1 g off j lf m0 (fun p' => P1 g ixs lf (i + 1) p' ∨ (p' ∈ plsR g.t lf p.r ∧ i' ≤ p'.r.length)) S cs q inq G2)
  [(1,.hp H.length 4 0),(2,.e0),(3,.hp (H.length + 1) 1 0),(4,.hp (H.length + 3) 1 0),(5,.hp (H.length + 4) 17 0),(6,.hp (H.length + 6 + j) 1 0),(10,.hp (H.length + 6 + G.length) 1 0),(38,.sl ixs.length (nts ixs)),(39,I ixs.length),(40,I i),(51,.fn 89 [.rop [.sl p.r.length (ints p.r)] 0])]
  rfl rfl rfl (hbi _) ?_ ?_ ?_ ?_
 ·rw [List.all_eq_true]
  intro x hx
  obtain ⟨n,hn⟩:=List.getElem?_of_mem hx
  have hnl:=(List.getElem?_eq_some_iff.1 hn).1
  rw [backV_len] at hnl
  have hb:=backV_get p.r 0 (p.r.length - 1 - n) (by omega)
  rw [show p.r.length - 1 - (p.r.length - 1 - n) = n by omega,hn] at hb
  rw [Option.some.inj hb]
  rfl
 ·refine ⟨S,cs,q,inq,G ++ [.cells [.sl p.r.length (ints p.r)]],rfl,by simp,hI.inv,hI.sc,?_,?_,hI.mu⟩
  ·rw [List.getElem?_append_left hjG];exact hI.left
  ·refine pend_mono hI.pend fun p' _ hP => ?_
   obtain ⟨h1,i',hi1,hi2,hm⟩:=hP
   rcases Nat.eq_or_lt_of_le hi1 with e | e
   ·subst e
    rw [hgt,hgp] at hm
    exact .inr ⟨hm,Nat.zero_le _⟩
   ·exact .inl ⟨h1,i',e,hi2,hm⟩
 ·rintro n x h hx ⟨S,cs,q,inq,G2,rfl,hr,hI2⟩
  have hnl:=(List.getElem?_eq_some_iff.1 hx).1
  rw [backV_len] at hnl
  obtain ⟨jj,hjj⟩ : ∃ jj,jj + n + 1 = p.r.length:=⟨p.r.length - 1 - n,by omega⟩
  have hjl : jj < p.r.length:=by omega
  have hb:=backV_get p.r 0 jj hjl
  rw [show p.r.length - 1 - jj = n by omega,hx,Nat.zero_add] at hb
  obtain rfl:=Option.some.inj hb
  obtain ⟨sy,hsy⟩ : ∃ sy,p.r[jj] = sy:=⟨_,rfl⟩
  have hsok:=pok.s sy (hsy ▸ List.getElem_mem hjl)
  rw [hsy]
  have hc0 : ∀ h : 0 < g.cells.length,(g.cells)[0] = I g.t:=fun _ => rfl
  have hc2 : ∀ h : 2 < g.cells.length,(g.cells)[2] = I g.k:=fun _ => rfl
  refine ⟨_,rfl,?_⟩
  rw [wb_seq,wb_regN]
  simp [-wi_st,-wb_regN,-wb_true,-wb_false]
  rw [wb_regN]
  simp [-wi_st,-wb_regN,-wb_true,-wb_false]
  refine nrm_nrm rfl ?_
  rw [wb_block,wb_seq,wb_seq,wb_regN]
  simp [-wi_st,-wb_regN,-wb_true,-wb_false,foH0,hcl,hc0]
  by_cases hst : sy < g.t
  ·rw [decide_eq_true hst,wb_true rfl]
   simp [-wi_st,-wb_regN,-wb_true,-wb_false]
   rw [rge_nrm]
   refine ⟨S,cs,q,inq,G2,rfl,hr,hI2.inv,hI2.sc,hI2.left,pend_mono hI2.pend fun p' _ hP => ?_,hI2.mu⟩
   rcases hP with hP | ⟨hm,hle⟩
   ·exact .inl hP
   ·rcases Nat.eq_or_lt_of_le hle with e | e
    ·exact absurd hst (hsy ▸ (place_len hm hjl (by omega)).1)
    ·exact .inr ⟨hm,e⟩
  obtain ⟨m,hm⟩ : ∃ m : Nat,sy - g.t = (m : Int):=Int.eq_ofNat_of_zero_le (by omega)
  have hw : IntKind.i64.wrap (sy - g.t) = (m : Int):=by rw [← hm];have:=hg.t1;have:=hg.t2;have:=hg.n1;have:=hg.n2;exact wrap64 (by omega) (by omega)
  rw [decide_eq_false hst,wb_false rfl,wb_skip,fol_nrm,wb_seq,wb_regN]
  simp [-wi_st,-wb_regN,-wb_regD,-wb_true,-wb_false,foH0,hcl,hc0,hw]
  have hok:=hI2.inv.reach.ok
  have hcs : cs.length = g.n.toNat:=hI2.sc.1.trans hok.len
  have hmn : m < cs.length:=by omega
  have hlfn : lf < cs.length:=by rw [hcs,← hplf];have:=pok.l0;have:=pok.l1;omega
  obtain ⟨vm,hvm,hrm⟩:=hI2.sc.get (j:=m) (by rw [← hI2.sc.1];exact hmn)
  obtain ⟨vl,hvl,hrl⟩:=hI2.sc.get (j:=lf) (by rw [← hI2.sc.1];exact hlfn)
  have hvmE : cs[m] = vm:=by rw [List.getElem?_eq_getElem hmn] at hvm;simpa using hvm
  have hvlE : cs[lf] = vl:=by rw [List.getElem?_eq_getElem hlfn] at hvl;simpa using hvl
  have w2 : IntKind.i64.wrap ((jj : Int) + 1) = (jj : Int) + 1:=by have:=pok.len;exact wrap64 (by omega) (by omega)
  have hjr : (jj : Int) + 1 ≤ p.r.length:=by omega
  have hj0 : (0 : Int) ≤ (jj : Int) + 1:=by omega
  obtain ⟨sf,hsf⟩ : ∃ sf,p.r.drop (jj + 1) = sf:=⟨_,rfl⟩
  have hsl2 : AV.sl (p.r.length - (jj + 1)) (List.take (p.r.length - (jj + 1)) (List.drop (jj + 1) (ints p.r))) = .sl sf.length (ints sf):=by
   rw [← hsf,List.length_drop,List.take_of_length_le (by simp)];simp [ints,List.map_drop]
  have ht4 : List.take 4 g.cells = g.cells:=rfl
  have hbg : ∀ X,belowL X g.cells = true:=fun X => by simp [Gm.cells,belowL,Hm.below]
  have kf:=fun (K M : Nat) (hK : K ≤ H.length + 6 + G2.length) => k.first K M (foH H g (.sl nf Fc) cs (quV (H.length + 5) q off inq) q G2) sf (by rw [foH_len];omega) (by rw [← hsf,List.length_drop];have:=pok.len;omega) (fun x hx => pok.s x (by rw [← hsf] at hx;exact List.mem_of_mem_drop hx))
  have hu:=hI2.inv
  have hsc:=hI2.sc
  have hovr:=ofV_rv g (setsM g) sf
  have hofok:=ofM_ok hg (sets_ok hg) (r:=sf) fun x hx => (pok.s x (by rw [← hsf] at hx;exact List.mem_of_mem_drop hx)).1
  have kc:=fun (K M : Nat) (hK : K ≤ H.length + 6 + G2.length) => k.cat K M (foH H g (.sl nf Fc) cs (quV (H.length + 5) q off inq) q G2) _ _ _ _ (by rw [foH_len];omega) hovr hrl hofok (hok.get lf)
  have hcvr:=RV.cat g.k.toNat (ofM g (setsM g) sf) (S.getD lf [])
  have ku:=fun (K M : Nat) => k.uni K M (foH H g (.sl nf Fc) cs (quV (H.length + 5) q off inq) q G2) _ _ _ _ hrm hcvr (hok.get m) (cat_fok hg hofok (hok.get lf))
  have h16 : m < 16:=by have:=hg.n2;omega
  have kp:=fun (cs : List AV) => k.put lk H.length H cs q off inq G2 m rfl (by omega) (by omega) hI2.inv.len h16 hI2.inv.ofl (by have:=hI2.inv.small hg;omega)
  have hplm : (⟨lf,m,sf⟩ : Pl) ∈ pls g:=by
   have:=place_at hpm hplf hjl (by rw [hsy];exact hst)
   rw [hsy,hsf,hm] at this
   exact this
  have hpend : Pend g S (q.drop off) fun p' => (P1 g ixs lf (i + 1) p' ∨ (p' ∈ plsR g.t lf p.r ∧ n + 1 ≤ p'.r.length)) ∨ p' = ⟨lf,m,sf⟩:=pend_mono hI2.pend fun p' _ hP => by
   rcases hP with hP | ⟨hmm,hle⟩
   ·exact .inl (.inl hP)
   ·rcases Nat.eq_or_lt_of_le hle with e | e
    ·have:=(place_len hmm hjl (by omega)).2
     rw [hsy,hsf,hm] at this
     exact .inr this
    ·exact .inl (.inr ⟨hmm,e⟩)
  have hgrow:=grow_inv hg hI2.inv hplm hpend
  have hstill:=still_inv hg hI2.inv hplm hpend
  have hsc3:=fun l => sc_set hI2.sc (j:=m) (v:=rowsV l) (l:=l) (.inl rfl)
  unfold stF at hgrow
  simp only at hgrow hstill
  generalize S.getD m [] = Sm at *
  generalize S.getD lf [] = Sl at *
  generalize ofV g (setsM g) sf = ov at kf kc hovr
  generalize catV g.k.toNat (ofM g (setsM g) sf) Sl = cv at kc hcvr ku
  generalize uni Sm (cat g.k.toNat (ofM g (setsM g) sf) Sl) = u at *
  have hK1 : lk ≤ H.length + 6 + G2.length:=by omega
  have h0 : u.length ≤ Sm.length → ∃ S1 cs1 q1 inq1 G1,foH H g (.sl nf Fc) cs (quV (H.length + 5) q off inq) q G2 = foH H g (.sl nf Fc) cs1 (quV (H.length + 5) q1 off inq1) q1 G1 ∧ G1[G.length]? = some (.cells [.sl p.r.length (ints p.r)]) ∧
    I1 g off j lf m0 (fun p' => P1 g ixs lf (i + 1) p' ∨ (p' ∈ plsR g.t lf p.r ∧ n + 1 ≤ p'.r.length)) S1 cs1 q1 inq1 G1:=fun hle => ⟨S,cs,q,inq,G2,rfl,hr,hI2.inv,hI2.sc,hI2.left,hstill hle,hI2.mu⟩
  have h1 : Sm.length < u.length → ∃ S1 cs1 q1 inq1 G1,foH H g (.sl nf Fc) (cs.set m (rowsV u)) (quV (H.length + 5) (putQ q inq m).1 off (putQ q inq m).2) (putQ q inq m).1 G2 = foH H g (.sl nf Fc) cs1 (quV (H.length + 5) q1 off inq1) q1 G1 ∧ G1[G.length]? = some (.cells [.sl p.r.length (ints p.r)]) ∧
    I1 g off j lf m0 (fun p' => P1 g ixs lf (i + 1) p' ∨ (p' ∈ plsR g.t lf p.r ∧ n + 1 ≤ p'.r.length)) S1 cs1 q1 inq1 G1:=fun hlt => by
   obtain ⟨i1,i2,i3⟩:=hgrow hlt
   exact ⟨S.set m u,cs.set m (rowsV u),_,_,G2,rfl,hr,i1,hsc3 u,hI2.left,i2,Nat.le_trans (Nat.le_of_lt i3) hI2.mu⟩
  clear hgrow hstill hpend hsc3
  rw [wb_regD rfl]
  rcases rv_noRp hrm with rfl | rfl <;> rcases rv_noRp hrl with rfl | rfl <;> rcases rv_noRp hovr with rfl | rfl <;> rcases rv_noRp hcvr with rfl | rfl
  all_goals
   simp [-wi_st,-wb_regN,-wb_regD,-wb_true,-wb_false,foH0,foH1,foH2,foH3,foH4,foHG,foH_len,hcl,hc0,hc2,hmn,hvm,hvmE,hlfn,hvl,hvlE,hr,hI2.left,w2,bnd,hjr,hj0,hsl2,ht4,hbg,kf,kc,ku,hK1]
   exact r12_tail hlk rfl hmn hvm hrm kp (fun hle e => h0 hle) (fun hlt e => h1 hlt)
 ·rintro h ⟨S,cs,q,inq,G2,rfl,hr,hI2⟩
  have w1 : IntKind.i64.wrap ((i : Int) + 1) = (i : Int) + 1:=wrap64 (by omega) (by omega)
  have hfin : I1 g off j lf m0 (P1 g ixs lf (i + 1)) S cs q inq G2:=⟨hI2.inv,hI2.sc,hI2.left,pend_mono hI2.pend fun p' _ hP => by
   rcases hP with hP | ⟨hm,hle⟩
   ·exact hP
   ·rw [backV_len] at hle
    have:=place_lt hm
    omega,hI2.mu⟩
  simp [w1,rnd_nrm]
  exact ⟨⟨i + 1,S,cs,q,inq,G2⟩,⟨hil,hfin⟩,by show ixs.length - (i + 1) < _;omega,by simp [env1,fenv,hsl],rfl⟩
end Go.Proofs.YtgbpioccaenjaaaGreat

namespace Go.Proofs.YtgbpioccaenjaaaGreat
open Go Go.Hm

theorem mem_ofN {ps : List Pr} {left : Int} {i : Nat} : i ∈ ofN ps left ps.length ↔ ∃ h : i < ps.length,ps[i].l = left:=by
 unfold ofN
 rw [List.mem_filter,List.mem_range]
 constructor
 ·rintro ⟨h,h2⟩
  refine ⟨h,?_⟩
  rw [List.getD_eq_getElem?_getD,List.getElem?_eq_getElem h] at h2
  simpa using h2
 ·rintro ⟨h,h2⟩
  refine ⟨h,?_⟩
  rw [List.getD_eq_getElem?_getD,List.getElem?_eq_getElem h]
  simpa using h2
structure S2 where
 S : Ss
 cs : List AV
 q : List Nat
 off : Nat
 inq : List Bool
 G : Heap
 j : Nat
 lf : Nat
 is : Bool
def S2.heap (H : Heap) (g : Gm) (F : AV) (s : S2) : Heap:=foH H g F s.cs (quV (H.length + 5) s.q s.off s.inq) s.q s.G
structure I2 (g : Gm) (s : S2) : Prop where
 inv : QInv g s.S s.q s.off s.inq
 sc : SC s.cs s.S
 left : s.G[s.j]? = some (.cells [I s.lf])
 pend : Pend g s.S (s.q.drop s.off) fun p => s.is = true ∧ p.l = s.lf
 lt : s.is = true → s.lf < g.n.toNat
 no : s.is = false → s.q.length ≤ s.off
def S2.mu (g : Gm) (s : S2) : Nat:=qmu g s.S s.q s.off + if s.is = true then 1 else 0
def env2 (L : Nat) (s : S2) : Env:=fenv L s.j [(7,Bo s.is)]
theorem p1_start {g : Gm} (hg : GOk g) {lf : Nat} {p : Pl} (hp : p ∈ pls g) (h : p.l = lf) : P1 g (ofN g.ps lf g.ps.length) lf 0 p:=by
 obtain ⟨pr,hpr,hm⟩:=List.mem_flatMap.1 hp
 have h0:=(hg.p pr hpr).l0
 obtain ⟨a,s,e,h1,h2,h3⟩:=mem_plsR.1 hm
 obtain ⟨i,hi,rfl⟩:=List.mem_iff_getElem.1 hpr
 have hl : g.ps[i].l = lf:=by omega
 have him : i ∈ ofN g.ps lf g.ps.length:=mem_ofN.2 ⟨hi,hl⟩
 obtain ⟨i',hi',e'⟩:=List.mem_iff_getElem.1 him
 refine ⟨h,i',Nat.zero_le _,hi',?_⟩
 rw [List.getD_eq_getElem?_getD (l:=ofN g.ps lf g.ps.length),List.getElem?_eq_getElem hi',e',Option.getD_some,List.getD_eq_getElem?_getD,List.getElem?_eq_getElem hi,Option.getD_some]
 rw [← h2,h] at hm
 exact hm
set_option maxRecDepth 20000 in
set_option maxHeartbeats 2000000 in
theorem l2_round {C : Orc} {lk : Nat} {H : Heap} (hlk : lk ≤ H.length) {g : Gm} (hg : GOk g) {nf : Nat} {Fc : List AV} (k : KG C g (.sl nf Fc) H.length) {Q : Ex → Kt}
  (hQ : ∀ s e,I2 g s → s.is = false → restrict [4] e = [(4,.hp (H.length + 3) 1 0)] → Q (.exit 0) e (s.heap H g (.sl nf Fc))) (s : S2) (hs : I2 g s) :
  WB ⟨C,lk,H.length,[]⟩ t45L2 (Rnd [1,2,3,4,5,6,7] (env2 H.length) (fun s => s.heap H g (.sl nf Fc)) (I2 g) (fun s => s.mu g) s Q) (env2 H.length s) (s.heap H g (.sl nf Fc)):=by
 have hQ2:=hQ s
 obtain ⟨S,cs,q,off,inq,G,j,lf,is⟩:=s
 obtain ⟨i1,i2,i3,i4,i5,i6⟩:=hs
 simp only at i1 i2 i3 i4 i5 i6
 unfold t45L2
 have hcl : (g.cells).length = 4:=rfl
 have ht4 : List.take 4 g.cells = g.cells:=rfl
 cases is with
 | false =>
  simp [-wb_true,-wb_false,-wb_regN,env2,fenv]
  rw [wb_regN]
  simp [-wb_true,-wb_false]
  rw [wb_false rfl]
  simp
  exact hQ2 _ ⟨i1,i2,i3,i4,i5,i6⟩ rfl rfl
 | true =>
  have hlf:=i5 rfl
  have ko:=fun M => k.prods lk M (foH H g (.sl nf Fc) cs (quV (H.length + 5) q off inq) q G) lf (by rw [foH_len];omega)
  have hmem:=fun i => mem_ofN (ps:=g.ps) (left:=lf) (i:=i)
  have hp1:=fun (p : Pl) (hp : p ∈ pls g) => p1_start hg (lf:=lf) hp
  have hon:=ofN_len g.ps lf g.ps.length
  have hl2:=hg.l2
  generalize ofN g.ps lf g.ps.length = ixs at ko hmem hp1 hon
  have hsv : (slvN ixs = .e0 ∧ ixs.length = 0) ∨ slvN ixs = .sl ixs.length (nts ixs):=by
   unfold slvN;by_cases h : ixs = [] <;> simp [h]
  have h0 : inv1 g ixs off j lf (qmu g S q off) ⟨0,S,cs,q,inq,G⟩:=⟨Nat.zero_le _,i1,i2,i3,pend_mono i4 fun p hp h => hp1 p hp h.2,Nat.le_refl _⟩
  have main : ∀ (E : Env),restrict [1,2,3,4,5,6,38,39,40] E = env1 H.length j ixs ⟨0,S,cs,q,inq,G⟩ →
    WB ⟨C,lk,H.length,[]⟩ (.loop [1,2,3,4,5,6,38,39,40] t45L1) (BlkE 2 (BlkE 1 (Fol ⟨C,lk,H.length,[]⟩
     (((AC.regN [1,2,3,4,5,6] [⟨some 96,none,.ld1 none (.tmp 6),0,false⟩]).seq
      (AC.regN [1,2,3,4,5,96] [⟨some 6,none,.allocH [(.val (.int .i64 0))],0,false⟩,⟨none,none,.st none 1 (.tmp 6) (.tmp 96),0,false⟩])).seq
      (AC.regN [1,2,3,4,5,6] [⟨some 33,none,.call 69 [(.tmp 5)],0,false⟩,⟨some 32,none,.mv (.tmp 33),0,false⟩,⟨some 34,none,.ext (.tmp 32) 0,0,false⟩,⟨some 35,none,.ext (.tmp 32) 1,0,false⟩,⟨none,none,.st none 1 (.tmp 6) (.tmp 34),0,false⟩,⟨some 7,none,.mv (.tmp 35),0,false⟩]))
     (Rnd [1,2,3,4,5,6,7] (env2 H.length) (fun s => s.heap H g (.sl nf Fc)) (I2 g) (fun s => s.mu g) ⟨S,cs,q,off,inq,G,j,lf,true⟩ Q))))
     E (foH H g (.sl nf Fc) cs (quV (H.length + 5) q off inq) q G):=fun E hE => by
   refine wb_loop (σ:=S1) (env1 H.length j ixs) (fun s => s.heap H g (.sl nf Fc) off) (inv1 g ixs off j lf (qmu g S q off)) (fun s => ixs.length - s.i)
    (fun s hs => l1_round hlk hg k.toKF (by omega) (fun i hi => ((hmem i).1 hi).1) (fun i h hi => by have:=((hmem i).1 hi).2;omega) ?_ s hs) ⟨0,S,cs,q,inq,G⟩ h0 hE rfl
   clear hE E h0
   rintro ⟨i,T,cs1,q1,inq1,G1⟩ e ⟨_,hI⟩ hi he
   simp only at hI hi
   subst hi
   obtain ⟨v1,v2,v3,v4,v5⟩:=hI
   have v4 : Pend g T (q1.drop off) fun _ => False:=pend_mono v4 fun p hp h => by obtain ⟨_,i',h1,h2,_⟩:=h;omega
   have kt:=fun G => k.take lk H.length H cs1 q1 off inq1 G rfl (by omega) (by omega) v1.len v1.ofl (v1.lt16 hg)
   have gG : ∀ n,lk ≤ H.length + 6 + n:=fun n => by omega
   rw [blk_exit,if_pos rfl]
   show WB _ _ _ _ _
   rw [wb_seq,wb_seq,wb_regN,he]
   simp [-wb_true,-wb_false,-wb_regN,-wi_st,S1.heap,fenv,foHG,v3]
   rw [wb_regN]
   simp [-wb_true,-wb_false,-wb_regN,-wi_st,foH_len,foH_app]
   rw [wi_st]
   simp [-wb_true,-wb_false,-wb_regN,-wi_st,foHG,foH_setG,setH,gG,replaceAt]
   rw [wb_regN]
   by_cases ho : off < q1.length
   ·have ti:=take_inv hg v1 ho v4
    simp only [if_pos ho] at kt
    generalize q1.getD off 0 = n at kt ti
    simp [-wb_true,-wb_false,-wb_regN,-wi_st,kt]
    rw [wi_st]
    simp [-wb_true,-wb_false,-wb_regN,-wi_st,foHG,foH_setG,setH,gG,replaceAt]
    rw [rnd_nrm]
    obtain ⟨t1,t2,t3,t4⟩:=ti
    exact ⟨⟨T,cs1,q1,off + 1,inq1.set n false,G1 ++ [.cells [I n]],G1.length,n,true⟩,⟨t1,v2,by simp,pend_mono t2 fun p _ h => ⟨rfl,h⟩,fun _ => t4,fun h => by cases h⟩,
     by show qmu g T q1 (off + 1) + 1 < qmu g S q off + 1;omega,rfl,rfl⟩
   ·simp only [if_neg ho] at kt
    simp [-wb_true,-wb_false,-wb_regN,-wi_st,kt]
    rw [wi_st]
    simp [-wb_true,-wb_false,-wb_regN,-wi_st,foHG,foH_setG,setH,gG,replaceAt]
    rw [rnd_nrm]
    exact ⟨⟨T,cs1,q1,off,inq1,G1 ++ [.cells [I 0]],G1.length,0,false⟩,⟨v1,v2,by simp,pend_mono v4 fun p _ h => h.elim,fun h => (by cases h),fun _ => by show q1.length ≤ off;omega⟩,
     by show qmu g T q1 off + 0 < qmu g S q off + 1;omega,rfl,rfl⟩
  simp [-wb_true,-wb_false,-wb_regN,env2,fenv,S2.heap]
  rw [wb_regN]
  simp [-wb_true,-wb_false,-wb_regN]
  rw [wb_true rfl,wb_skip,fol_nrm,wb_seq,wb_block,wb_seq,wb_regN]
  rcases hsv with ⟨hsv,hlen⟩ | hsv
  all_goals
   rw [hsv] at ko
   simp [-wb_true,-wb_false,-wb_regN,foH0,hcl,ht4,foHG,i3,ko]
   refine main _ ?_
   simp [env1,fenv,hsv,restrict,find]
  omega

theorem frow_len {g : Gm} (hg : GOk g) {l : List (List UInt8)} (h : FOk g l) : ∀ x ∈ l,x.length ≤ 1000000:=fun x hx => by
 have:=(h.row x hx).len
 have:=hg.k2
 omega
theorem kg_all {g : Gm} (hc : chkE g = 0) (hl : g.ps.length ≤ 1000000) (hr : ∀ p ∈ g.ps,p.r.length ≤ 1000000) {Fc : List AV} (hF : SC Fc (setsM g)) (L : Nat) : KG (callW X A) g (.sl Fc.length Fc) L:=by
 have ok:=gok_of hc
 have hso:=sets_ok ok
 refine { back:=fun K M h r hK => back_code hK r,first:=fun K M h r hK hr8 hrs => ?_,cat:=fun K M h va vb a b hK ha hb ra rb => ?_,uni:=fun K M h va vb a b ha hb ra rb => ?_,put:=?_,take:=?_,prods:=fun K M h lf hK => ?_ }
 ·have hb : r.any (badS g) = false:=by
   rw [List.any_eq_false]
   intro s hs
   have:=hrs s hs
   simp only [badS,Bool.or_eq_true,decide_eq_true_eq,not_or]
   omega
  have ho : OfOk g (setsM g) r:=⟨hc,by rw [hso.len];have:=ok.n1;omega,hb⟩
  have:=of23_code (lk:=K) (lim:=M) (H:=h) hK g hl hr hF r (by omega) (by rw [hso.len];have:=ok.n2;omega) fun _ => ⟨fun i => ?_,fun s hs => ?_⟩
  ·rw [if_pos ho] at this
   exact this
  ·have h1:=ofM_ok ok hso (r:=r.take i) fun s hs => (hrs s (List.mem_of_mem_take hs)).1
   have h2:=h1.size ok
   exact ⟨by omega,fun x hx => by have:=h1.len x hx;have:=ok.k2;omega⟩
  ·unfold nxt
   split
   ·simp
   ·have h1:=hso.get (s - g.t).toNat
    have h2:=h1.size ok
    exact ⟨by omega,fun x hx => by have:=h1.len x hx;have:=ok.k2;omega⟩
 ·have h1:=ra.size ok
  have h2:=rb.size ok
  exact cat_code hK g.k ha hb (by omega) (by omega) (fun x hx => by have:=ra.len x hx;have:=ok.k2;omega) (frow_len ok rb)
 ·have h1:=ra.size ok
  have h2:=rb.size ok
  exact union_code ha hb (by omega)
 ·rintro K M H cs q off inq G m rfl hK hM h16 hm ho hq
  rw [qput_code hK hM h16 m hm ho hq]
  unfold putQ
  split <;> rfl
 ·rintro K M H cs q off inq G rfl hK hM h16 ho hm
  exact qtake_code hK hM h16 ho hm
 ·have:=gof_code (lk:=K) (lim:=M) (H:=h) g lf hl hr hK
  unfold gofV at this
  rw [if_pos hc] at this
  exact this
def fol0 (H : Heap) (g : Gm) (F : AV) (cs : List AV) : Heap:=
 H ++ [.cells g.cells,.cells [F],.cells cs,.cells [.hs (H.length + 2) cs.length 0 cs.length 1],.cells (.e0 :: bools (List.replicate 16 false))]
set_option maxRecDepth 20000 in
theorem qput0_code {lk lim : Nat} {H : Heap} {g : Gm} {F : AV} {cs : List AV} (hlk : lk ≤ H.length) (hlim : lim ≤ H.length) :
  callW X A lk lim 68 [.hp (H.length + 4) 17 0,I 0] (fol0 H g F cs) = some (.tup [],foH H g F cs (quV (H.length + 5) [0] 0 (true :: List.replicate 15 false)) [0] []):=by
 refine wb_callB [] rfl A68 rfl rfl ?_
 unfold t68B
 generalize callW X A = C
 have g1 : ∀ m,lk ≤ H.length + m:=fun m => by omega
 have g2 : ∀ m,lim ≤ H.length + m:=fun m => by omega
 have r1 : 8 ≤ room:=by decide
 have e1 : bools (List.replicate 16 false) = [Bo false,Bo false,Bo false,Bo false,Bo false,Bo false,Bo false,Bo false,Bo false,Bo false,Bo false,Bo false,Bo false,Bo false,Bo false,Bo false]:=rfl
 unfold fol0 foH quV
 rw [e1]
 simp [-wb_true,-wb_false,-wb_regN,-wi_st]
 rw [wb_regN]
 simp [-wb_true,-wb_false,-wb_regN,-wi_st]
 rw [wb_true rfl,wb_seq,wb_regN]
 simp [-wb_true,-wb_false,-wb_regN,-wi_st]
 rw [wi_st]
 simp [-wb_true,-wb_false,-wb_regN,-wi_st,setH,g1,g2,replaceAt]
 rw [wb_regN]
 simp [-wb_true,-wb_false,-wb_regN,-wi_st,src_one,r1]
 rw [wi_st]
 simp [-wb_true,-wb_false,-wb_regN,-wi_st,setH,g1,g2,replaceAt]
 exact ⟨rfl,rfl⟩
set_option maxRecDepth 20000 in
set_option maxHeartbeats 2000000 in
theorem fsets_code {lk lim : Nat} {H : Heap} (hlk : lk ≤ H.length) (g : Gm) (hl : g.ps.length ≤ 1000000) (hr : ∀ p ∈ g.ps,p.r.length ≤ 1000000) :
  ∃ v h',callW X A lk lim 45 [gV g] H = some (v,h') ∧ h' = H ∧ if chkE g = 0 then ∃ cs,v = .sl cs.length cs ∧ SC cs (folM g) else v = .e0:=by
 have kc:=fun (M : Nat) (h : Heap) => check_code (lk:=lk) (lim:=M) (H:=h) g hl hr
 refine wb_callX [] rfl A45 rfl rfl ?_
 unfold t45B
 have hcl : (g.cells).length = 4:=rfl
 have ht4 : List.take 4 g.cells = g.cells:=rfl
 have ht5 : [I g.t,I g.n,I g.k,.sl g.ps.length (psC g.ps)] = g.cells:=rfl
 by_cases hc : chkE g = 0
 case neg =>
  generalize chkE g = e at kc hc ⊢
  have h3 : (e != 0) = true:=by simpa using hc
  have kc1:=fun M => kc M (H ++ [.cells g.cells])
  generalize callW X A = C at kc1 ⊢
  simp [-wb_true,-wb_false,-wb_regN]
  rw [wb_regN]
  simp [-wb_true,-wb_false,-wb_regN,hcl]
  rw [wb_regN]
  simp [-wb_true,-wb_false,-wb_regN,hcl,ht4,kc1,h3]
  rw [wb_true rfl]
  simp [finX_ret,hc]
  exact ⟨.e0,H,⟨rfl,rfl⟩,rfl,rfl⟩
 have ok:=gok_of hc
 simp only [hc,if_true]
 rw [hc] at kc
 have hn1:=ok.n1
 have hn2:=ok.n2
 obtain ⟨n,hn⟩ : ∃ n : Nat,g.n = (n : Int):=Int.eq_ofNat_of_zero_le (by omega)
 have kF:=fun (M : Nat) (h : Heap) (hh : lk ≤ h.length) => sets_code (lk:=lk) (lim:=M) (H:=h) hh g hl hr
 have kc1:=fun M => kc M (H ++ [.cells g.cells])
 have hc1 : ∀ h : 1 < g.cells.length,(g.cells)[1] = I n:=fun _ => by rw [← hn];rfl
 have hro : n * 24 ≤ room:=by unfold room;omega
 have g1 : ∀ m,lk ≤ H.length + m:=fun m => by omega
 simp only [hc,if_true] at kF
 obtain ⟨v,h',kf,rfl,Fc,rfl,hF⟩:=kF H.length (H ++ [.cells g.cells]) (by simp;omega)
 obtain ⟨inq0,hq0⟩ : ∃ x,x = true :: List.replicate 15 false:=⟨_,rfl⟩
 have kk:=kg_all hc hl hr hF H.length
 have kp0:=fun cs => qput0_code (lk:=lk) (lim:=H.length) (H:=H) (g:=g) (F:=.sl Fc.length Fc) (cs:=cs) hlk (Nat.le_refl _)
 rw [← hq0] at kp0
 generalize callW X A = C at kc1 kf kp0 kk ⊢
 simp [-wb_true,-wb_false,-wb_regN]
 rw [wb_regN]
 simp [-wb_true,-wb_false,-wb_regN,hcl]
 rw [wb_regN]
 simp [-wb_true,-wb_false,-wb_regN,hcl,ht4,kc1]
 rw [wb_false rfl,wb_skip,fol_nrm,wb_seq,wb_regN]
 simp [-wb_true,-wb_false,-wb_regN,-wi_st,hcl,ht4,kf]
 rw [wi_st]
 simp [-wb_true,-wb_false,-wb_regN,-wi_st,setH,g1,replaceAt]
 rw [wb_regN]
 simp [-wb_true,-wb_false,-wb_regN,-wi_st,-wi_mks,hcl,hc1]
 rw [wi_mks,mk_mks (l:=.tmp 21) (z:=[.e0]) (es:=1) (n:=n) rfl rfl hro]
 simp [-wb_true,-wb_false,-wb_regN,-wi_st]
 rw [wi_st]
 simp [-wb_true,-wb_false,-wb_regN,-wi_st,setH,g1,replaceAt]
 rw [wb_regN]
 have hn0 : 0 < n:=by omega
 have hS0:=sc_set (sc_start n) (j:=0) (v:=rowsV [[255]]) (l:=[[255]]) (.inl rfl)
 have hset : (repl n [AV.e0]).set 0 (rowsV [[255]]) = replaceAt (repl n [AV.e0]) 0 [.sl 1 [Sg [255]]]:=by
  obtain ⟨m,rfl⟩ : ∃ m,n = m + 1:=⟨n - 1,by omega⟩
  have : repl (m + 1) [AV.e0] = .e0 :: repl m [AV.e0]:=rfl
  rw [this]
  simp [replaceAt]
  rfl
 have hst0 : startF g = (List.replicate n []).set 0 [[255]]:=by unfold startF;rw [hn,Int.toNat_natCast]
 rw [hset,← hst0] at hS0
 have hrl : (repl n [AV.e0]).length = n:=by simp [repl]
 have hn1' : 1 ≤ n:=hn0
 simp [-wb_true,-wb_false,-wb_regN,-wi_st,hn0]
 rw [wi_st]
 have hcl0:=hS0.1
 have hstl : (startF g).length = n:=by rw [(TOk.start ok).len,hn];rfl
 rw [hstl] at hcl0
 have hsg : AV.sl 1 [AV.val (.string ⟨#[255]⟩)] = .sl 1 [Sg [255]]:=rfl
 simp [-wb_true,-wb_false,-wb_regN,-wi_st,setH,g1,hsg,hrl,hn1']
 generalize replaceAt (repl n [AV.e0]) 0 [.sl 1 [Sg [255]]] = cs at *
 rw [wb_regN]
 simp [-wb_true,-wb_false,-wb_regN,-wi_st]
 rw [wb_regN]
 have hf0 : H ++ [HB.cells g.cells,.cells [.sl Fc.length Fc],.cells cs,.cells [.hs (H.length + 2) n 0 n 1],.cells [.e0,.val (.bool false),.val (.bool false),.val (.bool false),.val (.bool false),.val (.bool false),.val (.bool false),.val (.bool false),.val (.bool false),.val (.bool false),.val (.bool false),.val (.bool false),.val (.bool false),.val (.bool false),.val (.bool false),.val (.bool false),.val (.bool false)]] = fol0 H g (.sl Fc.length Fc) cs:=by
  unfold fol0;rw [hcl0];rfl
 rw [hf0]
 simp [-wb_true,-wb_false,-wb_regN,-wi_st,kp0]
 rw [wb_regN]
 have st:=start_inv ok
 rw [← hq0] at st
 have ti:=take_inv ok st.1 (by simp) st.2
 have kt:=kk.take lk H.length H cs [0] 0 inq0 [] rfl (by omega) (by omega) st.1.len (by simp) (st.1.lt16 ok)
 rw [if_pos (by simp),if_pos (by simp)] at kt
 have e0 : ([0] : List Nat).getD 0 0 = 0:=rfl
 rw [e0] at kt ti
 have gG : ∀ n,lk ≤ H.length + 6 + n:=fun n => by omega
 have gG0 : lk ≤ H.length + 6:=gG 0
 have hG0:=fun (cs qv : List AV) (q : List Nat) (G : Heap) => foHG (H:=H) (g:=g) (F:=.sl Fc.length Fc) (cs:=cs) (qv:=qv) (q:=q) (G:=G) 0
 have hS0':=fun (cs qv : List AV) (q : List Nat) (G : Heap) (x : HB) => foH_setG (H:=H) (g:=g) (F:=.sl Fc.length Fc) (cs:=cs) (qv:=qv) (q:=q) (G:=G) 0 x
 simp only [Nat.add_zero] at hG0 hS0'
 simp [-wb_true,-wb_false,-wb_regN,-wi_st,kt,foH_app,foH_len]
 rw [wi_st]
 simp [-wb_true,-wb_false,-wb_regN,-wi_st,hG0,hS0',setH,gG0,replaceAt]
 refine wb_loop (σ:=S2) (env2 H.length) (fun s => s.heap H g (.sl Fc.length Fc)) (I2 g) (fun s => s.mu g) (fun s hs => l2_round hlk ok kk ?_ s hs) ⟨startF g,cs,[0],1,inq0.set 0 false,[.cells [I 0]],0,0,true⟩ ?_ ?_ ?_
 ·intro s e hI hns he
  obtain ⟨S,ds,q,off,inq,G,j,lf,is⟩:=s
  obtain ⟨v1,v2,v3,v4,v5,v6⟩:=hI
  simp only at v1 v2 v3 v4 v5 v6 hns
  subst hns
  have hfin:=done_inv ok v1 (v6 rfl) (pend_mono v4 fun p _ h => by cases h.1)
  subst hfin
  have hz:=sc_frz H.length (foH H g (.sl Fc.length Fc) ds (quV (H.length + 5) q off inq) q G) 6 v2
  rw [blk_exit,if_pos rfl]
  show WB _ _ _ _ _
  rw [wb_seq,wb_regN,he]
  simp [-wb_true,-wb_false,S2.heap,foH3,foH2,finX_ret,hz]
  rw [if_neg (by omega)]
  have hta : List.take H.length (foH H g (.sl Fc.length Fc) ds (quV (H.length + 5) q off inq) q G) = H:=by unfold foH;exact Hm.take_at _ _
  have hbe : Hm.below H.length (.sl ds.length ds) = true:=by simp [Hm.below]
  simp only [hbe,hta,if_true]
  exact ⟨_,_,rfl,rfl,ds,rfl,v2⟩
 ·exact ⟨ti.1,hS0,rfl,pend_mono ti.2.1 fun p _ h => ⟨rfl,h⟩,fun _ => ti.2.2.2,fun h => by cases h⟩
 ·rfl
 ·rfl
end Go.Proofs.YtgbpioccaenjaaaGreat
