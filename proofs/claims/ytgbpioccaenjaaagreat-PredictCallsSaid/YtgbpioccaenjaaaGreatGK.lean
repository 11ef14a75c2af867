import Derived.Test.YtgbpioccaenjaaaGreatGG
import Derived.Test.YtgbpioccaenjaaaGreatGJ
set_option linter.unusedSimpArgs false
set_option linter.unusedVariables false
namespace Go.Proofs.YtgbpioccaenjaaaGreat
open Go Go.Hm

structure KR (C : Orc) (g : Gm) (F : AV) : Prop where
 first : ∀ K M (h : Heap) (r : List Int),K ≤ h.length → r.length ≤ 8 → (∀ x ∈ r,0 ≤ x ∧ x < g.t + g.n) → C K M 53 [gV g,F,.sl r.length (ints r)] h = some (rV (ofM g (setsM g) r),h)
 cat : ∀ K M (h : Heap) va vb a b,K ≤ h.length → RV va a → RV vb b → ROk g a → FOk g b → C K M 52 [I g.k,va,vb] h = some (rV (cat g.k.toNat a b),h)
 uni : ∀ K M (h : Heap) va vb a b,K ≤ h.length → RV va a → RV vb b → FOk g a → FOk g b → C K M 76 [va,vb] h = some (rV (uni a b),h)
theorem kr_all {g : Gm} (hc : chkE g = 0) (hl : g.ps.length ≤ 1000000) (hr : ∀ p ∈ g.ps,p.r.length ≤ 1000000) {Fc : List AV} (hF : SC Fc (setsM g)) : KR (callW X A) g (.sl Fc.length Fc):=by
 have ok:=gok_of hc
 have hso:=sets_ok ok
 refine { first:=fun K M h r hK hr8 hrs => ?_,cat:=fun K M h va vb a b hK ha hb ra rb => ?_,uni:=fun K M h va vb a b hK ha hb ra rb => ?_ }
 ·have hb : r.any (badS g) = false:=by
   rw [List.any_eq_false]
   intro s hs
   have:=hrs s hs
   simp only [badS,Bool.or_eq_true,decide_eq_true_eq,not_or]
   omega
  have ho : OfOk g (setsM g) r:=⟨hc,by rw [hso.len];have:=ok.n1;omega,hb⟩
  have:=of33_code (lk:=K) (lim:=M) (H:=h) hK g hl hr hF r (by omega) (by rw [hso.len];have:=ok.n2;omega) fun _ => ⟨fun i => ?_,fun s hs => ?_⟩
  ·rw [if_pos ho] at this
   exact this
  ·have h1:=ofM_ok ok hso (r:=r.take i) fun s hs => (hrs s (List.mem_of_mem_take hs)).1
   have h2:=h1.size ok
   exact ⟨by omega,fun x hx => by have:=h1.len x hx;have:=ok.k2;omega⟩
  ·unfold nxt
   split
   ·simp
   ·have h1:=hso.get (s - g.t).toNat
    have h2:=h1.size ok
    exact ⟨by omega,fun x hx => by have:=h1.len x hx;have:=ok.k2;omega⟩
 ·have h1:=ra.size ok
  have h2:=rb.size ok
  exact cat2_code hK g.k ha hb (by omega) (by omega) (fun x hx => by have:=ra.len x hx;have:=ok.k2;omega) (frow_len ok rb)
 ·have h1:=ra.size ok
  have h2:=rb.size ok
  exact union2_code hK ha hb (by omega) (by omega)
structure T1 where
 k : Nat
 S : Ss
 cs : List AV
 more : Bool
structure J1 (g : Gm) (S0 : Ss) (rest : List Pl) (R : Ss) (S : Ss) (cs : List AV) (more : Bool) : Prop where
 ok : TOk g S
 sc : SC cs S
 rem : rest.foldl (stF g (setsM g)) S = R
 more : (more = false ∧ S = S0) ∨ (more = true ∧ szS S0 < szS S)
def jenv (H : Heap) (g : Gm) (nf : Nat) (Fc : List AV) (n : Nat) (more : Bool) (t : Env) : Env:=(1,.box g.cells) :: (3,.sl nf Fc) :: (4,.hs H.length n 0 n 1) :: (5,Bo more) :: t
def env26 (H : Heap) (g : Gm) (nf : Nat) (Fc : List AV) (n i : Nat) (p : Pr) (s : T1) : Env:=jenv H g nf Fc n s.more [(6,I i),(7,.box p.cells),(8,I s.k)]
def kenv (H : Heap) (g : Gm) (nf : Nat) (Fc : List AV) (n : Nat) (more : Bool) (i j : Nat) (p : Pr) (t : Env) : Env:=jenv H g nf Fc n more ((6,I i) :: (7,.box [I p.l,.sl p.r.length (ints p.r)]) :: (8,I j) :: t)
set_option maxRecDepth 20000 in
theorem r26_1 {C : Orc} {lk : Nat} {H : Heap} (hlk : lk ≤ H.length) {g : Gm} {nf : Nat} {Fc : List AV} {p : Pr} (pok : POk g p) {more : Bool} {n i j m : Nat} {cs : List AV} {Q : Ex → Kt} {E : Env} {sf : List Int} {ov : AV} {o : List (List UInt8)} (hjl : j < p.r.length)
  (hE : restrict [1,3,4,5,6,7,8,9] E = kenv H g nf Fc n more i j p [(9,I m)]) (hsf : p.r.drop (j + 1) = sf) (hov : RV ov o)
  (kf : ∀ K M,K ≤ H.length + 1 → C K M 53 [gV g,.sl nf Fc,.sl sf.length (ints sf)] (H ++ [.cells cs]) = some (ov,H ++ [.cells cs]))
  (hQ : ∀ E',restrict [1,3,4,5,6,7,8,9,10] E' = kenv H g nf Fc n more i j p [(9,I m),(10,ov)] → Q .nrm E' (H ++ [.cells cs])) :
  WB ⟨C,lk,H.length,[1,7]⟩ (AC.regD [1,3,4,5,6,7,8,9] 0
   [{ dst:=some 55,grd:=none,op:=AOp.ldA (some 1) 4 (AO.tmp 1) },
    { dst:=some 56,grd:=none,op:=AOp.mv (AO.tmp 3) },
    { dst:=some 57,grd:=none,op:=AOp.fldA 1 (AO.tmp 7) },
    { dst:=some 58,grd:=none,op:=AOp.ld1 (some 7) (AO.tmp 57) },
    { dst:=some 59,grd:=none,op:=AOp.mv (AO.tmp 8) },
    { dst:=some 60,grd:=none,op:=AOp.bini BinOp.add (AO.tmp 59) (AO.con (AV.val (Value.int IntKind.i64 1))) },
    { dst:=some 61,grd:=none,op:=AOp.slC 1 (AO.tmp 58) (some (AO.tmp 60)) none },
    { dst:=some 62,grd:=none,op:=AOp.call 53 [AO.tmp 55,AO.tmp 56,AO.tmp 61],fl:=true },
    { dst:=some 10,grd:=none,op:=AOp.mv (AO.tmp 62) }]) Q E (H ++ [.cells cs]):=by
 have w2 : IntKind.i64.wrap ((j : Int) + 1) = (j : Int) + 1:=by have:=pok.len;exact wrap64 (by omega) (by omega)
 have hjr : (j : Int) + 1 ≤ p.r.length:=by omega
 have hj0 : (0 : Int) ≤ (j : Int) + 1:=by omega
 have hsl2 : AV.sl (p.r.length - (j + 1)) (List.take (p.r.length - (j + 1)) (List.drop (j + 1) (ints p.r))) = .sl sf.length (ints sf):=by
  rw [← hsf,List.length_drop,List.take_of_length_le (by simp)];simp [ints,List.map_drop]
 have hcl : (g.cells).length = 4:=rfl
 have ht4 : List.take 4 g.cells = g.cells:=rfl
 have hbg : ∀ X,belowL X g.cells = true:=fun X => by simp [Gm.cells,belowL,Hm.below]
 have hK1 : lk ≤ H.length + 1:=by omega
 rw [wb_regD rfl,hE]
 unfold kenv jenv
 unfold kenv jenv at hQ
 rcases rv_noRp hov with rfl | rfl
 all_goals
  simp [hcl,ht4,hbg,w2,bnd,hjr,hj0,hsl2,kf,hK1]
  exact hQ _ rfl
set_option maxRecDepth 20000 in
theorem r26_2 {C : Orc} {lk : Nat} {H : Heap} (hlk : lk ≤ H.length) {g : Gm} {nf : Nat} {Fc : List AV} {p : Pr} {more : Bool} {n i j m l : Nat} {cs : List AV} {Q : Ex → Kt} {E : Env} {ov vm vl cv uv : AV} {o Sm Sl c u : List (List UInt8)} (hl : p.l = (l : Int))
  (hE : restrict [1,3,4,5,6,7,8,9,10] E = kenv H g nf Fc n more i j p [(9,I m),(10,ov)]) (hov : RV ov o) (hcv : RV cv c) (huv : RV uv u) (hcn : cs.length = n) (hm : m < n) (hln : l < n)
  (hvm : cs[m]? = some vm) (hrm : RV vm Sm) (hvl : cs[l]? = some vl) (hrl : RV vl Sl)
  (kc : ∀ K M,K ≤ H.length + 1 → C K M 52 [I g.k,ov,vl] (H ++ [.cells cs]) = some (cv,H ++ [.cells cs]))
  (ku : ∀ K M,K ≤ H.length + 1 → C K M 76 [vm,cv] (H ++ [.cells cs]) = some (uv,H ++ [.cells cs]))
  (hQ : ∀ E',restrict [1,3,4,5,6,7,8,9,11] E' = kenv H g nf Fc n more i j p [(9,I m),(11,uv)] → Q .nrm E' (H ++ [.cells cs])) :
  WB ⟨C,lk,H.length,[1,7]⟩ (AC.regD [1,3,4,5,6,7,8,9,10] 0
   [⟨some 63,none,.mv (.tmp 4),0,false⟩,⟨some 64,none,.mv (.tmp 9),0,false⟩,⟨some 65,none,.ixA 1 (.tmp 63) (.tmp 64),0,false⟩,⟨some 66,none,.ld1 none (.tmp 65),0,false⟩,⟨some 67,none,.fldA 2 (.tmp 1),0,false⟩,⟨some 68,none,.ld1 (some 1) (.tmp 67),0,false⟩,⟨some 69,none,.mv (.tmp 10),0,false⟩,⟨some 70,none,.mv (.tmp 4),0,false⟩,⟨some 71,none,.fldA 0 (.tmp 7),0,false⟩,⟨some 72,none,.ld1 (some 7) (.tmp 71),0,false⟩,⟨some 73,none,.ixA 1 (.tmp 70) (.tmp 72),0,false⟩,⟨some 74,none,.ld1 none (.tmp 73),0,false⟩,⟨some 75,none,.call 52 [(.tmp 68),(.tmp 69),(.tmp 74)],0,false⟩,⟨some 76,none,.call 76 [(.tmp 66),(.tmp 75)],0,true⟩,⟨some 11,none,.mv (.tmp 76),0,false⟩]) Q E (H ++ [.cells cs]):=by
 have hc2 : ∀ h : 2 < g.cells.length,(g.cells)[2] = I g.k:=fun _ => rfl
 have hcl : (g.cells).length = 4:=rfl
 have hvmE : ∀ h,cs[m]'h = vm:=fun h => by rw [List.getElem?_eq_getElem h] at hvm;simpa using hvm
 have hvlE : ∀ h,cs[l]'h = vl:=fun h => by rw [List.getElem?_eq_getElem h] at hvl;simpa using hvl
 have hK1 : lk ≤ H.length + 1:=by omega
 rw [wb_regD rfl,hE]
 unfold kenv jenv
 unfold kenv jenv at hQ
 rw [hl] at hQ ⊢
 rcases rv_noRp hov with rfl | rfl <;> rcases rv_noRp hrm with rfl | rfl <;> rcases rv_noRp hrl with rfl | rfl <;> rcases rv_noRp hcv with rfl | rfl <;> rcases rv_noRp huv with rfl | rfl
 all_goals
  simp [hcl,hc2,hcn,hm,hln,hvm,hvmE,hvl,hvlE,kc,ku,hK1]
  exact hQ _ rfl
set_option maxRecDepth 20000 in
theorem r26_3 {C : Orc} {lk : Nat} {H : Heap} (hlk : lk ≤ H.length) {g : Gm} {nf : Nat} {Fc : List AV} {p : Pr} {more : Bool} {n i j m : Nat} {cs : List AV} {Q : Ex → Kt} {E : Env} {vm uv : AV} {Sm u : List (List UInt8)}
  (hE : restrict [1,3,4,5,6,7,8,9,11] E = kenv H g nf Fc n more i j p [(9,I m),(11,uv)]) (huv : RV uv u) (hcn : cs.length = n) (hm : m < n)
  (hvm : cs[m]? = some vm) (hrm : RV vm Sm)
  (hQ : ∀ E',restrict [1,3,4,5,6,7,8] E' = kenv H g nf Fc n (more || decide (Sm.length < u.length)) i j p [] → Q .nrm E' (H ++ [.cells (cs.set m uv)])) :
  WB ⟨C,lk,H.length,[1,7]⟩ (.seq (.regN [1,3,4,5,6,7,8,9,11] [⟨some 77,none,.mv (.tmp 5),0,false⟩,⟨some 78,none,.mv (.tmp 77),0,false⟩,⟨some 79,some (78,false),.mv (.tmp 11),0,false⟩,⟨some 80,some (78,false),.len false (.tmp 79),0,false⟩,⟨some 81,some (78,false),.mv (.tmp 4),0,false⟩,⟨some 82,some (78,false),.mv (.tmp 9),0,false⟩,⟨some 83,some (78,false),.ixA 1 (.tmp 81) (.tmp 82),0,false⟩,⟨some 84,some (78,false),.ld1 none (.tmp 83),0,false⟩,⟨some 85,some (78,false),.len false (.tmp 84),0,false⟩,⟨some 86,some (78,false),.bini .gtr (.tmp 80) (.tmp 85),0,false⟩,⟨some 87,none,.pick (.tmp 78) (.con (.val (.bool true))) (.tmp 86),0,false⟩,⟨some 5,none,.mv (.tmp 87),0,false⟩])
   (.regN [1,3,4,5,6,7,8,9,11] [⟨some 88,none,.mv (.tmp 4),0,false⟩,⟨some 89,none,.mv (.tmp 9),0,false⟩,⟨some 90,none,.mv (.tmp 11),0,false⟩,⟨some 91,none,.ixA 1 (.tmp 88) (.tmp 89),0,false⟩,⟨none,none,.st none 1 (.tmp 91) (.tmp 90),0,false⟩])) Q E (H ++ [.cells cs]):=by
 have hvmE : ∀ h,cs[m]'h = vm:=fun h => by rw [List.getElem?_eq_getElem h] at hvm;simpa using hvm
 have hmc : m < cs.length:=by omega
 have hm1 : m + 1 ≤ n:=hm
 have hset : List.take m cs ++ uv :: List.drop (m + 1) cs = cs.set m uv:=by rw [List.set_eq_take_append_cons_drop,if_pos hmc]
 have hsh : setH lk H.length 0 (H ++ [.cells cs]) H.length (cs.set m uv) [uv] = some (H ++ [.cells (cs.set m uv)]):=by
  unfold setH
  rw [if_pos ⟨hlk,.inl (Nat.le_refl _),.inl (Nat.zero_le _)⟩,set_app]
 rw [wb_seq,wb_regN,hE]
 unfold kenv jenv
 unfold kenv jenv at hQ
 cases more with
 | true =>
  rcases rv_noRp huv with rfl | rfl
  all_goals
   simp [-wb_regN,-wi_st]
   rw [wb_regN]
   simp [-wi_st,hm]
   rw [wi_st]
   simp [-wi_st,hcn,hm1,replaceAt,hset,hsh]
   exact hQ _ rfl
 | false =>
  rcases huv with rfl | ⟨rfl,rfl⟩ <;> rcases hrm with rfl | ⟨rfl,rfl⟩
  all_goals
   simp [-wb_regN,-wi_st,hm,hcn,hvm,hvmE]
   rw [wb_regN]
   simp [-wi_st,hm]
   rw [wi_st]
   simp [-wi_st,hcn,hm1,replaceAt,hset,hsh]
   refine hQ _ ?_
   simp
set_option maxRecDepth 20000 in
set_option maxHeartbeats 2000000 in
theorem l26_1 {C : Orc} {lk : Nat} {H : Heap} (hlk : lk ≤ H.length) {g : Gm} (hg : GOk g) {nf : Nat} {Fc : List AV} (k : KR C g (.sl nf Fc)) {S0 R : Ss} {p : Pr} (hp : p ∈ g.ps) {n i : Nat} (hn : g.n.toNat = n) {Q : Ex → Kt}
  (hQ : ∀ s : T1,∀ e,J1 g S0 [] R s.S s.cs s.more → restrict [1,3,4,5,6] e = jenv H g nf Fc n s.more [(6,I i)] → Q (.exit 4) e (H ++ [.cells s.cs])) (s : T1) (hs : s.k ≤ p.r.length ∧ J1 g S0 (plsR g.t p.l.toNat (p.r.drop s.k)) R s.S s.cs s.more) :
  WB ⟨C,lk,H.length,[1,7]⟩ t51L1 (Rnd [1,3,4,5,6,7,8] (env26 H g nf Fc n i p) (fun s => H ++ [.cells s.cs]) (fun s => s.k ≤ p.r.length ∧ J1 g S0 (plsR g.t p.l.toNat (p.r.drop s.k)) R s.S s.cs s.more) (fun s => p.r.length - s.k) s Q) (env26 H g nf Fc n i p s) (H ++ [.cells s.cs]):=by
 have hQ2:=hQ s
 obtain ⟨j,S,cs,more⟩:=s
 obtain ⟨hj,hJ⟩:=hs
 simp only at hj hJ hQ2
 have pok:=hg.p p hp
 unfold t51L1
 by_cases hjl : j < p.r.length
 case neg =>
  obtain rfl : j = p.r.length:=by omega
  rw [List.drop_length] at hJ
  simp [-wb_true,-wb_false,-wb_regN,env26,jenv,Pr.cells]
  rw [wb_regN]
  simp [-wb_true,-wb_false]
  rw [wb_false rfl]
  simp
  exact hQ2 _ hJ rfl
 have hjl2 : (j : Int) < p.r.length:=by omega
 obtain ⟨sy,hsy⟩ : ∃ sy,p.r[j] = sy:=⟨_,rfl⟩
 have hq2 : p.r[j]? = some sy:=by rw [List.getElem?_eq_getElem hjl,hsy]
 have hsok:=pok.s sy (hsy ▸ List.getElem_mem hjl)
 have hd:=List.drop_eq_getElem_cons hjl
 rw [hsy] at hd
 have hc0 : ∀ h : 0 < g.cells.length,(g.cells)[0] = I g.t:=fun _ => rfl
 have hc2 : ∀ h : 2 < g.cells.length,(g.cells)[2] = I g.k:=fun _ => rfl
 have hcl : (g.cells).length = 4:=rfl
 have ht4 : List.take 4 g.cells = g.cells:=rfl
 have hwr : IntKind.i64.wrap (sy - g.t) = sy - g.t:=by have:=hg.t1;have:=hg.t2;have:=hg.n1;have:=hg.n2;exact wrap64 (by omega) (by omega)
 have w2 : IntKind.i64.wrap ((j : Int) + 1) = (j : Int) + 1:=by have:=pok.len;exact wrap64 (by omega) (by omega)
 simp [-wi_st,-wb_regN,-wb_regD,-wb_true,-wb_false,env26,jenv,Pr.cells]
 rw [wb_regN]
 simp [-wi_st,-wb_regN,-wb_regD,-wb_true,-wb_false,hjl2]
 rw [wb_true rfl,wb_skip,fol_nrm,wb_seq,wb_block,wb_seq,wb_regD rfl]
 simp [-wi_st,-wb_regN,-wb_regD,-wb_true,-wb_false,hjl,hq2,hsy,hc0,hcl,hwr]
 rw [wb_regN]
 simp [-wi_st,-wb_regN,-wb_regD,-wb_true,-wb_false]
 by_cases hst : sy - g.t < 0
 ·rw [decide_eq_true hst,wb_true rfl]
  simp [w2]
  rw [rnd_nrm]
  refine ⟨⟨j + 1,S,cs,more⟩,⟨hjl,hJ.ok,hJ.sc,?_,hJ.more⟩,by show p.r.length - (j + 1) < p.r.length - j;omega,rfl,rfl⟩
  rw [← hJ.rem,hd,plsR,if_pos (by omega)]
 obtain ⟨m,hm⟩ : ∃ m : Nat,sy - g.t = (m : Int):=Int.eq_ofNat_of_zero_le (by omega)
 obtain ⟨l,hlE⟩ : ∃ l : Nat,p.l = (l : Int):=Int.eq_ofNat_of_zero_le pok.l0
 have hlt : p.l.toNat = l:=by omega
 have hcn : cs.length = n:=by rw [hJ.sc.1,hJ.ok.len,hn]
 have hmn : m < n:=by omega
 have hln : l < n:=by have:=pok.l1;omega
 obtain ⟨sf,hsf⟩ : ∃ sf,p.r.drop (j + 1) = sf:=⟨_,rfl⟩
 have hsfs : ∀ x ∈ sf,0 ≤ x ∧ x < g.t + g.n:=fun x hx => pok.s x (by rw [← hsf] at hx;exact List.mem_of_mem_drop hx)
 have hsf8 : sf.length ≤ 8:=by rw [← hsf,List.length_drop];have:=pok.len;omega
 obtain ⟨vm,hvm,hrm⟩:=hJ.sc.get (j:=m) (by rw [← hJ.sc.1,hcn];exact hmn)
 obtain ⟨vl,hvl,hrl⟩:=hJ.sc.get (j:=l) (by rw [← hJ.sc.1,hcn];exact hln)
 have hofok:=ofM_ok hg (sets_ok hg) (r:=sf) fun x hx => (hsfs x hx).1
 have hov:=rV_rv (ofM g (setsM g) sf)
 have hcv:=rV_rv (cat g.k.toNat (ofM g (setsM g) sf) (S.getD l []))
 have huv:=rV_rv (uni (S.getD m []) (cat g.k.toNat (ofM g (setsM g) sf) (S.getD l [])))
 have kf:=fun (K M : Nat) (hK : K ≤ H.length + 1) => k.first K M (H ++ [.cells cs]) sf (by simpa using hK) hsf8 hsfs
 have kc:=fun (K M : Nat) (hK : K ≤ H.length + 1) => k.cat K M (H ++ [.cells cs]) _ _ _ _ (by simpa using hK) hov hrl hofok (hJ.ok.get l)
 have ku:=fun (K M : Nat) (hK : K ≤ H.length + 1) => k.uni K M (H ++ [.cells cs]) _ _ _ _ (by simpa using hK) hrm hcv (hJ.ok.get m) (cat_fok hg hofok (hJ.ok.get l))
 have hplm : (⟨l,m,sf⟩ : Pl) ∈ pls g:=by
  have:=place_at hp hlt hjl (by rw [hsy];omega)
  rw [hsy,hsf,hm] at this
  exact this
 have pk:=pls_ok hg _ hplm
 have hnew : J1 g S0 (plsR g.t p.l.toNat (p.r.drop (j + 1))) R (stF g (setsM g) S ⟨l,m,sf⟩) (cs.set m (rV (uni (S.getD m []) (cat g.k.toNat (ofM g (setsM g) sf) (S.getD l []))))) (more || decide ((S.getD m []).length < (uni (S.getD m []) (cat g.k.toNat (ofM g (setsM g) sf) (S.getD l []))).length)):=by
  refine ⟨stF_ok hg (sets_ok hg) hJ.ok pk,sc_set hJ.sc huv,?_,?_⟩
  ·rw [← hJ.rem,hd,plsR,if_neg (by omega),List.foldl_cons,hm,hsf,hlt,Int.toNat_natCast]
  ·have hup:=stF_up (F:=setsM g) hJ.ok pk
   dsimp only at hup
   by_cases hgr : (S.getD m []).length < (uni (S.getD m []) (cat g.k.toNat (ofM g (setsM g) sf) (S.getD l []))).length
   ·have h3 : szS S < szS (stF g (setsM g) S ⟨l,m,sf⟩):=by
     rcases hup.1 with e | e
     ·exact absurd (hup.2.1 e) (by omega)
     ·exact e
    refine .inr ⟨by simp only [decide_eq_true hgr,Bool.or_true],?_⟩
    rcases hJ.more with ⟨_,e⟩ | ⟨_,e⟩
    ·rw [← e];exact h3
    ·omega
   ·rw [hup.2.2 (by omega),decide_eq_false hgr,Bool.or_false]
    exact hJ.more
 rw [decide_eq_false hst,wb_false rfl,wb_skip,fol_nrm,wb_seq]
 refine r26_1 (more:=more) (n:=n) (i:=i) (m:=m) hlk pok hjl (by rw [hm];rfl) hsf hov kf ?_
 intro E1 hE1
 rw [fol_nrm,wb_seq]
 refine r26_2 hlk hlE hE1 hov hcv huv hcn hmn hln hvm hrm hvl hrl kc ku ?_
 intro E2 hE2
 rw [fol_nrm]
 refine r26_3 hlk hE2 huv hcn hmn hvm hrm ?_
 intro E3 hE3
 generalize cs.set m (rV (uni (S.getD m []) (cat g.k.toNat (ofM g (setsM g) sf) (S.getD l [])))) = cs2 at *
 generalize (more || decide ((S.getD m []).length < (uni (S.getD m []) (cat g.k.toNat (ofM g (setsM g) sf) (S.getD l []))).length)) = more2 at *
 generalize stF g (setsM g) S ⟨l,m,sf⟩ = S2 at *
 show WB _ _ _ _ _
 rw [wb_regN,hE3]
 simp [kenv,jenv,w2]
 rw [rnd_nrm]
 exact ⟨⟨j + 1,S2,cs2,more2⟩,⟨hjl,hnew⟩,by show p.r.length - (j + 1) < p.r.length - j;omega,rfl,rfl⟩
end Go.Proofs.YtgbpioccaenjaaaGreat
