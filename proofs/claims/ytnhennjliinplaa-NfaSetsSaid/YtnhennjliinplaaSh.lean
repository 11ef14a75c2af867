/- Step, Rule of a set that lies in memory. -/
import Derived.Test.YtnhennjliinplaaXb
set_option linter.all false
namespace Go.Proofs.Ytnhennjliinplaa
open Go Go.Hm
set_option maxRecDepth 20000 in
theorem rule_h {lk lim b : Nat} {H : Heap} {cv nv rv : AV} {rl set : List Int} (hr : RowI rv rl) (hs : H[b]? = some (.cells (ints set))) (hok : argOk cv = true ∧ argOk nv = true) (hn : set.length ≤ 1000000) :
  callW X A lk lim 43 [.agg [cv,nv,rv],.hs b set.length 0 set.length 1] H = some (I (ruleM rl set),H):=by
 have hX : X lk lim 43 [.agg [cv,nv,rv],.hs b set.length 0 set.length 1] H = none:=noX1 (by decide) (by decide) (by decide)
 refine wb_callB [2] hX A43 rfl (by rcases hr with ⟨rfl,_⟩ | rfl <;> simp [argOk]) ?_
 generalize callW X A = C
 have hfin : ∀ out,out = ruleM rl set → ∀ env,find env 5 = I out → WB ⟨C,lk,H.length,[2]⟩ (.seq (.regN [5] [kM 42 5,kM 4 42]) .ret) (FinT [.tmp 4] true H (I (ruleM rl set),H)) env H:=by
  intro out ho env h5
  subst ho
  simp [restrict,h5,FinT,finish,resOf,resList,resOne,find,frz,below]
 have hloop : ∀ env,restrict [2,5,9,10,11] env = [(2,.box [cv,nv,rv]),(5,I (-1)),(9,.hs b set.length 0 set.length 1),(10,I set.length),(11,I 0)] → WB ⟨C,lk,H.length,[2]⟩ (.block 0 (.loop [2,5,9,10,11] t43L1)) (Fol ⟨C,lk,H.length,[2]⟩ (.seq (.regN [5] [kM 42 5,kM 4 42]) .ret) (FinT [.tmp 4] true H (I (ruleM rl set),H))) env H:=by
  intro env hE
  refine wb_loop (σ:=Nat × Int) (fun z => [(2,.box [cv,nv,rv]),(5,I z.2),(9,.hs b set.length 0 set.length 1),(10,I set.length),(11,I z.1)]) (fun _ => H) (fun z => z.1 ≤ set.length ∧ (set.drop z.1).foldl (ruleS rl) z.2 = ruleM rl set) (fun z => set.length - z.1) ?_ (0,-1) ⟨Nat.zero_le _,rfl⟩ hE rfl
  rintro ⟨i,out⟩ ⟨hi,ho⟩
  dsimp only at hi ho ⊢
  unfold t43L1
  by_cases hk : i < set.length
  case neg =>
   obtain rfl : i = set.length:=by omega
   rw [List.drop_length] at ho
   generalize hP : Rnd _ _ _ _ _ _ _ = P
   simp
   rw [← hP]
   exact hfin out ho _ rfl
  obtain ⟨k,hki⟩ : ∃ k,set[i] = k:=⟨_,rfl⟩
  rw [List.drop_eq_getElem_cons hk,hki] at ho
  have ho : (set.drop (i + 1)).foldl (ruleS rl) (ruleS rl out k) = ruleM rl set:=ho
  have hii : (ints set)[i]'(by rw [ints_len];exact hk) = I k:=by simp [ints,hki]
  have w : IntKind.i64.wrap ((i : Int) + 1) = (i : Int) + 1:=wrap64 (by omega) (by omega)
  have next : ∀ (P : Ex → Kt) out',ruleS rl out k = out' → P = Rnd [2,5,9,10,11] (fun z => [(2,.box [cv,nv,rv]),(5,I z.2),(9,.hs b set.length 0 set.length 1),(10,I set.length),(11,I z.1)]) (fun _ => H) (fun z => z.1 ≤ set.length ∧ (set.drop z.1).foldl (ruleS rl) z.2 = ruleM rl set) (fun z => set.length - z.1) (i,out) (BlkE 0 (Fol ⟨C,lk,H.length,[2]⟩ (.seq (.regN [5] [kM 42 5,kM 4 42]) .ret) (FinT [.tmp 4] true H (I (ruleM rl set),H)))) →
    ∀ env,restrict [2,5,9,10,11] env = [(2,.box [cv,nv,rv]),(5,I out'),(9,.hs b set.length 0 set.length 1),(10,I set.length),(11,I ((i + 1 : Nat) : Int))] → P .nrm env H:=by
   intro P out' h1 h2 env h3
   rw [h2,rnd_nrm]
   exact ⟨(i + 1,out'),⟨hk,by rw [← h1];exact ho⟩,by show set.length - (i + 1) < set.length - i;omega,h3,rfl⟩
  generalize hP : Rnd _ _ _ _ _ _ _ = P
  have next:=fun out' h => next P out' h hP.symm
  clear hP ho hfin hE
  by_cases hk0 : k < 0
  ·have hrs : ruleS rl out k = out:=by unfold ruleS;rw [if_neg (by omega)]
   simp [hk,hs,hii,hk0,w]
   exact next out hrs _ rfl
  by_cases hkn : (rl.length : Int) ≤ k
  ·have hrs : ruleS rl out k = out:=by unfold ruleS;rw [if_neg (by omega)]
   rcases hr with ⟨rfl,rfl⟩ | rfl
   ·have hkn : (0 : Int) ≤ k:=by simpa using hkn
    simp [hk,hs,hii,hk0,hkn,w]
    exact next out hrs _ rfl
   ·simp [hk,hs,hii,hk0,hkn,w]
    exact next out hrs _ rfl
  obtain ⟨k,rfl⟩:=Int.eq_ofNat_of_zero_le (by omega : 0 ≤ k)
  have hkl : k < rl.length:=by omega
  obtain rfl : rv = .sl rl.length (ints rl):=by
   rcases hr with ⟨_,h⟩ | h
   ·subst h;simp at hkl
   ·exact h
  obtain ⟨r,hrk⟩ : ∃ r,rl[k] = r:=⟨_,rfl⟩
  have hrr : (ints rl)[k]'(by rw [ints_len];exact hkl) = I r:=by simp [ints,hrk]
  have hgd : rl.getD k 0 = r:=by rw [List.getD_eq_getElem?_getD,List.getElem?_eq_getElem hkl,hrk];rfl
  have hrs : ruleS rl out k = if 0 ≤ r ∧ (out < 0 ∨ r < out) then r else out:=by
   unfold ruleS;rw [if_pos (by omega),Int.toNat_natCast,hgd]
  clear hr hrk hgd
  by_cases h1 : 0 ≤ r
  ·by_cases h2 : out < 0
   ·rw [if_pos ⟨h1,.inl h2⟩] at hrs
    simp [hk,hs,hii,hk0,hkn,hkl,hrr,h1,h2,w]
    exact next r hrs _ rfl
   ·by_cases h3 : r < out
    ·rw [if_pos ⟨h1,.inr h3⟩] at hrs
     simp [hk,hs,hii,hk0,hkn,hkl,hrr,h1,h2,h3,w]
     exact next r hrs _ rfl
    ·rw [if_neg (by omega)] at hrs
     simp [hk,hs,hii,hk0,hkn,hkl,hrr,h1,h2,h3,w]
     exact next out hrs _ rfl
  ·rw [if_neg (by omega)] at hrs
   simp [hk,hs,hii,hk0,hkn,hkl,hrr,h1,w]
   exact next out hrs _ rfl
 unfold t43B
 simp
 exact hloop _ rfl
section
variable {lk lim b : Nat} {H : Heap} {N : Nf} {cv nv rv sv : AV} {vs : List AV} {set : List Int}
set_option maxRecDepth 20000 in
theorem step_h {set : List Int} {b2 : Nat} (hN : NfOk N cv nv rv vs) (hx : ∀ l ∈ N.nx,InB N.k l ∧ l.length ≤ 1000000) (hk : N.k ≤ 1000000) (hs : H[b2]? = some (.cells (ints set))) (hn : set.length ≤ 1000000) (hb : b ≤ 255) (hlk : lk ≤ H.length) :
  callW X A lk lim 42 [.agg [cv,nv,rv],.hs b2 set.length 0 set.length 1,.val (.int .u8 b)] H = some (rowV (set.foldl (hitS N b) []),H):=by
 have hX : X lk lim 42 [.agg [cv,nv,rv],.hs b2 set.length 0 set.length 1,.val (.int .u8 b)] H = none:=noX1 (by decide) (by decide) (by decide)
 have hs1 : ∀ hit : List Int,(H ++ [HB.map (sE hit)])[b2]? = some (.cells (ints set)):=fun hit => by
  rw [List.getElem?_append_left (List.getElem?_eq_some_iff.1 hs).1,hs]
 have hcn : argOk cv = true ∧ argOk nv = true ∧ argOk rv = true:=by
  refine ⟨?_,?_,?_⟩
  ·rcases hN.c with ⟨rfl,_⟩ | rfl <;> rfl
  ·rcases hN.n with ⟨rfl,_⟩ | rfl <;> rfl
  ·rcases hN.r with ⟨rfl,_⟩ | rfl <;> rfl
 refine wb_callB [3] hX A42 rfl (by simp [argOk]) ?_
 show WB ⟨callW X A,lk,H.length,[3]⟩ t42B _ _ _
 obtain ⟨hi0,hnd0⟩:=in_hitS (b:=b) (fun l h => (hx l h).1) set [] in_nil List.nodup_nil
 have h65 : ∀ a b' c d (Z : Heap),callW X A lk H.length 65 [.agg [U a,U b',U c,U d],.val (.int .u8 b)] Z = some (Bo (hasC [U a,U b',U c,U d] b),Z):=fun a b' c d Z => has_code hb
 have hZ : IsS (H ++ [.map (sE (set.foldl (hitS N b) []))]) H.length (set.foldl (hitS N b) []):=⟨by rw [List.getElem?_append_right (Nat.le_refl _)];simp,hnd0⟩
 have k41:=keys41 (lk:=lk) (lim:=H.length) (b:=H.length) (H:=H ++ [.map (sE (set.foldl (hitS N b) []))]) (by simp)
 have k40:=sort40 (lk:=lk) (lim:=H.length) hZ hi0 hk
 generalize callW X A = C at h65 k41 k40 ⊢
 have hfin : ∀ hit,hit = set.foldl (hitS N b) [] → ∀ env,find env 7 = .mp H.length → WB ⟨C,lk,H.length,[3]⟩ (.seq (.regN [7] [kM 50 7,kC 51 41 50,kC 52 40 51,kM 6 52]) .ret) (FinT [.tmp 6] true H (rowV (set.foldl (hitS N b) []),H)) env (H ++ [.map (sE hit)]):=by
  intro hit ho env h7
  subst ho
  have hbe:=bel_i H.length (normI (set.foldl (hitS N b) []))
  unfold rowV at k40 ⊢
  generalize set.foldl (hitS N b) [] = hh at *
  generalize normI hh = r at *
  generalize hP : FinT _ _ _ _ = P
  simp [restrict,h7,k41,k40]
  rw [← hP]
  simp [FinT,finish,resOf,resList,resOne,find,frz,below,hbe,List.take_of_length_le]
 have hloop : ∀ env,restrict [2,3,7,13,14,15] env = [(2,.val (.int .u8 b)),(3,.box [cv,nv,rv]),(7,.mp H.length),(13,.hs b2 set.length 0 set.length 1),(14,I set.length),(15,I 0)] → WB ⟨C,lk,H.length,[3]⟩ (.block 0 (.loop [2,3,7,13,14,15] t42L2)) (Fol ⟨C,lk,H.length,[3]⟩ (.seq (.regN [7] [kM 50 7,kC 51 41 50,kC 52 40 51,kM 6 52]) .ret) (FinT [.tmp 6] true H (rowV (set.foldl (hitS N b) []),H))) env (H ++ [.map (sE [])]):=by
  intro env hE
  refine wb_loop (σ:=Nat × List Int) (fun z => [(2,.val (.int .u8 b)),(3,.box [cv,nv,rv]),(7,.mp H.length),(13,.hs b2 set.length 0 set.length 1),(14,I set.length),(15,I z.1)]) (fun z => H ++ [.map (sE z.2)]) (fun z => z.1 ≤ set.length ∧ (set.drop z.1).foldl (hitS N b) z.2 = set.foldl (hitS N b) []) (fun z => set.length - z.1) ?_ (0,[]) ⟨Nat.zero_le _,rfl⟩ hE rfl
  rintro ⟨i,hit⟩ ⟨hi,ho⟩
  dsimp only at hi ho ⊢
  by_cases hk : i < set.length
  case neg =>
   obtain rfl : i = set.length:=by omega
   rw [List.drop_length] at ho
   unfold t42L2
   generalize hP : Rnd _ _ _ _ _ _ _ = P
   simp
   rw [← hP]
   exact hfin hit ho _ rfl
  obtain ⟨k,hki⟩ : ∃ k,set[i] = k:=⟨_,rfl⟩
  have hs:=hs1 hit
  rw [List.drop_eq_getElem_cons hk,hki] at ho
  have ho : (set.drop (i + 1)).foldl (hitS N b) (hitS N b hit k) = set.foldl (hitS N b) []:=ho
  have hii : (ints set)[i]'(by rw [ints_len];exact hk) = I k:=by simp [ints,hki]
  have w : IntKind.i64.wrap ((i : Int) + 1) = (i : Int) + 1:=wrap64 (by omega) (by omega)
  generalize hP : Rnd _ _ _ _ _ _ _ = P
  have next : ∀ hit',hitS N b hit k = hit' → ∀ env,restrict [2,3,7,13,14,15] env = [(2,.val (.int .u8 b)),(3,.box [cv,nv,rv]),(7,.mp H.length),(13,.hs b2 set.length 0 set.length 1),(14,I set.length),(15,I ((i + 1 : Nat) : Int))] → P .nrm env (H ++ [.map (sE hit')]):=by
   intro hit' h1 env h3
   rw [← hP,rnd_nrm]
   exact ⟨(i + 1,hit'),⟨hk,by rw [← h1];exact ho⟩,by show set.length - (i + 1) < set.length - i;omega,h3,rfl⟩
  clear hP ho hfin hE
  by_cases hk0 : k < 0
  ·have hrs : hitS N b hit k = hit:=by unfold hitS;rw [if_neg (by omega)]
   unfold t42L2
   simp [hk,hs,hii,hk0,w]
   exact next hit hrs _ rfl
  by_cases hkn : (N.nx.length : Int) ≤ k
  ·have hrs : hitS N b hit k = hit:=by unfold hitS;rw [if_neg (by omega)]
   unfold t42L2
   rcases hN.n with ⟨rfl,h0⟩ | rfl
   ·have hkn : (0 : Int) ≤ k:=by omega
    simp [hk,hs,hii,hk0,hkn,w]
    exact next hit hrs _ rfl
   ·simp [hk,hs,hii,hk0,hkn,w]
    exact next hit hrs _ rfl
  obtain ⟨k,rfl⟩:=Int.eq_ofNat_of_zero_le (by omega : 0 ≤ k)
  have hkl : k < N.nx.length:=by omega
  have hkl2 : (k : Int) < (N.nx.length : Int):=by omega
  obtain ⟨l,hkk⟩ : ∃ l,N.nx[k]? = some l:=⟨N.nx[k],List.getElem?_eq_getElem hkl⟩
  obtain ⟨lv,hlv,hrow⟩:=hN.v k l hkk
  obtain ⟨hin,hlen⟩:=hx l (List.mem_of_getElem? hkk)
  have hrs : hitS N b hit k = l.foldl (hitI N.cl b) hit:=by
   unfold hitS;rw [if_pos (by omega),Int.toNat_natCast,List.getD_eq_getElem?_getD,hkk];rfl
  have hN2:=hN
  obtain rfl : nv = .sl N.nx.length vs:=by
   rcases hN.n with ⟨_,h⟩ | h
   ·rw [h] at hkl;simp at hkl
   ·exact h
  have fin2 : ∀ E,restrict [2,3,7,13,14,15,32,33,34] E = [(2,.val (.int .u8 b)),(3,.box [cv,.sl N.nx.length vs,rv]),(7,.mp H.length),(13,.hs b2 set.length 0 set.length 1),(14,I set.length),(15,I i),(32,lv),(33,I l.length),(34,I 0)] → WB ⟨C,lk,H.length,[3]⟩ (.block 2 (.loop [2,3,7,13,14,15,32,33,34] t42L1)) (BlkE 1 (Fol ⟨C,lk,H.length,[3]⟩ (.regN [2,3,7,13,14,15] [kU 49 15,kM 15 49]) P)) E (H ++ [.map (sE hit)]):=fun E hE =>
   step_in (sv:=.hs b2 set.length 0 set.length 1) hN2 hrow hlen hin hlk h65 hE fun E' hE' => by
    rw [blk_nrm,fol_nrm,wb_regN,hE']
    simp [w]
    exact next _ hrs _ rfl
  unfold t42L2
  generalize hLL : AC.block 2 (.loop [2,3,7,13,14,15,32,33,34] t42L1) = LL at fin2 ⊢
  rcases hrow with ⟨rfl,rfl⟩ | rfl
  ·simp [hk,hs,hii,hk0,hkn,hkl,hkl2,hlv]
   exact fin2 _ rfl
  ·simp [hk,hs,hii,hk0,hkn,hkl,hkl2,hlv]
   exact fin2 _ rfl
 unfold t42B
 generalize hLL : AC.block 0 (.loop [2,3,7,13,14,15] t42L2) = LL at hloop ⊢
 simp
 exact hloop _ rfl
theorem rule20h {b2 : Nat} (hN : NfOk N cv nv rv vs) (hsz : SzOk N) (hs : H[b2]? = some (.cells (ints set))) (hn : set.length ≤ 1000000) : callW X A lk lim 20 [.agg [cv,nv,rv],.hs b2 set.length 0 set.length 1] H = some (I (if chkF N then ruleM N.rl set else -1),H):=by
 have hX : X lk lim 20 [.agg [cv,nv,rv],.hs b2 set.length 0 set.length 1] H = none:=noX1 (by decide) (by decide) (by decide)
 refine wb_callB [2] hX A20 rfl (by simp [argOk]) ?_
 show WB ⟨callW X A,lk,H.length,[2]⟩ t20B _ _ _
 have h14:=check_nf (lk:=lk) (lim:=H.length) (H:=H) hN hsz
 have h43:=rule_h (lk:=lk) (lim:=H.length) (H:=H) (cv:=cv) (nv:=nv) hN.r hs ⟨hN.arg.1,hN.arg.2.1⟩ hn
 generalize callW X A = C at h14 h43 ⊢
 unfold t20B
 cases hc : chkF N <;> rw [hc] at h14
 ·rw [if_neg (by decide)] at h14 ⊢
  simp [h14]
 ·rw [if_pos rfl] at h14 ⊢
  simp [h14,h43]
theorem step17h {b2 : Nat} (hN : NfOk N cv nv rv vs) (hsz : SzOk N) (hs : H[b2]? = some (.cells (ints set))) (hn : set.length ≤ 1000000) (hb : b ≤ 255) (hlk : lk ≤ H.length) : callW X A lk lim 17 [.agg [cv,nv,rv],.hs b2 set.length 0 set.length 1,.val (.int .u8 b)] H = some (stepV N set b,H):=by
 have hX : X lk lim 17 [.agg [cv,nv,rv],.hs b2 set.length 0 set.length 1,.val (.int .u8 b)] H = none:=noX1 (by decide) (by decide) (by decide)
 refine wb_callB [3] hX A17 rfl (by simp [argOk]) ?_
 show WB ⟨callW X A,lk,H.length,[3]⟩ t17B _ _ _
 have h14:=check_nf (lk:=lk) (lim:=H.length) (H:=H) hN hsz
 unfold stepV
 cases hc : chkF N <;> rw [hc] at h14
 ·rw [if_neg (by decide)] at h14 ⊢
  generalize callW X A = C at h14 ⊢
  unfold t17B
  simp [h14]
 ·obtain ⟨_,hk,_,_,hin⟩:=chkF_get hc
  have h42:=step_h (lk:=lk) (lim:=H.length) (H:=H) hN (fun l hl => ⟨hin l hl,hsz.1 l hl⟩) (by omega) hs hn hb hlk
  rw [if_pos rfl] at h14 ⊢
  generalize callW X A = C at h14 h42 ⊢
  unfold t17B
  have hbe:=bel_i H.length (normI (set.foldl (hitS N b) []))
  unfold rowV at h42 ⊢
  generalize normI (set.foldl (hitS N b) []) = r at h42 hbe ⊢
  simp [h14,h42,below,hbe]
theorem own18 {l : List Int} (hr : l.length * 8 ≤ room) (hv : RowI sv l) : callW X A lk lim 18 [sv] H = some (if l = [] then (.e0,H) else (.hs H.length l.length 0 l.length 1,H ++ [.cells (ints l)])):=by
 have hX : X lk lim 18 [sv] H = none:=noX1 (by decide) (by decide) (by decide)
 refine wb_callB [] hX A18 rfl (by rcases hv with ⟨rfl,_⟩ | rfl <;> rfl) ?_
 unfold t18B
 generalize callW X A = C
 rcases hv with ⟨rfl,rfl⟩ | rfl
 ·simp [srcCells]
 ·by_cases h : l = []
  ·subst h
   simp [srcCells,ints]
  ·have h0 : ¬ l.length = 0:=fun e => h (List.length_eq_zero_iff.1 e)
   simp [-wi_app,h]
   rw [wi_app]
   simp [srcCells,h0,hr]
end
end Go.Proofs.Ytnhennjliinplaa
