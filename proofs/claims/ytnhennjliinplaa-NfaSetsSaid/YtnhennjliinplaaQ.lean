/- A step: walked. -/
import Derived.Test.YtnhennjliinplaaP
set_option linter.all false
namespace Go.Proofs.Ytnhennjliinplaa
open Go Go.Hm

structure Nf where
 k : Nat
 cl : List AV
 nx : List (List Int)
 rl : List Int
structure NfOk (N : Nf) (cv nv rv : AV) (vs : List AV) : Prop where
 c : (cv = .e0 ∧ N.k = 0) ∨ cv = .sl N.k N.cl
 lc : N.cl.length = N.k * 4
 u : ∀ c ∈ N.cl,∃ z,c = U z
 n : (nv = .e0 ∧ N.nx = []) ∨ nv = .sl N.nx.length vs
 v : ∀ (j : Nat) l,N.nx[j]? = some l → ∃ v,vs[j]? = some v ∧ RowI v l
 r : RowI rv N.rl
def hitI (cl : List AV) (b : Nat) (hit : List Int) (t : Int) : List Int:=if hasC ((cl.drop (t.toNat * 4)).take 4) b = true then addI hit t else hit
def hitS (N : Nf) (b : Nat) (hit : List Int) (k : Int) : List Int:=if 0 ≤ k ∧ k < (N.nx.length : Int) then (N.nx.getD k.toNat []).foldl (hitI N.cl b) hit else hit
def stepM (N : Nf) (set : List Int) (b : Nat) : List Int:=normI (set.foldl (hitS N b) [])
theorem cls_at {cl : List AV} {k t : Nat} (hl : cl.length = k * 4) (hu : ∀ c ∈ cl,∃ z,c = U z) (ht : t < k) : ∃ a b c d,(cl.drop (t * 4)).take 4 = [U a,U b,U c,U d] ∧ t * 4 + 4 ≤ cl.length:=by
 have h4 : t * 4 + 4 ≤ cl.length:=by omega
 have hlen : ((cl.drop (t * 4)).take 4).length = 4:=by rw [List.length_take,List.length_drop];omega
 have hm : ∀ c ∈ (cl.drop (t * 4)).take 4,∃ z,c = U z:=fun c hc => hu c (List.mem_of_mem_drop (List.mem_of_mem_take hc))
 generalize (cl.drop (t * 4)).take 4 = x at hlen hm
 match x,hlen with
 | [p,q,r,s],_ =>
  obtain ⟨a,rfl⟩:=hm p (by simp)
  obtain ⟨b,rfl⟩:=hm q (by simp)
  obtain ⟨c,rfl⟩:=hm r (by simp)
  obtain ⟨d,rfl⟩:=hm s (by simp)
  exact ⟨a,b,c,d,rfl,h4⟩
theorem nd_hitI {cl : List AV} {b : Nat} : ∀ (l : List Int) (hit : List Int),hit.Nodup → (l.foldl (hitI cl b) hit).Nodup
 | [],_,h => h
 | t :: l,hit,h => nd_hitI l _ (by unfold hitI;split;exact nd_addI h;exact h)
theorem in_hitI {cl : List AV} {b k : Nat} : ∀ (l : List Int) (hit : List Int),InB k hit → InB k l → InB k (l.foldl (hitI cl b) hit)
 | [],_,h,_ => h
 | t :: l,hit,h,hl => in_hitI l _ (by
   unfold hitI
   split
   ·intro z hz
    rcases mem_addI.1 hz with hz | hz
    ·exact h z hz
    ·exact hl z (by rw [hz];exact List.mem_cons_self)
   ·exact h) fun z hz => hl z (List.mem_cons_of_mem _ hz)
section
variable {C : Orc} {Q : Ex → Kt} {E : Env} {lk lim b i n : Nat} {H : Heap} {N : Nf} {cv nv rv sv lv : AV} {vs : List AV} {l hit : List Int}
set_option maxRecDepth 20000 in
theorem step_in (hN : NfOk N cv nv rv vs) (hl : RowI lv l) (hln : l.length ≤ 1000000) (hin : InB N.k l) (hlk : lk ≤ H.length) (hC : ∀ a b' c d (Z : Heap),C lk lim 65 [.agg [U a,U b',U c,U d],.val (.int .u8 b)] Z = some (Bo (hasC [U a,U b',U c,U d] b),Z))
  (hE : restrict [2,3,7,13,14,15,32,33,34] E = [(2,.val (.int .u8 b)),(3,.box [cv,nv,rv]),(7,.mp H.length),(13,sv),(14,I n),(15,I i),(32,lv),(33,I l.length),(34,I 0)])
  (hQ : ∀ E',restrict [2,3,7,13,14,15] E' = [(2,.val (.int .u8 b)),(3,.box [cv,nv,rv]),(7,.mp H.length),(13,sv),(14,I n),(15,I i)] → Q .nrm E' (H ++ [.map (sE (l.foldl (hitI N.cl b) hit))])) :
  WB ⟨C,lk,lim,[3]⟩ (.block 2 (.loop [2,3,7,13,14,15,32,33,34] t42L1)) Q E (H ++ [.map (sE hit)]):=by
 refine wb_loop (σ:=Nat × List Int) (fun z => [(2,.val (.int .u8 b)),(3,.box [cv,nv,rv]),(7,.mp H.length),(13,sv),(14,I n),(15,I i),(32,lv),(33,I l.length),(34,I z.1)]) (fun z => H ++ [.map (sE z.2)])
  (fun z => z.1 ≤ l.length ∧ (l.drop z.1).foldl (hitI N.cl b) z.2 = l.foldl (hitI N.cl b) hit) (fun z => l.length - z.1) ?_ (0,hit) ⟨Nat.zero_le _,rfl⟩ hE rfl
 rintro ⟨j,ht⟩ ⟨hj,hf⟩
 dsimp only at hj hf ⊢
 unfold t42L1
 by_cases hk : j < l.length
 case neg =>
  obtain rfl : j = l.length:=by omega
  rw [List.drop_length] at hf
  have hf : ht = l.foldl (hitI N.cl b) hit:=hf
  rw [← hf] at hQ
  generalize hP : Rnd _ _ _ _ _ _ _ = P
  simp
  rw [← hP]
  exact hQ _ rfl
 obtain ⟨t,htj⟩ : ∃ t,l[j] = t:=⟨_,rfl⟩
 obtain rfl : lv = .sl l.length (ints l):=by
  rcases hl with ⟨_,h⟩ | h
  ·subst h;simp at hk
  ·exact h
 have ht2:=hin t (htj ▸ List.getElem_mem hk)
 obtain ⟨t,rfl⟩:=Int.eq_ofNat_of_zero_le ht2.1
 have htk : t < N.k:=by omega
 have htk2 : (t : Int) < (N.k : Int):=ht2.2
 rw [List.drop_eq_getElem_cons hk,htj] at hf
 have hf : (l.drop (j + 1)).foldl (hitI N.cl b) (hitI N.cl b ht t) = l.foldl (hitI N.cl b) hit:=hf
 have hii : (ints l)[j]'(by rw [ints_len];exact hk) = I t:=by simp [ints,htj]
 have w : IntKind.i64.wrap ((j : Int) + 1) = (j : Int) + 1:=wrap64 (by omega) (by omega)
 obtain ⟨a0,a1,a2,a3,hcl,h4⟩:=cls_at hN.lc hN.u htk
 have hCc:=hC a0 a1 a2 a3 (H ++ [.map (sE ht)])
 obtain rfl : cv = .sl N.k N.cl:=by
  rcases hN.c with ⟨_,h⟩ | h
  ·omega
  ·exact h
 have hms:=mset_sE ht t
 have hset : (H ++ [HB.map (sE ht)]).set H.length (.map (sE (addI ht t))) = H ++ [.map (sE (addI ht t))]:=by simp
 have hval : hitI N.cl b ht t = if hasC [U a0,U a1,U a2,U a3] b = true then addI ht t else ht:=by unfold hitI;rw [Int.toNat_natCast,hcl]
 generalize hP : Rnd _ _ _ _ _ _ _ = P
 cases hc : hasC [U a0,U a1,U a2,U a3] b with
 | true =>
  rw [hc] at hCc hval
  rw [if_pos rfl] at hval
  simp [hk,hii,htk,htk2,hcl,h4,hCc,hlk,hms,hset,w]
  rw [← hP,rnd_nrm]
  exact ⟨(j + 1,addI ht t),⟨hk,by rw [← hval];exact hf⟩,by show l.length - (j + 1) < l.length - j;omega,rfl,rfl⟩
 | false =>
  rw [hc] at hCc hval
  rw [if_neg (by decide)] at hval
  simp [hk,hii,htk,htk2,hcl,h4,hCc,w]
  rw [← hP,rnd_nrm]
  exact ⟨(j + 1,ht),⟨hk,by rw [← hval];exact hf⟩,by show l.length - (j + 1) < l.length - j;omega,rfl,rfl⟩
theorem in_hitS {b : Nat} (hx : ∀ l ∈ N.nx,InB N.k l) : ∀ (set hit : List Int),InB N.k hit → hit.Nodup → InB N.k (set.foldl (hitS N b) hit) ∧ (set.foldl (hitS N b) hit).Nodup
 | [],_,h,h2 => ⟨h,h2⟩
 | k :: set,hit,h,h2 => by
  refine in_hitS hx set (hitS N b hit k) ?_ ?_
  ·unfold hitS
   split
   ·rename_i hc
    refine in_hitI _ _ h ?_
    have hl : k.toNat < N.nx.length:=by omega
    rw [List.getD_eq_getElem?_getD,List.getElem?_eq_getElem hl]
    exact hx _ (List.getElem_mem hl)
   ·exact h
  ·unfold hitS
   split
   ·exact nd_hitI _ _ h2
   ·exact h2
set_option maxRecDepth 20000 in
theorem step_code {set : List Int} (hN : NfOk N cv nv rv vs) (hx : ∀ l ∈ N.nx,InB N.k l ∧ l.length ≤ 1000000) (hk : N.k ≤ 1000000) (hs : RowI sv set) (hn : set.length ≤ 1000000) (hb : b ≤ 255) (hlk : lk ≤ H.length) :
  callW X A lk lim 42 [.agg [cv,nv,rv],sv,.val (.int .u8 b)] H = some (rowV (set.foldl (hitS N b) []),H):=by
 have hX : X lk lim 42 [.agg [cv,nv,rv],sv,.val (.int .u8 b)] H = none:=noX1 (by decide) (by decide) (by decide)
 have hcn : argOk cv = true ∧ argOk nv = true ∧ argOk rv = true:=by
  refine ⟨?_,?_,?_⟩
  ·rcases hN.c with ⟨rfl,_⟩ | rfl <;> rfl
  ·rcases hN.n with ⟨rfl,_⟩ | rfl <;> rfl
  ·rcases hN.r with ⟨rfl,_⟩ | rfl <;> rfl
 refine wb_callB [3] hX A42 rfl (by rcases hs with ⟨rfl,_⟩ | rfl <;> simp [argOk]) ?_
 show WB ⟨callW X A,lk,H.length,[3]⟩ t42B _ _ _
 obtain ⟨hi0,hnd0⟩:=in_hitS (b:=b) (fun l h => (hx l h).1) set [] in_nil List.nodup_nil
 have h65 : ∀ a b' c d (Z : Heap),callW X A lk H.length 65 [.agg [U a,U b',U c,U d],.val (.int .u8 b)] Z = some (Bo (hasC [U a,U b',U c,U d] b),Z):=fun a b' c d Z => has_code hb
 have hZ : IsS (H ++ [.map (sE (set.foldl (hitS N b) []))]) H.length (set.foldl (hitS N b) []):=⟨by rw [List.getElem?_append_right (Nat.le_refl _)];simp,hnd0⟩
 have k41:=keys41 (lk:=lk) (lim:=H.length) (b:=H.length) (H:=H ++ [.map (sE (set.foldl (hitS N b) []))]) (by simp)
 have k40:=sort40 (lk:=lk) (lim:=H.length) hZ hi0 hk
 generalize callW X A = C at h65 k41 k40 ⊢
 have hfin : ∀ hit,hit = set.foldl (hitS N b) [] → ∀ env,find env 7 = .mp H.length → WB ⟨C,lk,H.length,[3]⟩ (.seq (.regN [7] [kM 50 7,kC 51 41 50,kC 52 40 51,kM 6 52]) .ret) (FinT [.tmp 6] true H (rowV (set.foldl (hitS N b) []),H)) env (H ++ [.map (sE hit)]):=by
  intro hit ho env h7
  subst ho
  have hbe:=bel_i H.length (normI (set.foldl (hitS N b) []))
  unfold rowV at k40 ⊢
  generalize set.foldl (hitS N b) [] = hh at *
  generalize normI hh = r at *
  generalize hP : FinT _ _ _ _ = P
  simp [restrict,h7,k41,k40]
  rw [← hP]
  simp [FinT,finish,resOf,resList,resOne,find,frz,below,hbe,List.take_of_length_le]
 have hloop : ∀ env,restrict [2,3,7,13,14,15] env = [(2,.val (.int .u8 b)),(3,.box [cv,nv,rv]),(7,.mp H.length),(13,sv),(14,I set.length),(15,I 0)] → WB ⟨C,lk,H.length,[3]⟩ (.block 0 (.loop [2,3,7,13,14,15] t42L2)) (Fol ⟨C,lk,H.length,[3]⟩ (.seq (.regN [7] [kM 50 7,kC 51 41 50,kC 52 40 51,kM 6 52]) .ret) (FinT [.tmp 6] true H (rowV (set.foldl (hitS N b) []),H))) env (H ++ [.map (sE [])]):=by
  intro env hE
  refine wb_loop (σ:=Nat × List Int) (fun z => [(2,.val (.int .u8 b)),(3,.box [cv,nv,rv]),(7,.mp H.length),(13,sv),(14,I set.length),(15,I z.1)]) (fun z => H ++ [.map (sE z.2)]) (fun z => z.1 ≤ set.length ∧ (set.drop z.1).foldl (hitS N b) z.2 = set.foldl (hitS N b) []) (fun z => set.length - z.1) ?_ (0,[]) ⟨Nat.zero_le _,rfl⟩ hE rfl
  rintro ⟨i,hit⟩ ⟨hi,ho⟩
  dsimp only at hi ho ⊢
  by_cases hk : i < set.length
  case neg =>
   obtain rfl : i = set.length:=by omega
   rw [List.drop_length] at ho
   unfold t42L2
   generalize hP : Rnd _ _ _ _ _ _ _ = P
   simp
   rw [← hP]
   exact hfin hit ho _ rfl
  obtain ⟨k,hki⟩ : ∃ k,set[i] = k:=⟨_,rfl⟩
  obtain rfl : sv = .sl set.length (ints set):=by
   rcases hs with ⟨_,h⟩ | h
   ·subst h;simp at hk
   ·exact h
  rw [List.drop_eq_getElem_cons hk,hki] at ho
  have ho : (set.drop (i + 1)).foldl (hitS N b) (hitS N b hit k) = set.foldl (hitS N b) []:=ho
  have hii : (ints set)[i]'(by rw [ints_len];exact hk) = I k:=by simp [ints,hki]
  have w : IntKind.i64.wrap ((i : Int) + 1) = (i : Int) + 1:=wrap64 (by omega) (by omega)
  generalize hP : Rnd _ _ _ _ _ _ _ = P
  have next : ∀ hit',hitS N b hit k = hit' → ∀ env,restrict [2,3,7,13,14,15] env = [(2,.val (.int .u8 b)),(3,.box [cv,nv,rv]),(7,.mp H.length),(13,.sl set.length (ints set)),(14,I set.length),(15,I ((i + 1 : Nat) : Int))] → P .nrm env (H ++ [.map (sE hit')]):=by
   intro hit' h1 env h3
   rw [← hP,rnd_nrm]
   exact ⟨(i + 1,hit'),⟨hk,by rw [← h1];exact ho⟩,by show set.length - (i + 1) < set.length - i;omega,h3,rfl⟩
  clear hP ho hfin hE
  by_cases hk0 : k < 0
  ·have hrs : hitS N b hit k = hit:=by unfold hitS;rw [if_neg (by omega)]
   unfold t42L2
   simp [hk,hii,hk0,w]
   exact next hit hrs _ rfl
  by_cases hkn : (N.nx.length : Int) ≤ k
  ·have hrs : hitS N b hit k = hit:=by unfold hitS;rw [if_neg (by omega)]
   unfold t42L2
   rcases hN.n with ⟨rfl,h0⟩ | rfl
   ·have hkn : (0 : Int) ≤ k:=by omega
    simp [hk,hii,hk0,hkn,w]
    exact next hit hrs _ rfl
   ·simp [hk,hii,hk0,hkn,w]
    exact next hit hrs _ rfl
  obtain ⟨k,rfl⟩:=Int.eq_ofNat_of_zero_le (by omega : 0 ≤ k)
  have hkl : k < N.nx.length:=by omega
  have hkl2 : (k : Int) < (N.nx.length : Int):=by omega
  obtain ⟨l,hkk⟩ : ∃ l,N.nx[k]? = some l:=⟨N.nx[k],List.getElem?_eq_getElem hkl⟩
  obtain ⟨lv,hlv,hrow⟩:=hN.v k l hkk
  obtain ⟨hin,hlen⟩:=hx l (List.mem_of_getElem? hkk)
  have hrs : hitS N b hit k = l.foldl (hitI N.cl b) hit:=by
   unfold hitS;rw [if_pos (by omega),Int.toNat_natCast,List.getD_eq_getElem?_getD,hkk];rfl
  have hN2:=hN
  obtain rfl : nv = .sl N.nx.length vs:=by
   rcases hN.n with ⟨_,h⟩ | h
   ·rw [h] at hkl;simp at hkl
   ·exact h
  have fin2 : ∀ E,restrict [2,3,7,13,14,15,32,33,34] E = [(2,.val (.int .u8 b)),(3,.box [cv,.sl N.nx.length vs,rv]),(7,.mp H.length),(13,.sl set.length (ints set)),(14,I set.length),(15,I i),(32,lv),(33,I l.length),(34,I 0)] → WB ⟨C,lk,H.length,[3]⟩ (.block 2 (.loop [2,3,7,13,14,15,32,33,34] t42L1)) (BlkE 1 (Fol ⟨C,lk,H.length,[3]⟩ (.regN [2,3,7,13,14,15] [kU 49 15,kM 15 49]) P)) E (H ++ [.map (sE hit)]):=fun E hE =>
   step_in hN2 hrow hlen hin hlk h65 hE fun E' hE' => by
    rw [blk_nrm,fol_nrm,wb_regN,hE']
    simp [w]
    exact next _ hrs _ rfl
  unfold t42L2
  generalize hLL : AC.block 2 (.loop [2,3,7,13,14,15,32,33,34] t42L1) = LL at fin2 ⊢
  rcases hrow with ⟨rfl,rfl⟩ | rfl
  ·simp [hk,hii,hk0,hkn,hkl,hkl2,hlv]
   exact fin2 _ rfl
  ·simp [hk,hii,hk0,hkn,hkl,hkl2,hlv]
   exact fin2 _ rfl
 unfold t42B
 generalize hLL : AC.block 0 (.loop [2,3,7,13,14,15] t42L2) = LL at hloop ⊢
 rcases hs with ⟨rfl,rfl⟩ | rfl
 ·simp
  exact hloop _ rfl
 ·simp
  exact hloop _ rfl
end
end Go.Proofs.Ytnhennjliinplaa
