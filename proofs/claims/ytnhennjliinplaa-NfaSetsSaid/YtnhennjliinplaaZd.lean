/- NFASETS. -/
import Derived.Test.YtnhennjliinplaaZc
set_option linter.all false
namespace Go.Proofs.Ytnhennjliinplaa
open Go Go.Hm
section
variable {N : Nf} {cv nv rv : AV} {vs : List AV}
theorem sets_code (hN : NfOk N cv nv rv vs) (hB : ∀ l ∈ N.nx,l.length ≤ 1000000000000000) (la lb : List Int) (c : Nat) (hc : c ≤ 255) : callW X A 0 0 4 [.agg [cv,nv,rv],.sl la.length (ints la),.sl lb.length (ints lb),.val (.int .u8 c)] [] = some (Bo true,[]):=by
 have hX : X 0 0 4 [.agg [cv,nv,rv],.sl la.length (ints la),.sl lb.length (ints lb),.val (.int .u8 c)] [] = none:=noX1 (by decide) (by decide) (by decide)
 refine wb_callB [4] hX A4 rfl (by simp [argOk]) ?_
 show WB ⟨callW X A,0,0,[4]⟩ t4B _ _ _
 generalize hP : FinT [.tmp 8] true [] (Bo true,[]) = P
 have fin : ∀ env (H : Heap),find env 8 = Bo true → P .ret env H:=fun env H h => by
  rw [← hP]
  simp [FinT,finish,resOf,resList,resOne,h,frz,below]
 clear hP
 have h8 : callW X A 0 0 8 [] [] = some (Bo true,[]):=lives0
 have h16 : callW X A 0 0 16 [.agg [cv,nv,rv],I (40 : Nat)] [] = some (Bo (lightN 40 N),[]):=light16 hN hB (by omega)
 have h16 : callW X A 0 0 16 [.agg [cv,nv,rv],I 40] [] = some (Bo (lightN 40 N),[]):=h16
 have h14 : lightN 40 N = true → callW X A 0 0 14 [.agg [cv,nv,rv]] [] = some (I (if chkF N then 0 else 2),[]):=fun hl => by
  obtain ⟨l1,l2,l3,l4⟩:=light_get hl
  exact check_nf hN ⟨fun l h => Nat.le_trans (l4 l h) (by omega),by omega⟩
 have hmain : lightN 40 N = true → la.length ≤ 40 → lb.length ≤ 40 → chkF N = true → ∀ env,restrict [1,2,3,4] env = [(1,.sl la.length (ints la)),(2,.sl lb.length (ints lb)),(3,.val (.int .u8 c)),(4,bxN cv nv rv)] → WB ⟨callW X A,0,0,[4]⟩ (.seq xy4 (.seq z4 u4)) P env []:=by
  intro hl ha hb hck env hE
  obtain ⟨l1,l2,l3,l4⟩:=light_get hl
  have hS : SzOk N:=⟨fun l h => Nat.le_trans (l4 l h) (by omega),by omega⟩
  obtain ⟨_,hk,_,_,hin⟩:=chkF_get hck
  have r20 : ∀ (set : List Int) (H : Heap),set.length ≤ 1000000 → callW X A 0 0 20 [.agg [cv,nv,rv],.sl set.length (ints set)] H = some (I (ruleM N.rl set),H):=fun set H h => by
   have:=rule20 (lk:=0) (lim:=0) (H:=H) hN hS (.inr rfl) h
   rwa [hck,if_pos rfl] at this
  have r17 : ∀ (set : List Int) (H : Heap),set.length ≤ 1000000 → callW X A 0 0 17 [.agg [cv,nv,rv],.sl set.length (ints set),.val (.int .u8 c)] H = some (.sl (stepM N set c).length (ints (stepM N set c)),H):=fun set H h => by
   have:=step17 (lk:=0) (lim:=0) (H:=H) (b:=c) hN hS (.inr rfl) h hc (Nat.zero_le _)
   unfold stepV at this
   rwa [hck,if_pos rfl] at this
  have hab : (la ++ lb).length ≤ 1000000:=by rw [List.length_append];omega
  have r17h : callW X A 0 0 17 [.agg [cv,nv,rv],if la ++ lb = [] then .e0 else .hs 0 (la ++ lb).length 0 (la ++ lb).length 1,.val (.int .u8 c)] (hZ (la ++ lb)) = some (.sl (stepM N (la ++ lb) c).length (ints (stepM N (la ++ lb) c)),hZ (la ++ lb)):=by
   by_cases h0 : la ++ lb = []
   ·rw [if_pos h0,h0]
    have:=step17 (lk:=0) (lim:=0) (H:=hZ []) (b:=c) (set:=[]) hN hS (.inl ⟨rfl,rfl⟩) (Nat.zero_le _) hc (Nat.zero_le _)
    unfold stepV at this
    rwa [hck,if_pos rfl] at this
   ·rw [if_neg h0]
    have:=step17h (lk:=0) (lim:=0) (H:=hZ (la ++ lb)) (b:=c) (b2:=0) (set:=la ++ lb) hN hS (by unfold hZ;rw [if_neg h0];rfl) hab hc (Nat.zero_le _)
    unfold stepV at this
    rwa [hck,if_pos rfl] at this
  have r20h : ∀ H : Heap,callW X A 0 0 20 [.agg [cv,nv,rv],if la ++ lb = [] then .e0 else .hs H.length (la ++ lb).length 0 (la ++ lb).length 1] (H ++ hZ (la ++ lb)) = some (I (ruleM N.rl (la ++ lb)),H ++ hZ (la ++ lb)):=fun H => by
   by_cases h0 : la ++ lb = []
   ·rw [if_pos h0,h0]
    have:=rule20 (lk:=0) (lim:=0) (H:=H ++ hZ []) (set:=[]) hN hS (.inl ⟨rfl,rfl⟩) (Nat.zero_le _)
    rwa [hck,if_pos rfl] at this
   ·rw [if_neg h0]
    have:=rule20h (lk:=0) (lim:=0) (H:=H ++ hZ (la ++ lb)) (b2:=H.length) (set:=la ++ lb) hN hS (by unfold hZ;rw [if_neg h0];simp) hab
    rwa [hck,if_pos rfl] at this
  have hroom : la.length * 8 ≤ room:=by have : room = 140737488355328:=rfl;omega
  have r18 : ∀ H : Heap,callW X A 0 0 18 [.sl la.length (ints la)] H = some (if la = [] then (.e0,H) else (.hs H.length la.length 0 la.length 1,H ++ [.cells (ints la)])):=fun H => own18 hroom (.inr rfl)
  have r19 : ∀ a b' c' d (Z : Heap),callW X A 0 0 19 [.agg [U a,U b',U c',U d],.val (.int .u8 c)] Z = some (Bo (hasC [U a,U b',U c',U d] c),Z):=fun a b' c' d Z => has19 hc
  have hfew : ∀ set : List Int,(stepM N set c).length ≤ 1000000:=fun set => by
   have:=(stepM_few hin set c).2;omega
  have hx2:=r17 la [] (by omega)
  have hy2:=r17 lb [] (by omega)
  have hall : ∀ t ∈ stepM N (la ++ lb) c,1 ≤ t ∧ t < (N.k : Int) ∧ hasC ((N.cl.drop (t.toNat * 4)).take 4) c = true:=fun t h => step_all hck h
  have hmem : ∀ t,t ∈ stepM N (la ++ lb) c ↔ t ∈ stepM N la c ∨ t ∈ stepM N lb c:=fun t => stepM_app
  have fx:=hfew la
  have fy:=hfew lb
  have fz:=hfew (la ++ lb)
  have ux:=up_nd (up_stepM (N:=N) (b:=c) (set:=la))
  have uz:=up_stepM (N:=N) (b:=c) (set:=la ++ lb)
  have hr:=ruleM_app (rl:=N.rl) (p:=la) (q:=lb)
  have p20:=fun H => r20 la H (by omega)
  have q20:=fun H => r20 lb H (by omega)
  generalize callW X A = C at hx2 hy2 r17h r20h r18 r19 p20 q20 ⊢
  generalize stepM N la c = x at hx2 fx ux hmem ⊢
  generalize stepM N lb c = y at hy2 fy hmem ⊢
  generalize stepM N (la ++ lb) c = z at r17h fz uz hall hmem ⊢
  have hm : ((y.foldl addI (x.foldl addI [])) : List Int).length = z.length:=nd_same (nd_mrgI (b:=y) (nd_mrgI (b:=x) List.nodup_nil)) uz fun t => by
   rw [hmem]
   show t ∈ mrgI (mrgI [] x) y ↔ _
   rw [mem_mrgI,mem_mrgI];simp
  have hzm : ∀ t ∈ z,t ∈ y.foldl addI (x.foldl addI []):=fun t h => by
   show t ∈ mrgI (mrgI [] x) y
   rw [mem_mrgI,mem_mrgI]
   rcases (hmem t).1 h with h | h
   ·exact .inl (.inr h)
   ·exact .inr h
  rw [wb_seq]
  refine xy4_ok (by simp [argOk]) hx2 hy2 hE rfl rfl fun E1 hE1 => ?_
  rw [fol_nrm,wb_seq]
  refine z4_ok (by omega) (r18 []) r17h hE1 ⟨rfl,rfl⟩ fun E2 hE2 => ?_
  rw [fol_nrm]
  obtain ⟨M,hM⟩ : ∃ M,y.foldl addI (x.foldl addI []) = M:=⟨_,rfl⟩
  rw [hM] at hm hzm
  have hga : ∀ H : Heap,(H ++ [HB.map (mE M)])[H.length]? = some (.map (mE M)):=fun H => by simp
  -- the rules
  have hy : ∀ E H,restrict [1,2,4,11,13] E = kx4 (.sl la.length (ints la)) (.sl lb.length (ints lb)) (bxN cv nv rv) (.sl z.length (ints z)) H.length [] → WB ⟨C,0,0,[4]⟩ y4 P E (H ++ [.map (mE M)]):=fun E H hE => by
   unfold y4
   rw [wb_seq]
   refine pq4_ok (by omega) (r18 _) (p20 _) (q20 _) (r20h _) hE rfl fun E3 hE3 => ?_
   rw [fol_nrm]
   refine r4_ok hE3 hm hr ?_ fin
   rw [List.getElem?_append_left (by simp)]
   exact hga H
  generalize hy4 : y4 = Y at hy
  have hxx : ∀ E H,restrict [1,2,4,11,13] E = kx4 (.sl la.length (ints la)) (.sl lb.length (ints lb)) (bxN cv nv rv) (.sl z.length (ints z)) H.length [] → WB ⟨C,0,0,[4]⟩ x4 P E (H ++ [.map (mE M)]):=fun E H hE => by
   unfold x4
   rw [hy4]
   have hl : ∀ E,restrict [1,2,4,11,13,16] E = kx4 (.sl la.length (ints la)) (.sl lb.length (ints lb)) (bxN cv nv rv) (.sl z.length (ints z)) H.length [(16,I 0)] → WB ⟨C,0,0,[4]⟩ (.block 6 (.loop [1,2,4,11,13,16] t4L4)) (Fol ⟨C,0,0,[4]⟩ Y P) E (H ++ [.map (mE M)]):=fun E hE =>
    zloop4 fz (hga H) hzm hE rfl fun E' hE' => by
     rw [fol_nrm]
     exact hy E' H hE'
   generalize (.block 6 (.loop [1,2,4,11,13,16] t4L4) : AC) = LL at hl ⊢
   unfold kx4 at *
   rw [wb_seq,wb_seq,wb_regN,hE]
   simp
   exact hl _ rfl
  generalize hx4 : x4 = X4 at hxx
  have hw : ∀ E H,restrict [1,2,4,10,11,13] E = [(1,.sl la.length (ints la)),(2,.sl lb.length (ints lb)),(4,bxN cv nv rv),(10,.sl y.length (ints y)),(11,.sl z.length (ints z)),(13,.mp H.length)] → WB ⟨C,0,0,[4]⟩ w4 P E (H ++ [.map (mE (x.foldl addI []))]):=fun E H hE => by
   unfold w4
   rw [hx4]
   have hl : ∀ E,restrict [1,2,4,10,11,13,15] E = [(1,.sl la.length (ints la)),(2,.sl lb.length (ints lb)),(4,bxN cv nv rv),(10,.sl y.length (ints y)),(11,.sl z.length (ints z)),(13,.mp H.length),(15,I 0)] → WB ⟨C,0,0,[4]⟩ (.block 4 (.loop [1,2,4,10,11,13,15] t4L3)) (Fol ⟨C,0,0,[4]⟩ X4 P) E (H ++ [.map (mE (x.foldl addI []))]):=fun E hE =>
    fill42 fy rfl rfl hE fun E' hE' => by
     rw [fol_nrm,hM]
     exact hxx E' H hE'
   generalize (.block 4 (.loop [1,2,4,10,11,13,15] t4L3) : AC) = LL at hl ⊢
   rw [wb_seq,wb_seq,wb_regN,hE]
   simp
   exact hl _ rfl
  generalize hw4 : w4 = W4 at hw
  have hvv : ∀ E H,restrict [1,2,4,9,10,11] E = [(1,.sl la.length (ints la)),(2,.sl lb.length (ints lb)),(4,bxN cv nv rv),(9,.sl x.length (ints x)),(10,.sl y.length (ints y)),(11,.sl z.length (ints z))] → WB ⟨C,0,0,[4]⟩ v4 P E H:=fun E H hE => by
   unfold v4
   rw [hw4]
   have hl : ∀ E,restrict [1,2,4,9,10,11,13,14] E = [(1,.sl la.length (ints la)),(2,.sl lb.length (ints lb)),(4,bxN cv nv rv),(9,.sl x.length (ints x)),(10,.sl y.length (ints y)),(11,.sl z.length (ints z)),(13,.mp H.length),(14,I 0)] → WB ⟨C,0,0,[4]⟩ (.block 2 (.loop [1,2,4,9,10,11,13,14] t4L2)) (Fol ⟨C,0,0,[4]⟩ W4 P) E (H ++ [.map (mE [])]):=fun E hE =>
    fill4 fx rfl rfl hE fun E' hE' => by
     rw [fol_nrm]
     exact hw E' H hE'
   generalize (.block 2 (.loop [1,2,4,9,10,11,13,14] t4L2) : AC) = LL at hl ⊢
   rw [wb_seq,wb_regN,hE]
   simp
   exact hl _ rfl
  generalize hv4 : v4 = V4 at hvv
  unfold u4
  rw [hv4]
  have hl : ∀ E,restrict [1,2,3,4,9,10,11,12] E = k40 (.sl lb.length (ints lb)) (.val (.int .u8 c)) x y z 0 (bxN cv nv rv) (.sl la.length (ints la)) → WB ⟨C,0,0,[4]⟩ (.block 0 (.loop [1,2,3,4,9,10,11,12] t4L1)) (Fol ⟨C,0,0,[4]⟩ V4 P) E (hZ (la ++ lb)):=fun E hE =>
   chk4 fz hN uz hall r19 hE fun E' hE' => by
    rw [fol_nrm]
    exact hvv E' _ hE'
  generalize (.block 0 (.loop [1,2,3,4,9,10,11,12] t4L1) : AC) = LL at hl ⊢
  rw [wb_seq,wb_seq,wb_regN,hE2]
  simp
  exact hl _ rfl
 rw [e4]
 generalize callW X A = C at h8 h16 h14 hmain ⊢
 generalize (.seq xy4 (.seq z4 u4) : AC) = SS at hmain ⊢
 have hg : ∀ env,restrict [1,2,3,4] env = [(1,.sl la.length (ints la)),(2,.sl lb.length (ints lb)),(3,.val (.int .u8 c)),(4,bxN cv nv rv)] → WB ⟨C,0,0,[4]⟩ (.seq g4 SS) P env []:=by
  intro env hE
  unfold g4
  rw [wb_seq,wb_seq,wb_regN,hE]
  cases hl : lightN 40 N with
  | false =>
   rw [hl] at h16
   simp [h16]
   exact fin _ _ rfl
  | true =>
   rw [hl] at h16
   have h14:=h14 hl
   by_cases ha : (40 : Int) < (la.length : Int)
   ·simp [h16,ha]
    exact fin _ _ rfl
   ·by_cases hb : (40 : Int) < (lb.length : Int)
    ·simp [h16,ha,hb]
     exact fin _ _ rfl
    ·cases hck : chkF N with
     | false =>
      rw [hck,if_neg (by decide)] at h14
      simp [h16,ha,hb,h14]
      exact fin _ _ rfl
     | true =>
      rw [hck,if_pos rfl] at h14
      have hm:=hmain hl (by omega) (by omega) hck
      simp [h16,ha,hb,h14]
      exact hm _ rfl
 generalize (.seq g4 SS : AC) = GG at hg ⊢
 simp [h8]
 exact hg _ rfl
end
end Go.Proofs.Ytnhennjliinplaa
