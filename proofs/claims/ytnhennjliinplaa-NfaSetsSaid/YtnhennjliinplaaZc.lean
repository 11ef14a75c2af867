/- NfaSets: the loops, the law. -/
import Derived.Test.YtnhennjliinplaaZb
set_option linter.all false
namespace Go.Proofs.Ytnhennjliinplaa
open Go Go.Hm
def g4 : AC:=.seq (.regN [1,2,3,4] [ kP 23 4 3 4,kx 24 (.call 16 [(ux 23),(.con (.val (.int .i64 40)))]),kx 25 (.not (ux 24)),kM 26 25,zM 27 26 1,zN 28 26 27,kz 29 26 (.bini .gtr (ux 28) (.con (.val (.int .i64 40)))),kO 30 26 29,kM 31 30,zM 32 31 2,zN 33 31 32,kz 34 31 (.bini .gtr (ux 33) (.con (.val (.int .i64 40)))),kO 35 31 34,kM 36 35,kz 37 36 (.ldA (some 4) 3 (ux 4)),kz 38 36 (.call 14 [.tmp 37]),kz 39 36 (.bini .neq (ux 38) c0),kO 40 36 39]) (.cond (ux 40) (.seq (.regN [] [kx 8 (.mv cT)]) .ret) .skip)
def y4 : AC:=.seq pq4 (.seq (.regN [11,13,17,18,19] [kM 154 17,kM 20 154]) (.seq (.seq r4 (.cond (ux 165) (.regN [11,13,18,19] [kM 166 18,kM 20 166]) .skip)) (.seq f4 .ret)))
def x4 : AC:=.seq (.seq (.regN [1,2,4,11,13] [kZ 16]) (.block 6 (.loop [1,2,4,11,13,16] t4L4))) y4
def w4 : AC:=.seq (.seq (.regN [1,2,4,10,11,13] [kZ 15]) (.block 4 (.loop [1,2,4,10,11,13,15] t4L3))) x4
def v4 : AC:=.seq (.regN [1,2,4,9,10,11] [kx 106 (.mkm),kM 13 106]) (.seq (.seq (.regN [1,2,4,9,10,11,13] [kZ 14]) (.block 2 (.loop [1,2,4,9,10,11,13,14] t4L2))) w4)
def u4 : AC:=.seq (.seq (.regN [1,2,3,4,9,10,11] [kZ 12]) (.block 0 (.loop [1,2,3,4,9,10,11,12] t4L1))) v4
theorem e4 : t4B = .seq (.regN [0,1,2,3] [kB 4 3 0,kx 8 (.mv cF)]) (.seq (.seq (.regN [1,2,3,4] [kx 21 (.call 8 []),kx 22 (.not (ux 21))]) (.cond (ux 22) (.seq (.regN [] [kx 8 (.mv cF)]) .ret) .skip)) (.seq g4 (.seq xy4 (.seq z4 u4)))):=rfl
section
variable {C : Orc} {Q : Ex → Kt} {P : Ex → Kt} {E : Env} {N : Nf} {cv nv rv av bv xv yv zv : AV} {vs : List AV} {c i : Nat} {H : Heap} {x y z m la lb : List Int}
theorem r4_ok {p q r : Int} (hE : restrict [11,13,17,18,19] E = [(11,.sl z.length (ints z)),(13,.mp i),(17,I p),(18,I q),(19,I r)])
  (hm : m.length = z.length) (hr : r = cmb p q) (hH : H[i]? = some (.map (mE m))) (fin : ∀ env H,find env 8 = Bo true → P .ret env H) :
  WB ⟨C,0,0,[4]⟩ (.seq (.regN [11,13,17,18,19] [kM 154 17,kM 20 154]) (.seq (.seq r4 (.cond (ux 165) (.regN [11,13,18,19] [kM 166 18,kM 20 166]) .skip)) (.seq f4 .ret))) P E H:=by
 have hf : ∀ E least,r = least → restrict [11,13,19,20] E = [(11,.sl z.length (ints z)),(13,.mp i),(19,I r),(20,I least)] → WB ⟨C,0,0,[4]⟩ f4 (Fol ⟨C,0,0,[4]⟩ .ret P) E H:=fun E least h1 hE =>
  f4_ok hm h1 hH hE fun E' h8 => by
   rw [fol_nrm,wb_ret]
   exact fin _ _ h8
 generalize f4 = F at hf ⊢
 rw [wb_seq,wb_regN,hE]
 simp [-wb_seq]
 unfold r4
 rw [wb_seq,wb_seq,wb_regN]
 unfold cmb at hr
 by_cases h1 : p < 0
 ·rw [if_pos (.inl h1)] at hr
  simp [h1]
  exact hf _ _ hr rfl
 ·by_cases h2 : 0 ≤ q
  ·by_cases h3 : q < p
   ·rw [if_pos (.inr ⟨h2,h3⟩)] at hr
    simp [h1,h2,h3]
    exact hf _ _ hr rfl
   ·rw [if_neg (by omega)] at hr
    simp [h1,h2,h3]
    exact hf _ _ hr rfl
  ·rw [if_neg (by omega)] at hr
   simp [h1,h2]
   exact hf _ _ hr rfl
def kx4 (a b bx z : AV) (i : Nat) (r : Env) : Env:=(1,a) :: (2,b) :: (4,bx) :: (11,z) :: (13,.mp i) :: r
theorem zloop4 {a b bx : AV} (hz : z.length ≤ 1000000) (hH : H[i]? = some (.map (mE m))) (hm : ∀ t ∈ z,t ∈ m)
  (hE : restrict [1,2,4,11,13,16] E = kx4 a b bx (.sl z.length (ints z)) i [(16,I 0)]) (ha : noBx [(1,a),(2,b)] = true)
  (hQ : ∀ E',restrict [1,2,4,11,13] E' = kx4 a b bx (.sl z.length (ints z)) i [] → Q .nrm E' H) :
  WB ⟨C,0,0,[4]⟩ (.block 6 (.loop [1,2,4,11,13,16] t4L4)) Q E H:=by
 refine wb_loop (σ:=Nat) (fun n => kx4 a b bx (.sl z.length (ints z)) i [(16,I n)]) (fun _ => H) (fun n => n ≤ z.length) (fun n => z.length - n) ?_ 0 (Nat.zero_le _) hE rfl
 intro n hn
 unfold t4L4
 unfold kx4 at *
 generalize hP : Rnd _ _ _ _ _ _ _ = P
 by_cases hk : n < z.length
 case neg =>
  obtain rfl : n = z.length:=by omega
  simp
  rw [← hP]
  exact hQ _ rfl
 obtain ⟨t,ht⟩ : ∃ t,z[n] = t:=⟨_,rfl⟩
 have hii : (ints z)[n]'(by rw [ints_len];exact hk) = I t:=by simp [ints,ht]
 have hg:=mget_mE m t (hm t (ht ▸ List.getElem_mem hk))
 have w : IntKind.i64.wrap ((n : Int) + 1) = (n : Int) + 1:=wrap64 (by omega) (by omega)
 have hkk : keyOk false [1] (I t) = true:=by simp [keyOk,eqKey,eqScalar]
 simp [hk,hii,mapOf,hH,hg,hkk,w]
 rw [← hP,rnd_nrm]
 exact ⟨n + 1,hk,by omega,rfl,rfl⟩
theorem chk4 (hz : z.length ≤ 1000000) (hN : NfOk N cv nv rv vs) (hup : UpI z) (hall : ∀ t ∈ z,1 ≤ t ∧ t < (N.k : Int) ∧ hasC ((N.cl.drop (t.toNat * 4)).take 4) c = true)
  (h19 : ∀ a b' c' d (Z : Heap),C 0 0 19 [.agg [U a,U b',U c',U d],.val (.int .u8 c)] Z = some (Bo (hasC [U a,U b',U c',U d] c),Z))
  (hE : restrict [1,2,3,4,9,10,11,12] E = k40 (.sl lb.length (ints lb)) (.val (.int .u8 c)) x y z 0 (bxN cv nv rv) (.sl la.length (ints la)))
  (hQ : ∀ E',restrict [1,2,4,9,10,11] E' = [(1,.sl la.length (ints la)),(2,.sl lb.length (ints lb)),(4,bxN cv nv rv),(9,.sl x.length (ints x)),(10,.sl y.length (ints y)),(11,.sl z.length (ints z))] → Q .nrm E' H) :
  WB ⟨C,0,0,[4]⟩ (.block 0 (.loop [1,2,3,4,9,10,11,12] t4L1)) Q E H:=by
 refine wb_loop (σ:=Nat) (fun n => k40 (.sl lb.length (ints lb)) (.val (.int .u8 c)) x y z n (bxN cv nv rv) (.sl la.length (ints la))) (fun _ => H) (fun n => n ≤ z.length) (fun n => z.length - n) ?_ 0 (Nat.zero_le _) hE rfl
 intro n hn
 have he : t4L1 = .seq (.seq (.regN [1,2,3,4,9,10,11,12] [kM 56 12,kM 57 11,kN 58 57,kT 59 56 58]) (.cond (ux 59) .skip (.exit 0))) (.seq (.block 1 (.seq k4 (.cond (ux 105) (.seq (.regN [] [kx 8 (.mv cF)]) .ret) .skip))) (.regN [1,2,3,4,9,10,11,12] [kM 60 12,kU 61 60,kM 12 61])):=rfl
 rw [he]
 generalize hP : Rnd _ _ _ _ _ _ _ = P
 by_cases hk : n < z.length
 case neg =>
  obtain rfl : n = z.length:=by omega
  generalize k4 = F
  unfold k40 at *
  simp
  rw [← hP]
  exact hQ _ rfl
 obtain ⟨t,ht⟩ : ∃ t,z[n]? = some t:=⟨z[n],List.getElem?_eq_getElem hk⟩
 have hta:=hall t (List.mem_of_getElem? ht)
 have hu : ∀ j u,n = j + 1 → z[j]? = some u → u < t:=fun j u h1 h2 => by
  subst h1
  have hj : j < z.length:=by omega
  rw [List.getElem?_eq_getElem hj,Option.some.injEq] at h2
  rw [List.getElem?_eq_getElem hk,Option.some.injEq] at ht
  rw [← h2,← ht]
  exact List.pairwise_iff_getElem.1 hup j (j + 1) hj hk (by omega)
 have hk4 : ∀ E,restrict [1,2,3,4,9,10,11,12] E = k40 (.sl lb.length (ints lb)) (.val (.int .u8 c)) x y z n (bxN cv nv rv) (.sl la.length (ints la)) → WB ⟨C,0,0,[4]⟩ (.block 1 (.seq k4 (.cond (ux 105) (.seq (.regN [] [kx 8 (.mv cF)]) .ret) .skip))) (Fol ⟨C,0,0,[4]⟩ (.regN [1,2,3,4,9,10,11,12] [kM 60 12,kU 61 60,kM 12 61]) P) E H:=fun E hE => by
  rw [wb_block,wb_seq]
  refine k4_ok hk hz ht ⟨hta.1,hta.2.1⟩ hu hN hta.2.2 h19 hE fun E' h105 hE' => ?_
  rw [fol_nrm,wb_false (ev_bo h105),wb_skip,blk_nrm,fol_nrm,wb_regN,hE']
  have w : IntKind.i64.wrap ((n : Int) + 1) = (n : Int) + 1:=wrap64 (by omega) (by omega)
  unfold k40
  simp [w]
  rw [← hP,rnd_nrm]
  exact ⟨n + 1,hk,by omega,rfl,rfl⟩
 generalize (.block 1 (.seq k4 (.cond (ux 105) (.seq (.regN [] [kx 8 (.mv cF)]) .ret) .skip)) : AC) = F at hk4 ⊢
 unfold k40 at *
 simp [hk]
 exact hk4 _ rfl
theorem fill4 {zz : Nat} {a b bx z' : AV} (hx : x.length ≤ 1000000) (hzz : H.length = zz) (ha : noBx [(1,a),(2,b),(3,z')] = true)
  (hE : restrict [1,2,4,9,10,11,13,14] E = [(1,a),(2,b),(4,bx),(9,.sl x.length (ints x)),(10,.sl y.length (ints y)),(11,z'),(13,.mp zz),(14,I 0)])
  (hQ : ∀ E',restrict [1,2,4,10,11,13] E' = [(1,a),(2,b),(4,bx),(10,.sl y.length (ints y)),(11,z'),(13,.mp zz)] → Q .nrm E' (H ++ [.map (mE (x.foldl addI []))])) :
  WB ⟨C,0,0,[4]⟩ (.block 2 (.loop [1,2,4,9,10,11,13,14] t4L2)) Q E (H ++ [.map (mE [])]):=by
 subst hzz
 refine wb_loop (σ:=Nat × List Int) (fun n => [(1,a),(2,b),(4,bx),(9,.sl x.length (ints x)),(10,.sl y.length (ints y)),(11,z'),(13,.mp H.length),(14,I n.1)]) (fun n => H ++ [.map (mE n.2)]) (fun n => n.1 ≤ x.length ∧ (x.drop n.1).foldl addI n.2 = x.foldl addI []) (fun n => x.length - n.1) ?_ (0,[]) ⟨Nat.zero_le _,rfl⟩ hE rfl
 rintro ⟨n,m⟩ ⟨hn,hf⟩
 dsimp only at hn hf ⊢
 unfold t4L2
 generalize hP : Rnd _ _ _ _ _ _ _ = P
 by_cases hk : n < x.length
 case neg =>
  obtain rfl : n = x.length:=by omega
  rw [List.drop_length] at hf
  have hf : m = _:=hf
  rw [← hf] at hQ
  simp
  rw [← hP]
  exact hQ _ rfl
 obtain ⟨t,ht⟩ : ∃ t,x[n] = t:=⟨_,rfl⟩
 rw [List.drop_eq_getElem_cons hk,ht] at hf
 have hf : (x.drop (n + 1)).foldl addI (addI m t) = x.foldl addI []:=hf
 have hii : (ints x)[n]'(by rw [ints_len];exact hk) = I t:=by simp [ints,ht]
 have w : IntKind.i64.wrap ((n : Int) + 1) = (n : Int) + 1:=wrap64 (by omega) (by omega)
 have hms:=mset_mE m t
 have hkk : keyOk false [1] (I t) = true:=by simp [keyOk,eqKey,eqScalar]
 simp [hk,hii,hms,hkk,w]
 rw [← hP,rnd_nrm]
 exact ⟨(n + 1,addI m t),⟨hk,hf⟩,by show x.length - (n + 1) < x.length - n;omega,rfl,rfl⟩
theorem fill42 {zz : Nat} {a b bx z' : AV} {m0 : List Int} (hx : y.length ≤ 1000000) (hzz : H.length = zz) (ha : noBx [(1,a),(2,b),(3,z')] = true)
  (hE : restrict [1,2,4,10,11,13,15] E = [(1,a),(2,b),(4,bx),(10,.sl y.length (ints y)),(11,z'),(13,.mp zz),(15,I 0)])
  (hQ : ∀ E',restrict [1,2,4,11,13] E' = [(1,a),(2,b),(4,bx),(11,z'),(13,.mp zz)] → Q .nrm E' (H ++ [.map (mE (y.foldl addI m0))])) :
  WB ⟨C,0,0,[4]⟩ (.block 4 (.loop [1,2,4,10,11,13,15] t4L3)) Q E (H ++ [.map (mE m0)]):=by
 subst hzz
 refine wb_loop (σ:=Nat × List Int) (fun n => [(1,a),(2,b),(4,bx),(10,.sl y.length (ints y)),(11,z'),(13,.mp H.length),(15,I n.1)]) (fun n => H ++ [.map (mE n.2)]) (fun n => n.1 ≤ y.length ∧ (y.drop n.1).foldl addI n.2 = y.foldl addI m0) (fun n => y.length - n.1) ?_ (0,m0) ⟨Nat.zero_le _,rfl⟩ hE rfl
 rintro ⟨n,m⟩ ⟨hn,hf⟩
 dsimp only at hn hf ⊢
 unfold t4L3
 generalize hP : Rnd _ _ _ _ _ _ _ = P
 by_cases hk : n < y.length
 case neg =>
  obtain rfl : n = y.length:=by omega
  rw [List.drop_length] at hf
  have hf : m = _:=hf
  rw [← hf] at hQ
  simp
  rw [← hP]
  exact hQ _ rfl
 obtain ⟨t,ht⟩ : ∃ t,y[n] = t:=⟨_,rfl⟩
 rw [List.drop_eq_getElem_cons hk,ht] at hf
 have hf : (y.drop (n + 1)).foldl addI (addI m t) = y.foldl addI m0:=hf
 have hii : (ints y)[n]'(by rw [ints_len];exact hk) = I t:=by simp [ints,ht]
 have w : IntKind.i64.wrap ((n : Int) + 1) = (n : Int) + 1:=wrap64 (by omega) (by omega)
 have hms:=mset_mE m t
 have hkk : keyOk false [1] (I t) = true:=by simp [keyOk,eqKey,eqScalar]
 simp [hk,hii,hms,hkk,w]
 rw [← hP,rnd_nrm]
 exact ⟨(n + 1,addI m t),⟨hk,hf⟩,by show y.length - (n + 1) < y.length - n;omega,rfl,rfl⟩
end
end Go.Proofs.Ytnhennjliinplaa
