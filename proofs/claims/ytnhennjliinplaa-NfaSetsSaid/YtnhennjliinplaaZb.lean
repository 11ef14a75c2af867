/- NfaSets: the regions. -/
import Derived.Test.YtnhennjliinplaaZa
set_option linter.all false
namespace Go.Proofs.Ytnhennjliinplaa
open Go Go.Hm
def xy4 : AC:=(.regD [1,2,3,4] 0 [ kP 41 4 3 4,kM 42 1,kM 43 3,kf 44 (.call 17 [(ux 41),(ux 42),(ux 43)]),kP 45 4 3 4,kM 46 2,kM 47 3,kf 48 (.call 17 [(ux 45),(ux 46),(ux 47)]),kM 9 44,kM 10 48])
def z4 : AC:=(.regD [1,2,3,4,9,10] 0 [ kP 49 4 3 4,kM 50 1,kf 51 (.call 18 [.tmp 50]),kM 52 2,kx 53 (.app 1 8 (ux 51) (ux 52)),kM 54 3,kf 55 (.call 17 [(ux 49),(ux 53),(ux 54)]),kM 11 55])
def pq4 : AC:=(.regD [1,2,4,11,13] 0 [ kP 142 4 3 4,kM 143 1,kf 144 (.call 20 [(ux 142),(ux 143)]),kP 145 4 3 4,kM 146 2,kf 147 (.call 20 [(ux 145),(ux 146)]),kP 148 4 3 4,kM 149 1,kf 150 (.call 18 [.tmp 149]),kM 151 2,kx 152 (.app 1 8 (ux 150) (ux 151)),kf 153 (.call 20 [(ux 148),(ux 152)]),kM 17 144,kM 18 147,kM 19 153])
def r4 : AC:=(.regN [11,13,17,18,19,20] [ kM 155 17,kx 156 (.bini .lss (ux 155) c0),kM 157 156,zM 158 157 18,kz 159 157 (.bini .geq (ux 158) c0),zM 160 157 159,yM 161 160 18,yM 162 160 17,ky 163 160 (.bini .lss (ux 161) (ux 162)),kz 164 157 (.pick (ux 160) (ux 163) cF),kO 165 157 164])
def f4 : AC:=(.regN [11,13,19,20] [ kM 167 13,kx 168 (.mlen (ux 167)),kM 169 11,kN 170 169,kx 171 (.bini .eql (ux 168) (ux 170)),kM 172 171,yM 173 172 19,yM 174 172 20,ky 175 172 (.bini .eql (ux 173) (ux 174)),kx 176 (.pick (ux 172) (ux 175) cF),kM 8 176])
def hZ (d : List Int) : Heap:=if d = [] then [] else [.cells (ints d)]
abbrev bxN (cv nv rv : AV) : AV:=.box [cv,nv,rv]
section
variable {C : Orc} {Q : Ex → Kt} {E : Env} {N : Nf} {cv nv rv av bv xv yv zv : AV} {vs : List AV} {c i p : Nat} {H : Heap} {x y z m la lb : List Int}
theorem xy4_ok (h1 : argOk av = true ∧ argOk bv = true) (hx : C 0 0 17 [.agg [cv,nv,rv],av,.val (.int .u8 c)] [] = some (.sl x.length (ints x),[])) (hy : C 0 0 17 [.agg [cv,nv,rv],bv,.val (.int .u8 c)] [] = some (.sl y.length (ints y),[]))
  (hE : restrict [1,2,3,4] E = [(1,av),(2,bv),(3,.val (.int .u8 c)),(4,bxN cv nv rv)]) (ha : av = .sl la.length (ints la)) (hb : bv = .sl lb.length (ints lb))
  (hQ : ∀ E',restrict [1,2,3,4,9,10] E' = [(1,av),(2,bv),(3,.val (.int .u8 c)),(4,bxN cv nv rv),(9,.sl x.length (ints x)),(10,.sl y.length (ints y))] → Q .nrm E' []) :
  WB ⟨C,0,0,[4]⟩ xy4 Q E []:=by
 unfold xy4
 rw [wb_regD rfl,hE]
 subst ha;subst hb
 simp [hx,hy]
 exact hQ _ rfl
theorem z4_ok (hla : la.length ≤ 1000 ∧ lb.length ≤ 1000)
  (h18 : C 0 0 18 [.sl la.length (ints la)] [] = some (if la = [] then (.e0,[]) else (.hs 0 la.length 0 la.length 1,[.cells (ints la)])))
  (h17 : C 0 0 17 [.agg [cv,nv,rv],if la ++ lb = [] then .e0 else .hs 0 (la ++ lb).length 0 (la ++ lb).length 1,.val (.int .u8 c)] (hZ (la ++ lb)) = some (.sl z.length (ints z),hZ (la ++ lb)))
  (hE : restrict [1,2,3,4,9,10] E = [(1,.sl la.length (ints la)),(2,.sl lb.length (ints lb)),(3,.val (.int .u8 c)),(4,bxN cv nv rv),(9,xv),(10,yv)]) (hv : xv = .sl x.length (ints x) ∧ yv = .sl y.length (ints y))
  (hQ : ∀ E',restrict [1,2,3,4,9,10,11] E' = [(1,.sl la.length (ints la)),(2,.sl lb.length (ints lb)),(3,.val (.int .u8 c)),(4,bxN cv nv rv),(9,xv),(10,yv),(11,.sl z.length (ints z))] → Q .nrm E' (hZ (la ++ lb))) :
  WB ⟨C,0,0,[4]⟩ z4 Q E []:=by
 obtain ⟨rfl,rfl⟩:=hv
 unfold z4
 rw [wb_regD rfl,hE]
 have hr : room = 140737488355328:=rfl
 have r1 : lb.length * 8 ≤ room:=by omega
 have r2 : (la.length + lb.length) * 8 ≤ room:=by omega
 have r3 : la.length * 8 ≤ room:=by omega
 clear hr
 by_cases ha : la = []
 ·subst ha
  rw [if_pos rfl] at h18
  have h18 : C 0 0 18 [.sl 0 (ints [])] [] = some (.e0,[]):=h18
  by_cases hb : lb = []
  ·subst hb
   have h17 : C 0 0 17 [.agg [cv,nv,rv],.e0,.val (.int .u8 c)] [] = some (.sl z.length (ints z),[]):=h17
   simp [h18,srcCells,h17]
   exact hQ _ rfl
  ·have h0 : ¬ lb.length = 0:=fun e => hb (List.length_eq_zero_iff.1 e)
   rw [List.nil_append] at h17 hQ
   rw [if_neg hb] at h17
   unfold hZ at h17 hQ
   rw [if_neg hb] at h17 hQ
   simp [h18,srcCells,h17,h0,r1]
   exact hQ _ rfl
 ·have h0 : ¬ la.length = 0:=fun e => ha (List.length_eq_zero_iff.1 e)
  have hab : ¬ la ++ lb = []:=by simp [ha]
  rw [if_neg ha] at h18
  rw [if_neg hab] at h17
  unfold hZ at h17 hQ
  rw [if_neg hab] at h17 hQ
  have hl : (la ++ lb).length = la.length + lb.length:=List.length_append
  have he : ints (la ++ lb) = ints la ++ ints lb:=ints_app _ _
  rw [hl] at h17
  rw [he] at h17 hQ
  have hset : setH 0 0 0 [HB.cells (ints la)] 0 (ints la ++ ints lb) (ints lb) = some [HB.cells (ints la ++ ints lb)]:=by
   unfold setH
   rw [if_pos ⟨Nat.le_refl _,.inl (Nat.zero_le _),.inl (Nat.zero_le _)⟩]
   rfl
  simp [h18,srcCells,h0,r2,appC,appG,hset]
  simp [h17]
  exact hQ _ rfl
theorem pq4_ok {p q r : Int} (hla : la.length ≤ 1000 ∧ lb.length ≤ 1000)
  (h18 : C 0 0 18 [.sl la.length (ints la)] H = some (if la = [] then (.e0,H) else (.hs H.length la.length 0 la.length 1,H ++ [.cells (ints la)])))
  (hp : C 0 0 20 [.agg [cv,nv,rv],.sl la.length (ints la)] H = some (I p,H)) (hq : C 0 0 20 [.agg [cv,nv,rv],.sl lb.length (ints lb)] H = some (I q,H))
  (h20 : C 0 0 20 [.agg [cv,nv,rv],if la ++ lb = [] then .e0 else .hs H.length (la ++ lb).length 0 (la ++ lb).length 1] (H ++ hZ (la ++ lb)) = some (I r,H ++ hZ (la ++ lb)))
  (hE : restrict [1,2,4,11,13] E = [(1,.sl la.length (ints la)),(2,.sl lb.length (ints lb)),(4,bxN cv nv rv),(11,zv),(13,.mp i)]) (hv : zv = .sl z.length (ints z))
  (hQ : ∀ E',restrict [11,13,17,18,19] E' = [(11,zv),(13,.mp i),(17,I p),(18,I q),(19,I r)] → Q .nrm E' (H ++ hZ (la ++ lb))) :
  WB ⟨C,0,0,[4]⟩ pq4 Q E H:=by
 subst hv
 unfold pq4
 rw [wb_regD rfl,hE]
 have hr : room = 140737488355328:=rfl
 have r1 : lb.length * 8 ≤ room:=by omega
 have r2 : (la.length + lb.length) * 8 ≤ room:=by omega
 have r3 : la.length * 8 ≤ room:=by omega
 clear hr
 by_cases ha : la = []
 ·subst ha
  rw [if_pos rfl] at h18
  have h18 : C 0 0 18 [.sl 0 (ints [])] H = some (.e0,H):=h18
  have hp : C 0 0 20 [.agg [cv,nv,rv],.sl 0 (ints [])] H = some (I p,H):=hp
  by_cases hb : lb = []
  ·subst hb
   have hq : C 0 0 20 [.agg [cv,nv,rv],.sl 0 (ints [])] H = some (I q,H):=hq
   have hz : H ++ hZ ([] ++ []) = H:=by simp [hZ]
   rw [hz] at h20 hQ
   have h20 : C 0 0 20 [.agg [cv,nv,rv],.e0] H = some (I r,H):=h20
   obtain rfl : p = q:=by
    rw [hp] at hq
    simpa using hq
   simp [hp,h18,srcCells,h20]
   exact hQ _ rfl
  ·have h0 : ¬ lb.length = 0:=fun e => hb (List.length_eq_zero_iff.1 e)
   rw [List.nil_append] at h20 hQ
   rw [if_neg hb] at h20
   unfold hZ at h20 hQ
   rw [if_neg hb] at h20 hQ
   simp [hp,hq,h18,srcCells,h20,h0,r1]
   exact hQ _ rfl
 ·have h0 : ¬ la.length = 0:=fun e => ha (List.length_eq_zero_iff.1 e)
  have hab : ¬ la ++ lb = []:=by simp [ha]
  rw [if_neg ha] at h18
  rw [if_neg hab] at h20
  unfold hZ at h20 hQ
  rw [if_neg hab] at h20 hQ
  have hl : (la ++ lb).length = la.length + lb.length:=List.length_append
  have he : ints (la ++ lb) = ints la ++ ints lb:=ints_app _ _
  rw [hl] at h20
  rw [he] at h20 hQ
  have hset : setH 0 0 0 (H ++ [HB.cells (ints la)]) H.length (ints la ++ ints lb) (ints lb) = some (H ++ [HB.cells (ints la ++ ints lb)]):=by
   unfold setH
   rw [if_pos ⟨Nat.zero_le _,.inl (Nat.zero_le _),.inl (Nat.zero_le _)⟩,set_last]
  simp [hp,hq,h18,srcCells,h0,r2,appC,appG,hset]
  simp [h20]
  exact hQ _ rfl
set_option maxRecDepth 20000 in
theorem f4_ok {r least : Int} {m : List Int} (hm : m.length = z.length) (hr : r = least) (hH : H[i]? = some (.map (mE m)))
  (hE : restrict [11,13,19,20] E = [(11,.sl z.length (ints z)),(13,.mp i),(19,I r),(20,I least)])
  (hQ : ∀ E',find E' 8 = Bo true → Q .nrm E' H) : WB ⟨C,0,0,[4]⟩ f4 Q E H:=by
 unfold f4
 rw [wb_regN,hE]
 subst hr
 simp [mapOf,hH,hm]
 exact hQ _ rfl
def k4 : AC:=(.regD [1,2,3,4,9,10,11,12] 0 [ kM 62 11,kM 63 12,kI 64 1 62 63,kL 65 64,kx 66 (.bini .lss (ux 65) c1),kM 67 66,zM 68 67 11,zM 69 67 12,zI 70 67 1 68 69,zL 71 67 70,zF 72 67 0 4,zS 73 67 4 72,zN 74 67 73,kz 75 67 (.bini .geq (ux 71) (ux 74)),kO 76 67 75,kM 77 76,zM 78 77 12,kz 79 77 (.bini .gtr (ux 78) c0),zM 80 77 79,yM 81 80 11,yM 82 80 12,ky 83 80 (.bini .sub (ux 82) c1),yI 84 80 1 81 83,yL 85 80 84,yM 86 80 11,yM 87 80 12,yI 88 80 1 86 87,yL 89 80 88,ky 90 80 (.bini .geq (ux 85) (ux 89)),kz 91 77 (.pick (ux 80) (ux 90) cF),kO 92 77 91,kM 93 92,zF 94 93 0 4,zS 95 93 4 94,zM 96 93 11,zM 97 93 12,zI 98 93 1 96 97,zL 99 93 98,zI 100 93 4 95 99,kz 101 93 (.ldA none 4 (ux 100)),zM 102 93 3,⟨some 103,some (93,false),.call 19 [(ux 101),(ux 102)],0,true⟩,kz 104 93 (.not (ux 103)),kO 105 93 104])
def k40 (b c : AV) (x y z : List Int) (i : Nat) (bx av : AV) : Env:=[(1,av),(2,b),(3,c),(4,bx),(9,.sl x.length (ints x)),(10,.sl y.length (ints y)),(11,.sl z.length (ints z)),(12,I i)]
set_option maxRecDepth 20000 in
theorem k4_ok {t : Int} (hi : i < z.length) (hi2 : z.length ≤ 1000000) (hz : z[i]? = some t) (h1 : 1 ≤ t ∧ t < (N.k : Int)) (hup : ∀ j u,i = j + 1 → z[j]? = some u → u < t)
  (hN : NfOk N cv nv rv vs) (hh : hasC ((N.cl.drop (t.toNat * 4)).take 4) c = true) (h19 : ∀ a b' c' d (Z : Heap),C 0 0 19 [.agg [U a,U b',U c',U d],.val (.int .u8 c)] Z = some (Bo (hasC [U a,U b',U c',U d] c),Z))
  (hE : restrict [1,2,3,4,9,10,11,12] E = k40 (.sl lb.length (ints lb)) (.val (.int .u8 c)) x y z i (bxN cv nv rv) (.sl la.length (ints la)))
  (hQ : ∀ E',find E' 105 = Bo false → restrict [1,2,3,4,9,10,11,12] E' = k40 (.sl lb.length (ints lb)) (.val (.int .u8 c)) x y z i (bxN cv nv rv) (.sl la.length (ints la)) → Q .nrm E' H) :
  WB ⟨C,0,0,[4]⟩ k4 Q E H:=by
 obtain ⟨t,rfl⟩:=Int.eq_ofNat_of_zero_le (by omega : 0 ≤ t)
 have htk : t < N.k:=by omega
 obtain ⟨a0,a1,a2,a3,hcl,h4⟩:=cls_at hN.lc hN.u htk
 obtain rfl : cv = .sl N.k N.cl:=by
  rcases hN.c with ⟨_,h⟩ | h
  ·omega
  ·exact h
 rw [Int.toNat_natCast,hcl] at hh
 have h19:=h19 a0 a1 a2 a3 H
 rw [hh] at h19
 have hii : (ints z)[i]'(by rw [ints_len];exact hi) = I t:=by
  have:=List.getElem?_eq_getElem hi
  rw [hz] at this
  simp only [Option.some.injEq] at this
  simp [ints,← this]
 have b1 : ¬ ((t : Int) < 1):=by omega
 have b2 : ¬ ((N.k : Int) ≤ (t : Int)):=by omega
 unfold k4
 unfold k40 at *
 rw [wb_regD rfl,hE]
 rcases Nat.eq_zero_or_pos i with h0 | h0
 ·subst h0
  iterate 44 (rw [wrd_cons];simp [-wrd_cons,-wrd_nil,hi,hii,b1,b2,htk,hcl,h4,h19])
  rw [wrd_nil]
  exact hQ _ rfl rfl
 ·obtain ⟨j,rfl⟩ : ∃ j,i = j + 1:=⟨i - 1,by omega⟩
  obtain ⟨u,hu⟩ : ∃ u,z[j]? = some u:=⟨z[j],List.getElem?_eq_getElem (by omega)⟩
  have hut:=hup j u rfl hu
  have hjj : (ints z)[j]'(by rw [ints_len];omega) = I u:=by
   have:=List.getElem?_eq_getElem (show j < z.length by omega)
   rw [hu] at this
   simp only [Option.some.injEq] at this
   simp [ints,← this]
  have hj : j < z.length:=by omega
  have b3 : ¬ ((t : Int) ≤ u):=by omega
  have b4 : (0 : Int) < (j : Int) + 1:=by omega
  have b5 : (0 : Int) ≤ (j : Int) + 1:=by omega
  have b6 : (j : Int) + 1 < (z.length : Int):=by omega
  have w : IntKind.i64.wrap (j : Int) = (j : Int):=wrap64 (by omega) (by omega)
  iterate 44 (rw [wrd_cons];simp [-wrd_cons,-wrd_nil,hi,hii,hj,hjj,b1,b2,b3,b4,b5,b6,htk,hcl,h4,h19,w])
  rw [wrd_nil]
  exact hQ _ rfl rfl
end
end Go.Proofs.Ytnhennjliinplaa
