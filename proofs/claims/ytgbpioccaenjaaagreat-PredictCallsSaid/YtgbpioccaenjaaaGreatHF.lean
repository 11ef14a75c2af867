import Derived.Test.YtgbpioccaenjaaaGreatHE
import Derived.Test.YtgbpioccaenjaaaGreatLv
import Derived.Test.YtgbpioccaenjaaaGreatOg
set_option linter.unusedSimpArgs false
set_option linter.unusedVariables false
namespace Go.Proofs.YtgbpioccaenjaaaGreat
open Go Go.Hm

theorem own_at {lk lim : Nat} {H : Heap} (g : Gm) (hl : g.ps.length ≤ 1000000) (hr : ∀ p ∈ g.ps,p.r.length ≤ 1000000) : callW X A lk lim 8 [gV g] H = some (gV g,H):=by
 refine callW_prim (r:=(gV g,H)) ?_
 show withFun 24 conflictG (withFun 8 ownG X0) lk lim 8 [gV g] H = _
 unfold withFun
 rw [if_neg (by decide),if_pos rfl]
 have : ownG [gV g] H = some (gV g):=by
  show (match prodsA (psC g.ps) with
   | some ps => if ps.length = g.ps.length ∧ g.ps.length ≤ 1000000 ∧ ps.all (fun p => decide (p.2.length ≤ 1000000)) = true then some (gV g) else none
   | none => none) = _
  rw [prodsA_of]
  simp only
  rw [if_pos ⟨by simp,hl,List.all_eq_true.2 fun q hq => by
   obtain ⟨p,hp,rfl⟩:=List.mem_map.1 hq
   exact decide_eq_true (hr p hp)⟩]
 rw [this]
abbrev B3 : List Nat:=[7,8,9,15,16,18,19,21,23]
section
variable {C : Orc} {Q : Ex → Kt} {E : Env} {g1 g2 g3 : AV} {m : Nat} {cs : List AV} {row : List UInt8} {left k : Int} {nk : Nat} {kc : List AV} {n1 n2 : Nat} {t1 t2 : List AV} {l a b : Nat} {x : List UInt8} {e : Int} {s : Bool} {tv uv : AV}
abbrev cE (row : List UInt8) (left k : Int) (nk : Nat) (kc : List AV) (g1 g2 g3 : AV) (m : Nat) (cs : List AV) (n1 : Nat) (t1 : List AV) (n2 : Nat) (t2 : List AV) : Env:=
 [(3,I left),(4,Sg row),(5,.sl nk kc),(6,I k),(7,.box [g1,g2,g3,.sl m cs]),(8,.box [.sl n1 t1]),(9,.box [.sl n2 t2])]
set_option maxRecDepth 20000 in
theorem r51 (htv : Nz tv) (hE : restrict [3,4,5,6,7,8,9] E = cE row left k nk kc g1 g2 g3 m cs n1 t1 n2 t2)
  (h8 : C 0 0 8 [.agg [g1,g2,g3,.sl m cs]] [] = some (.agg [g1,g2,g3,.sl m cs],[]))
  (kb : C 0 0 7 [.agg [g1,g2,g3,.sl m cs]] [] = some (.tup [.agg [tv],.agg [I l,I a,I b,Sg x],I e],[]))
  (hQ : ∀ E',restrict [3,4,5,6,7,8,9,15,16,17] E' = cE row left k nk kc g1 g2 g3 m cs n1 t1 n2 t2 ++ [(15,.box [tv]),(16,.box [I l,I a,I b,Sg x]),(17,I e)] → Q .nrm E' []) :
  WB ⟨C,0,0,B3⟩ (.regN [3,4,5,6,7,8,9] [ kx 51 (.ldA (some 7) 4 (ux 7)),kx 52 (.call 8 [.tmp 51]),kx 53 (.call 7 [.tmp 52]),kx 50 (um 53),kx 54 (.ext (ux 50) 0),kx 55 (.ext (ux 50) 1),kx 56 (.ext (ux 50) 2),kx 15 (.allocR [.e0]),kx 16 (.allocR [(.val (.int .i64 0)),(.val (.int .i64 0)),(.val (.int .i64 0)),(.val (.string ⟨#[]⟩))]),kn (.st (some 15) 1 (ux 15) (ux 54)),kn (.st (some 16) 4 (ux 16) (ux 55)),kx 17 (um 56)]) Q E []:=by
 rw [wb_regN,hE]
 rcases htv with rfl | ⟨m1,c1,rfl⟩
 all_goals
  simp [h8,kb,replaceAt]
  refine hQ _ ?_
  rfl
set_option maxRecDepth 20000 in
theorem r58 (htv : Nz tv) (huv : Nz uv) (hE : restrict [3,4,5,6,7,8,9,15,16,17] E = cE row left k nk kc g1 g2 g3 m cs n1 t1 n2 t2 ++ [(15,.box [tv]),(16,.box [I l,I a,I b,Sg x]),(17,I e)])
  (kb : C 0 0 9 [.agg [g1,g2,g3,.sl m cs]] [] = some (.tup [.agg [uv],.agg [I l,I a,I b,Sg x],I e],[]))
  (hQ : ∀ E',restrict [3,4,5,6,7,8,9,15,16,17,18,19,20] E' = cE row left k nk kc g1 g2 g3 m cs n1 t1 n2 t2 ++ [(15,.box [tv]),(16,.box [I l,I a,I b,Sg x]),(17,I e),(18,.box [uv]),(19,.box [I l,I a,I b,Sg x]),(20,I e)] → Q .nrm E' []) :
  WB ⟨C,0,0,B3⟩ (.regN [3,4,5,6,7,8,9,15,16,17] [ kx 58 (.ldA (some 7) 4 (ux 7)),kx 59 (.call 9 [.tmp 58]),kx 57 (um 59),kx 60 (.ext (ux 57) 0),kx 61 (.ext (ux 57) 1),kx 62 (.ext (ux 57) 2),kx 18 (.allocR [.e0]),kx 19 (.allocR [(.val (.int .i64 0)),(.val (.int .i64 0)),(.val (.int .i64 0)),(.val (.string ⟨#[]⟩))]),kn (.st (some 18) 1 (ux 18) (ux 60)),kn (.st (some 19) 4 (ux 19) (ux 61)),kx 20 (um 62)]) Q E []:=by
 rw [wb_regN,hE]
 rcases huv with rfl | ⟨m1,c1,rfl⟩
 all_goals
  simp [kb,replaceAt]
  refine hQ _ ?_
  rfl
set_option maxRecDepth 20000 in
theorem r64 (hE : restrict [3,4,5,6,7,8,9,15,16,17,18,19,20] E = cE row left k nk kc g1 g2 g3 m cs n1 t1 n2 t2 ++ [(15,.box [tv]),(16,.box [I l,I a,I b,Sg x]),(17,I e),(18,.box [uv]),(19,.box [I l,I a,I b,Sg x]),(20,I e)])
  (kb : C 0 0 10 [.agg [g1,g2,g3,.sl m cs]] [] = some (.tup [.agg [I l,I a,I b,Sg x],Bo s],[]))
  (hQ : ∀ E',restrict [3,4,5,6,7,8,9,15,16,17,18,19,20,21,22] E' = cE row left k nk kc g1 g2 g3 m cs n1 t1 n2 t2 ++ [(15,.box [tv]),(16,.box [I l,I a,I b,Sg x]),(17,I e),(18,.box [uv]),(19,.box [I l,I a,I b,Sg x]),(20,I e),(21,.box [I l,I a,I b,Sg x]),(22,Bo s)] → Q .nrm E' []) :
  WB ⟨C,0,0,B3⟩ (.regN [3,4,5,6,7,8,9,15,16,17,18,19,20] [ kx 64 (.ldA (some 7) 4 (ux 7)),kx 65 (.call 10 [.tmp 64]),kx 63 (um 65),kx 66 (.ext (ux 63) 0),kx 67 (.ext (ux 63) 1),kx 21 (.allocR [(.val (.int .i64 0)),(.val (.int .i64 0)),(.val (.int .i64 0)),(.val (.string ⟨#[]⟩))]),kn (.st (some 21) 4 (ux 21) (ux 66)),kx 22 (um 67)]) Q E []:=by
 rw [wb_regN,hE]
 simp [kb,replaceAt]
 refine hQ _ ?_
 rfl
set_option maxRecDepth 20000 in
theorem r69 (hE : restrict [3,4,5,6,7,8,9,15,16,17,18,19,20,21,22] E = cE row left k nk kc g1 g2 g3 m cs n1 t1 n2 t2 ++ [(15,.box [tv]),(16,.box [I l,I a,I b,Sg x]),(17,I e),(18,.box [uv]),(19,.box [I l,I a,I b,Sg x]),(20,I e),(21,.box [I l,I a,I b,Sg x]),(22,Bo s)])
  (kb : C 0 0 11 [.agg [g1,g2,g3,.sl m cs]] [] = some (.tup [.agg [I l,I a,I b,Sg x],Bo s],[]))
  (hQ : ∀ E',restrict [3,4,5,6,7,8,9,15,16,17,18,19,20,21,22,23,24] E' = cE row left k nk kc g1 g2 g3 m cs n1 t1 n2 t2 ++ [(15,.box [tv]),(16,.box [I l,I a,I b,Sg x]),(17,I e),(18,.box [uv]),(19,.box [I l,I a,I b,Sg x]),(20,I e),(21,.box [I l,I a,I b,Sg x]),(22,Bo s),(23,.box [I l,I a,I b,Sg x]),(24,Bo s)] → Q .nrm E' []) :
  WB ⟨C,0,0,B3⟩ (.regN [3,4,5,6,7,8,9,15,16,17,18,19,20,21,22] [ kx 69 (.ldA (some 7) 4 (ux 7)),kx 70 (.call 11 [.tmp 69]),kx 68 (um 70),kx 71 (.ext (ux 68) 0),kx 72 (.ext (ux 68) 1),kx 23 (.allocR [(.val (.int .i64 0)),(.val (.int .i64 0)),(.val (.int .i64 0)),(.val (.string ⟨#[]⟩))]),kn (.st (some 23) 4 (ux 23) (ux 71)),kx 24 (um 72)]) Q E []:=by
 rw [wb_regN,hE]
 simp [kb,replaceAt]
 refine hQ _ ?_
 rfl
set_option maxRecDepth 20000 in
set_option maxHeartbeats 2000000 in
theorem r73 {ac p : Int} {sb : Bool} {rw' : List UInt8} (htv : Nz tv) (huv : Nz uv)
  (hE : restrict [3,4,5,6,7,8,9,15,16,17,18,19,20,21,22,23,24] E = cE row left k nk kc g1 g2 g3 m cs n1 t1 n2 t2 ++ [(15,.box [tv]),(16,.box [I l,I a,I b,Sg x]),(17,I e),(18,.box [uv]),(19,.box [I l,I a,I b,Sg x]),(20,I e),(21,.box [I l,I a,I b,Sg x]),(22,Bo s),(23,.box [I l,I a,I b,Sg x]),(24,Bo s)])
  (h12 : C 0 0 12 [.agg [tv],.agg [uv]] [] = some (Bo true,[]))
  (h13 : C 0 0 13 [.agg [g1,g2,g3,.sl m cs]] [] = some (I ac,[])) (h14 : C 0 0 14 [.agg [g1,g2,g3,.sl m cs]] [] = some (I ac,[]))
  (h15 : C 0 0 15 [.agg [.sl n1 t1],.agg [.sl n2 t2]] [] = some (Bo sb,[])) (h12b : C 0 0 12 [.agg [.sl n1 t1],.agg [.sl n2 t2]] [] = some (Bo sb,[]))
  (h15b : C 0 0 15 [.agg [.sl n1 t1],.agg [.sl n1 t1]] [] = some (Bo true,[]))
  (h16 : C 0 0 16 [.agg [g1,g2,g3,.sl m cs],.agg [uv],I left,Sg row] [] = some (I p,[])) (h17 : C 0 0 17 [.agg [g1,g2,g3,.sl m cs],.agg [uv],I left,Sg row] [] = some (I p,[]))
  (h18 : C 0 0 18 [I k,.sl nk kc] [] = some (Sg rw',[])) (h19 : C 0 0 19 [I k,.sl nk kc] [] = some (Sg rw',[]))
  (hQ : ∀ E',find E' 14 = Bo true → Q .nrm E' []) :
  WB ⟨C,0,0,B3⟩ (.regD [3,4,5,6,7,8,9,15,16,17,18,19,20,21,22,23,24] 0 [ kx 73 (.ldA (some 15) 1 (ux 15)),kx 74 (.ldA (some 18) 1 (ux 18)),kf 75 (.call 12 [(ux 73),(ux 74)]),kx 76 (um 75),ky 77 76 (.ldA (some 16) 4 (ux 16)),ky 78 76 (.ldA (some 19) 4 (ux 19)),ky 79 76 (.eqa false [1,1,1,2] (ux 77) (ux 78)),kx 80 (.pick (ux 76) (ux 79) cF),kx 81 (um 80),ky 82 81 (um 17),ky 83 81 (um 20),ky 84 81 (.bini .eql (ux 82) (ux 83)),kx 85 (.pick (ux 81) (ux 84) cF),kx 86 (um 85),ky 87 86 (.ldA (some 21) 4 (ux 21)),ky 88 86 (.ldA (some 23) 4 (ux 23)),ky 89 86 (.eqa false [1,1,1,2] (ux 87) (ux 88)),kx 90 (.pick (ux 86) (ux 89) cF),kx 91 (um 90),ky 92 91 (um 22),ky 93 91 (um 24),ky 94 91 (.eqb false (ux 92) (ux 93)),kx 95 (.pick (ux 91) (ux 94) cF),kx 96 (um 95),ky 97 96 (.ldA (some 7) 4 (ux 7)),⟨some 98,some (96,true),.call 13 [.tmp 97],0,true⟩,ky 99 96 (.ldA (some 7) 4 (ux 7)),⟨some 100,some (96,true),.call 14 [.tmp 99],0,true⟩,ky 101 96 (.bini .eql (ux 98) (ux 100)),kx 102 (.pick (ux 96) (ux 101) cF),kx 103 (um 102),ky 104 103 (.ldA (some 8) 1 (ux 8)),ky 105 103 (.ldA (some 9) 1 (ux 9)),⟨some 106,some (103,true),.call 15 [(ux 104),(ux 105)],0,true⟩,ky 107 103 (.ldA (some 8) 1 (ux 8)),ky 108 103 (.ldA (some 9) 1 (ux 9)),⟨some 109,some (103,true),.call 12 [(ux 107),(ux 108)],0,true⟩,ky 110 103 (.eqb false (ux 106) (ux 109)),kx 111 (.pick (ux 103) (ux 110) cF),kx 112 (um 111),ky 113 112 (.ldA (some 8) 1 (ux 8)),ky 114 112 (.ldA (some 8) 1 (ux 8)),⟨some 115,some (112,true),.call 15 [(ux 113),(ux 114)],0,true⟩,kx 116 (.pick (ux 112) (ux 115) cF),kx 117 (um 116),ky 118 117 (.ldA (some 7) 4 (ux 7)),ky 119 117 (.ldA (some 18) 1 (ux 18)),ky 120 117 (um 3),ky 121 117 (um 4),⟨some 122,some (117,true),.call 16 [(ux 118),(ux 119),(ux 120),(ux 121)],0,true⟩,ky 123 117 (.ldA (some 7) 4 (ux 7)),ky 124 117 (.ldA (some 18) 1 (ux 18)),ky 125 117 (um 3),ky 126 117 (um 4),⟨some 127,some (117,true),.call 17 [(ux 123),(ux 124),(ux 125),(ux 126)],0,true⟩,ky 128 117 (.bini .eql (ux 122) (ux 127)),kx 129 (.pick (ux 117) (ux 128) cF),kx 130 (um 129),ky 131 130 (um 6),ky 132 130 (um 5),⟨some 133,some (130,true),.call 18 [(ux 131),(ux 132)],0,true⟩,ky 134 130 (um 6),ky 135 130 (um 5),⟨some 136,some (130,true),.call 19 [(ux 134),(ux 135)],0,true⟩,ky 137 130 (.bins .eql (ux 133) (ux 136)),kx 138 (.pick (ux 130) (ux 137) cF),kx 14 (um 138)]) Q E []:=by
 have hq:=sg_eql rw' rw'
 have heq:=eqc_self l a b x
 rw [show (rw' == rw') = true by simp] at hq
 rw [wb_regD rfl,hE]
 rcases htv with rfl | ⟨m1,c1,rfl⟩ <;> rcases huv with rfl | ⟨m2,c2,rfl⟩
 all_goals
  simp [-wrd_cons]
  iterate 67 (rw [wrd_cons];simp [-wrd_cons,-wrd_nil,heq,h12,h13,h14,h15,h12b,h15b,h16,h17,h18,h19,hq])
  rw [wrd_nil]
  refine hQ _ ?_
  rfl
end
end Go.Proofs.YtgbpioccaenjaaaGreat

namespace Go.Proofs.YtgbpioccaenjaaaGreat
open Go Go.Hm

def tailC : AC:=(.seq (.regN [3,4,5,6,7,8,9] [ kx 51 (.ldA (some 7) 4 (ux 7)),kx 52 (.call 8 [.tmp 51]),kx 53 (.call 7 [.tmp 52]),kx 50 (um 53),kx 54 (.ext (ux 50) 0),kx 55 (.ext (ux 50) 1),kx 56 (.ext (ux 50) 2),kx 15 (.allocR [.e0]),kx 16 (.allocR [(.val (.int .i64 0)),(.val (.int .i64 0)),(.val (.int .i64 0)),(.val (.string ⟨#[]⟩))]),kn (.st (some 15) 1 (ux 15) (ux 54)),kn (.st (some 16) 4 (ux 16) (ux 55)),kx 17 (um 56)]) (.seq (.regN [3,4,5,6,7,8,9,15,16,17] [ kx 58 (.ldA (some 7) 4 (ux 7)),kx 59 (.call 9 [.tmp 58]),kx 57 (um 59),kx 60 (.ext (ux 57) 0),kx 61 (.ext (ux 57) 1),kx 62 (.ext (ux 57) 2),kx 18 (.allocR [.e0]),kx 19 (.allocR [(.val (.int .i64 0)),(.val (.int .i64 0)),(.val (.int .i64 0)),(.val (.string ⟨#[]⟩))]),kn (.st (some 18) 1 (ux 18) (ux 60)),kn (.st (some 19) 4 (ux 19) (ux 61)),kx 20 (um 62)]) (.seq (.regN [3,4,5,6,7,8,9,15,16,17,18,19,20] [ kx 64 (.ldA (some 7) 4 (ux 7)),kx 65 (.call 10 [.tmp 64]),kx 63 (um 65),kx 66 (.ext (ux 63) 0),kx 67 (.ext (ux 63) 1),kx 21 (.allocR [(.val (.int .i64 0)),(.val (.int .i64 0)),(.val (.int .i64 0)),(.val (.string ⟨#[]⟩))]),kn (.st (some 21) 4 (ux 21) (ux 66)),kx 22 (um 67)]) (.seq (.regN [3,4,5,6,7,8,9,15,16,17,18,19,20,21,22] [ kx 69 (.ldA (some 7) 4 (ux 7)),kx 70 (.call 11 [.tmp 69]),kx 68 (um 70),kx 71 (.ext (ux 68) 0),kx 72 (.ext (ux 68) 1),kx 23 (.allocR [(.val (.int .i64 0)),(.val (.int .i64 0)),(.val (.int .i64 0)),(.val (.string ⟨#[]⟩))]),kn (.st (some 23) 4 (ux 23) (ux 71)),kx 24 (um 72)]) (.seq (.regD [3,4,5,6,7,8,9,15,16,17,18,19,20,21,22,23,24] 0 [ kx 73 (.ldA (some 15) 1 (ux 15)),kx 74 (.ldA (some 18) 1 (ux 18)),kf 75 (.call 12 [(ux 73),(ux 74)]),kx 76 (um 75),ky 77 76 (.ldA (some 16) 4 (ux 16)),ky 78 76 (.ldA (some 19) 4 (ux 19)),ky 79 76 (.eqa false [1,1,1,2] (ux 77) (ux 78)),kx 80 (.pick (ux 76) (ux 79) cF),kx 81 (um 80),ky 82 81 (um 17),ky 83 81 (um 20),ky 84 81 (.bini .eql (ux 82) (ux 83)),kx 85 (.pick (ux 81) (ux 84) cF),kx 86 (um 85),ky 87 86 (.ldA (some 21) 4 (ux 21)),ky 88 86 (.ldA (some 23) 4 (ux 23)),ky 89 86 (.eqa false [1,1,1,2] (ux 87) (ux 88)),kx 90 (.pick (ux 86) (ux 89) cF),kx 91 (um 90),ky 92 91 (um 22),ky 93 91 (um 24),ky 94 91 (.eqb false (ux 92) (ux 93)),kx 95 (.pick (ux 91) (ux 94) cF),kx 96 (um 95),ky 97 96 (.ldA (some 7) 4 (ux 7)),⟨some 98,some (96,true),.call 13 [.tmp 97],0,true⟩,ky 99 96 (.ldA (some 7) 4 (ux 7)),⟨some 100,some (96,true),.call 14 [.tmp 99],0,true⟩,ky 101 96 (.bini .eql (ux 98) (ux 100)),kx 102 (.pick (ux 96) (ux 101) cF),kx 103 (um 102),ky 104 103 (.ldA (some 8) 1 (ux 8)),ky 105 103 (.ldA (some 9) 1 (ux 9)),⟨some 106,some (103,true),.call 15 [(ux 104),(ux 105)],0,true⟩,ky 107 103 (.ldA (some 8) 1 (ux 8)),ky 108 103 (.ldA (some 9) 1 (ux 9)),⟨some 109,some (103,true),.call 12 [(ux 107),(ux 108)],0,true⟩,ky 110 103 (.eqb false (ux 106) (ux 109)),kx 111 (.pick (ux 103) (ux 110) cF),kx 112 (um 111),ky 113 112 (.ldA (some 8) 1 (ux 8)),ky 114 112 (.ldA (some 8) 1 (ux 8)),⟨some 115,some (112,true),.call 15 [(ux 113),(ux 114)],0,true⟩,kx 116 (.pick (ux 112) (ux 115) cF),kx 117 (um 116),ky 118 117 (.ldA (some 7) 4 (ux 7)),ky 119 117 (.ldA (some 18) 1 (ux 18)),ky 120 117 (um 3),ky 121 117 (um 4),⟨some 122,some (117,true),.call 16 [(ux 118),(ux 119),(ux 120),(ux 121)],0,true⟩,ky 123 117 (.ldA (some 7) 4 (ux 7)),ky 124 117 (.ldA (some 18) 1 (ux 18)),ky 125 117 (um 3),ky 126 117 (um 4),⟨some 127,some (117,true),.call 17 [(ux 123),(ux 124),(ux 125),(ux 126)],0,true⟩,ky 128 117 (.bini .eql (ux 122) (ux 127)),kx 129 (.pick (ux 117) (ux 128) cF),kx 130 (um 129),ky 131 130 (um 6),ky 132 130 (um 5),⟨some 133,some (130,true),.call 18 [(ux 131),(ux 132)],0,true⟩,ky 134 130 (um 6),ky 135 130 (um 5),⟨some 136,some (130,true),.call 19 [(ux 134),(ux 135)],0,true⟩,ky 137 130 (.bins .eql (ux 133) (ux 136)),kx 138 (.pick (ux 130) (ux 137) cF),kx 14 (um 138)]) .ret)))))
section
variable {C : Orc} {E : Env} {g1 g2 g3 : AV} {m : Nat} {cs : List AV} {row : List UInt8} {left k : Int} {nk : Nat} {kc : List AV} {n1 n2 : Nat} {t1 t2 : List AV} {l a b : Nat} {x : List UInt8} {e : Int} {s : Bool} {tv uv : AV}
theorem tail_code {ac p : Int} {sb : Bool} {rw' : List UInt8} (htv : Nz tv) (huv : Nz uv)
  (hE : restrict [3,4,5,6,7,8,9] E = cE row left k nk kc g1 g2 g3 m cs n1 t1 n2 t2)
  (h8 : C 0 0 8 [.agg [g1,g2,g3,.sl m cs]] [] = some (.agg [g1,g2,g3,.sl m cs],[]))
  (kb1 : C 0 0 7 [.agg [g1,g2,g3,.sl m cs]] [] = some (.tup [.agg [tv],.agg [I l,I a,I b,Sg x],I e],[]))
  (kb2 : C 0 0 9 [.agg [g1,g2,g3,.sl m cs]] [] = some (.tup [.agg [uv],.agg [I l,I a,I b,Sg x],I e],[]))
  (kb3 : C 0 0 10 [.agg [g1,g2,g3,.sl m cs]] [] = some (.tup [.agg [I l,I a,I b,Sg x],Bo s],[]))
  (kb4 : C 0 0 11 [.agg [g1,g2,g3,.sl m cs]] [] = some (.tup [.agg [I l,I a,I b,Sg x],Bo s],[]))
  (h12 : C 0 0 12 [.agg [tv],.agg [uv]] [] = some (Bo true,[]))
  (h13 : C 0 0 13 [.agg [g1,g2,g3,.sl m cs]] [] = some (I ac,[])) (h14 : C 0 0 14 [.agg [g1,g2,g3,.sl m cs]] [] = some (I ac,[]))
  (h15 : C 0 0 15 [.agg [.sl n1 t1],.agg [.sl n2 t2]] [] = some (Bo sb,[])) (h12b : C 0 0 12 [.agg [.sl n1 t1],.agg [.sl n2 t2]] [] = some (Bo sb,[]))
  (h15b : C 0 0 15 [.agg [.sl n1 t1],.agg [.sl n1 t1]] [] = some (Bo true,[]))
  (h16 : C 0 0 16 [.agg [g1,g2,g3,.sl m cs],.agg [uv],I left,Sg row] [] = some (I p,[])) (h17 : C 0 0 17 [.agg [g1,g2,g3,.sl m cs],.agg [uv],I left,Sg row] [] = some (I p,[]))
  (h18 : C 0 0 18 [I k,.sl nk kc] [] = some (Sg rw',[])) (h19 : C 0 0 19 [I k,.sl nk kc] [] = some (Sg rw',[])) :
  WB ⟨C,0,0,B3⟩ tailC (FinT [.tmp 14] true [] (Bo true,[])) E []:=by
 unfold tailC
 rw [wb_seq]
 refine r51 htv hE h8 kb1 fun E1 h1 => ?_
 rw [fol_nrm,wb_seq]
 refine r58 htv huv h1 kb2 fun E2 h2 => ?_
 rw [fol_nrm,wb_seq]
 refine r64 h2 kb3 fun E3 h3 => ?_
 rw [fol_nrm,wb_seq]
 refine r69 h3 kb4 fun E4 h4 => ?_
 rw [fol_nrm,wb_seq]
 refine r73 htv huv h4 h12 h13 h14 h15 h12b h15b h16 h17 h18 h19 fun E5 h5 => ?_
 rw [fol_nrm,wb_ret]
 simp [h5]
end
set_option maxRecDepth 20000 in
set_option maxHeartbeats 1000000 in
theorem pcalls_code (g : Gm) (S T : Ss) (hS : ∀ l ∈ S,LRw l) (hT : ∀ l ∈ T,LRw l) (hSn : S.length ≤ 9223372036854775807) (hTn : T.length ≤ 9223372036854775807) (left : Int) (row : List UInt8) (ks : List Int) (k : Int) :
  callW X A 0 0 3 [gV g,.agg [.sl S.length (setsC S)],.agg [.sl T.length (setsC T)],I left,Sg row,.sl ks.length (ints ks),I k] [] = some (Bo true,[]):=by
 have kl:=fun (L : Nat) => lives_at (lim:=L)
 have kg:=fun (L : Nat) => light_code (lk:=0) (lim:=L) (H:=[]) g
 have k6:=fun (L : Nat) => light6_code (lk:=0) (lim:=L) (H:=[]) S hS hSn
 have k7:=fun (L : Nat) => light6_code (lk:=0) (lim:=L) (H:=[]) T hT hTn
 refine wb_callB B3 rfl A3 rfl rfl ?_
 unfold t3B
 have main : light g = true → lightT S = true → lightT T = true → ks.length ≤ 20 → ∀ E,restrict [3,4,5,6,7,8,9] E = cE row left k ks.length (ints ks) (I g.t) (I g.n) (I g.k) g.ps.length (psC g.ps) S.length (setsC S) T.length (setsC T) →
   WB ⟨callW X A,0,0,B3⟩ tailC (FinT [.tmp 14] true [] (Bo true,[])) E []:=by
  intro h1 h2 h3 h4 E hE
  obtain ⟨hl,hr⟩:=light_bd h1
  simp only [lightT,Bool.and_eq_true,decide_eq_true_eq,List.all_eq_true,lightR] at h2 h3
  have hSb : ∀ l ∈ S,l.length ≤ 1000000000:=fun l hl => by have:=(h2.1 l hl).2;omega
  have hTb : ∀ l ∈ T,l.length ≤ 1000000000:=fun l hl => by have:=(h3.1 l hl).2;omega
  obtain ⟨tv,kb1,hT1⟩:=build_code2 (lk:=0) (lim:=0) (H:=[]) (Nat.le_refl _) g hl hr
  obtain ⟨uv,kb2,hT2⟩:=rbuild_code2 (lk:=0) (lim:=0) (H:=[]) (Nat.le_refl _) g hl hr
  have kb3:=strong_code (lk:=0) (lim:=0) (H:=[]) (Nat.le_refl _) g hl hr
  have kb4:=rstrong_code (lk:=0) (lim:=0) (H:=[]) (Nat.le_refl _) g hl hr
  obtain ⟨l,a,b,x,hx⟩:=cfV_get (buildC g)
  rw [hx] at kb1 kb2 kb3 kb4
  have hbl : (buildT g).length ≤ 1000000000:=by
   unfold buildT
   split
   ·rw [lookM_len];omega
   ·simp
  have hbt : ∀ l ∈ buildT g,l.length ≤ 1000000000:=fun l hl => by
   unfold buildT at hl
   split at hl
   ·rename_i h0
    have hc : chkE g = 0:=by
     unfold buildE at h0
     split at h0
     ·assumption
     ·exact h0
    exact Nat.le_trans (look_len (gok_of hc) hl) (by decide)
   ·simp at hl
  exact tail_code (C:=callW X A) (nz_tv hT1) (nz_tv hT2) hE (own_at g hl hr) kb1 kb2 kb3 kb4
   (by have:=rsame_code (lk:=0) (lim:=0) (H:=[]) hT1 hT2 hbl hbt;rwa [decide_eq_true rfl] at this)
   (accept_code (lk:=0) (lim:=0) (H:=[]) (Nat.le_refl _) g hl hr) (raccept_code (lk:=0) (lim:=0) (H:=[]) (Nat.le_refl _) g hl hr)
   (same15_code (lk:=0) (lim:=0) (H:=[]) (setsC_tv S) (setsC_tv T) (by omega) hSb) (rsame_code (lk:=0) (lim:=0) (H:=[]) (setsC_tv S) (setsC_tv T) (by omega) hSb)
   (by have:=same15_code (lk:=0) (lim:=0) (H:=[]) (setsC_tv S) (setsC_tv S) (by omega) hSb;rwa [decide_eq_true rfl] at this)
   (predict_code (lk:=0) (lim:=0) (H:=[]) (Nat.le_refl _) g hl hr hT2 hbt left row) (rpredict_code (lk:=0) (lim:=0) (H:=[]) g hl hr hT2 hbt left row)
   (row_code (lk:=0) (lim:=0) (H:=[]) (Nat.le_refl _) k ks (by omega)) (rrow_code (lk:=0) (lim:=0) (H:=[]) (Nat.le_refl _) k ks (by omega))
 generalize hl1 : light g = b1 at kg main
 generalize lightT S = b2 at k6 main
 generalize lightT T = b3 at k7 main
 obtain ⟨t,n,kk,ps⟩:=g
 simp only [gV,Gm.cells] at kg
 generalize callW X A = C at kl kg k6 k7 main ⊢
 simp [-wb_regN,-wb_true,-wb_false,-wb_regD]
 rw [wb_regN]
 simp [-wb_regN,-wb_true,-wb_false,-wb_regD,Gm.cells]
 rw [wb_regN]
 simp [-wb_regN,-wb_true,-wb_false,-wb_regD,kl]
 rw [wb_false rfl,wb_skip,fol_nrm,wb_seq,wb_seq,wb_regN]
 cases b1 with
 | false =>
  simp [-wb_regN,-wb_true,-wb_false,-wb_regD,kg]
  rw [wb_true rfl]
  simp
 | true =>
  cases b2 with
  | false =>
   simp [-wb_regN,-wb_true,-wb_false,-wb_regD,kg,k6]
   rw [wb_true rfl]
   simp
  | true =>
   cases b3 with
   | false =>
    simp [-wb_regN,-wb_true,-wb_false,-wb_regD,kg,k6,k7]
    rw [wb_true rfl]
    simp
   | true =>
    by_cases hrow : 20 < row.length
    ·have hrow2 : (20 : Int) < row.length:=by omega
     simp [-wb_regN,-wb_true,-wb_false,-wb_regD,kg,k6,k7,Sg_size,hrow2]
     rw [wb_true rfl]
     simp
    have hrow2 : ¬ (20 : Int) < row.length:=by omega
    by_cases hks : 20 < ks.length
    ·have hks2 : (20 : Int) < ks.length:=by omega
     simp [-wb_regN,-wb_true,-wb_false,-wb_regD,kg,k6,k7,Sg_size,hrow2,hks2]
     rw [wb_true rfl]
     simp
    have hks2 : ¬ (20 : Int) < ks.length:=by omega
    simp [-wb_regN,-wb_true,-wb_false,-wb_regD,kg,k6,k7,Sg_size,hrow2,hks2]
    rw [wb_false rfl,wb_skip,fol_nrm]
    refine main rfl rfl rfl (by omega) _ ?_
    simp
end Go.Proofs.YtgbpioccaenjaaaGreat
