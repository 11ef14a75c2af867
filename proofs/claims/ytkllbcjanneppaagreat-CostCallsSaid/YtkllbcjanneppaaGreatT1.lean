/- The functions of a program, compiled: printed by wip/hm/tools/Gen.lean. -/
import Derived.Test.YtkllbcjanneppaaGreatHmG10
import Derived.Test.YtkllbcjanneppaaGreatHmG12
import Derived.Test.YtkllbcjanneppaaGreatRw
import Derived.Test.YtkllbcjanneppaaGreatRg
import Derived.Test.YtkllbcjanneppaaGreatCg
import Derived.Test.YtkllbcjanneppaaGreatRn
import Derived.Test.YtkllbcjanneppaaGreatRows
namespace Go.Proofs.YtkllbcjanneppaaGreat
open Go Go.Hm
abbrev kx (d:Nat)(o:AOp):AI:=⟨some d,none,o,0,false⟩
abbrev ky (d g:Nat)(o:AOp):AI:=⟨some d,some (g,true),o,0,false⟩
abbrev kz (d g:Nat)(o:AOp):AI:=⟨some d,some (g,false),o,0,false⟩
abbrev kn (o:AOp):AI:=⟨none,none,o,0,false⟩
abbrev kf (d:Nat)(o:AOp):AI:=⟨some d,none,o,0,true⟩
abbrev ux (n:Nat):AO:=.tmp n
abbrev um (n:Nat):AOp:=.mv (.tmp n)
abbrev c0:AO:=.con (.val (.int .i64 0))
abbrev c1:AO:=.con (.val (.int .i64 1))
abbrev cT:AO:=.con (.val (.bool true))
abbrev cF:AO:=.con (.val (.bool false))
abbrev kM (d x:Nat):=kx d (um x)
abbrev zM (d g x:Nat):=kz d g (um x)
abbrev yM (d g x:Nat):=ky d g (um x)
abbrev kL (d x:Nat):=kx d (.ld1 none (ux x))
abbrev zL (d g x:Nat):=kz d g (.ld1 none (ux x))
abbrev yL (d g x:Nat):=ky d g (.ld1 none (ux x))
abbrev kF (d n x:Nat):=kx d (.fldA n (ux x))
abbrev zF (d g n x:Nat):=kz d g (.fldA n (ux x))
abbrev yF (d g n x:Nat):=ky d g (.fldA n (ux x))
abbrev kI (d e x y:Nat):=kx d (.ixA e (ux x) (ux y))
abbrev zI (d g e x y:Nat):=kz d g (.ixA e (ux x) (ux y))
abbrev yI (d g e x y:Nat):=ky d g (.ixA e (ux x) (ux y))
abbrev kS (d b x:Nat):=kx d (.ld1 (some b) (ux x))
abbrev zS (d g b x:Nat):=kz d g (.ld1 (some b) (ux x))
abbrev yS (d g b x:Nat):=ky d g (.ld1 (some b) (ux x))
abbrev kN (d x:Nat):=kx d (.len false (ux x))
abbrev zN (d g x:Nat):=kz d g (.len false (ux x))
abbrev yN (d g x:Nat):=ky d g (.len false (ux x))
abbrev kP (d b n x:Nat):=kx d (.ldA (some b) n (ux x))
abbrev kT (d x y:Nat):=kx d (.bini .lss (ux x) (ux y))
abbrev kU (d x:Nat):=kx d (.bini .add (ux x) c1)
abbrev kO (d x y:Nat):=kx d (.pick (ux x) cT (ux y))
abbrev kZ (d:Nat):=kx d (.mv c0)
abbrev kB (d n x:Nat):=kx d (.boxR n (ux x))
abbrev kE (d x n:Nat):=kx d (.ext (ux x) n)
abbrev kC (d f x:Nat):=kx d (.call f [.tmp x])
attribute [simp] kx ky kz kn kf ux um c0 c1 cT cF kM zM yM kL zL yL kF zF yF kI zI yI kS zS yS kN zN yN kP kT kU kO kZ kB kE kC
abbrev sr (k:List Nat)(o:List AI)(c:AC):AC:=.seq (.regN k o) c
abbrev sd (k:List Nat)(m:Nat)(o:List AI)(c:AC):AC:=.seq (.regD k m o) c
attribute [simp] sr sd
def t4B:AC:=(sr [0,1,2,3] [
 kB 4 4 0,kB 5 1 1,kx 8 (.mv cF)]
 (.seq (sr [2,3,4,5] [
 kx 17 (.call 9 []),kx 18 (.not (ux 17))]
 (.cond (ux 18)
 (sr [] [
 kx 8 (.mv cF)]
 .ret)
 .skip))
 (.seq (sr [2,3,4,5] [
 kP 19 4 4 4,kC 20 17 19,kx 21 (.not (ux 20)),kM 22 21,zM 23 22 3,kz 24 22 (.len true (ux 23)),kz 25 22 (.bini .gtr (ux 24) (.con (.val (.int .i64 12)))),kO 26 22 25,kM 27 26,zF 28 27 0 5,zS 29 27 5 28,zN 30 27 29,kz 31 27 (.bini .gtr (ux 30) (.con (.val (.int .i64 40)))),kO 32 27 31]
 (.cond (ux 32)
 (sr [] [
 kx 8 (.mv cT)]
 .ret)
 .skip))
 (.seq (sr [2,3,4,5] [
 kM 33 2]
 (.cond (ux 33)
 (.regN [3,4,5] [
 kP 34 4 4 4,kC 35 12 34,kn (.st (some 5) 1 (ux 5) (ux 35))])
 .skip))
 (sr [3,4,5] [
 kP 37 4 4 4,kP 38 5 1 5,kM 39 3,kx 40 (.call 11 [(ux 37),(ux 38),(ux 39)]),kM 36 40,kE 41 36 0,kE 42 36 1,kM 9 41,kM 10 42]
 (sr [3,4,5,9,10] [
 kP 44 4 4 4,kP 45 5 1 5,kM 46 3,kx 47 (.call 18 [(ux 44),(ux 45),(ux 46)]),kM 43 47,kE 48 43 0,kE 49 43 1,kM 11 48,kM 12 49]
 (sr [3,4,5,9,10,11,12] [
 kP 51 4 4 4,kP 52 5 1 5,kM 53 3,kx 54 (.call 19 [(ux 51),(ux 52),(ux 53)]),kM 50 54,kE 55 50 0,kE 56 50 1,kM 13 55,kM 14 56]
 (sr [3,4,5,9,10,11,12,13,14] [
 kP 58 4 4 4,kP 59 5 1 5,kM 60 3,kx 61 (.call 20 [(ux 58),(ux 59),(ux 60)]),kM 57 61,kE 62 57 0,kE 63 57 1,kM 15 62,kM 16 63]
 (sd [4,9,10,11,12,13,14,15,16] 0 [
 kM 64 9,kM 65 11,kf 66 (.call 13 [(ux 64),(ux 65)]),kM 67 66,yM 68 67 10,yM 69 67 12,ky 70 67 (.eqb false (ux 68) (ux 69)),kx 71 (.pick (ux 67) (ux 70) cF),kM 72 71,yM 73 72 13,yM 74 72 15,ky 75 72 (.bini .eql (ux 73) (ux 74)),kx 76 (.pick (ux 72) (ux 75) cF),kM 77 76,yM 78 77 14,yM 79 77 16,ky 80 77 (.eqb false (ux 78) (ux 79)),kx 81 (.pick (ux 77) (ux 80) cF),kM 82 81,ky 83 82 (.ldA (some 4) 4 (ux 4)),⟨some 84,some (82,true),.call 14 [.tmp 83],0,true⟩,ky 85 82 (.ldA (some 4) 4 (ux 4)),⟨some 86,some (82,true),.call 21 [.tmp 85],0,true⟩,⟨some 87,some (82,true),.call 13 [(ux 84),(ux 86)],0,true⟩,kx 88 (.pick (ux 82) (ux 87) cF),kM 89 88,ky 90 89 (.ldA (some 4) 4 (ux 4)),⟨some 91,some (89,true),.call 15 [.tmp 90],0,true⟩,ky 92 89 (.ldA (some 4) 4 (ux 4)),⟨some 93,some (89,true),.call 22 [.tmp 92],0,true⟩,⟨some 94,some (89,true),.call 13 [(ux 91),(ux 93)],0,true⟩,kx 95 (.pick (ux 89) (ux 94) cF),kM 96 95,ky 97 96 (.ldA (some 4) 4 (ux 4)),⟨some 98,some (96,true),.call 16 [.tmp 97],0,true⟩,ky 99 96 (.ldA (some 4) 4 (ux 4)),⟨some 100,some (96,true),.call 23 [.tmp 99],0,true⟩,ky 101 96 (.bini .eql (ux 98) (ux 100)),kx 102 (.pick (ux 96) (ux 101) cF),kM 8 102]
 .ret)))))))))
def t4:AFn:=⟨4,t4B,
 [.tmp 8],true⟩
def t9B:AC:=(sr [] [
 kx 0 (.mv cF)]
 (sr [] [
 kx 6 (.call 10 []),kx 7 (.call 10 []),kC 8 12 7,kx 9 (.call 11 [(ux 6),(ux 8),(.con (.val (.string ⟨#[0,0]⟩)))]),kM 5 9,kE 10 5 0,kE 11 5 1,kM 1 10,kM 2 11]
 (sr [1,2] [
 kx 13 (.call 10 []),kx 14 (.call 10 []),kC 15 12 14,kx 16 (.call 19 [(ux 13),(ux 15),(.con (.val (.string ⟨#[0,0]⟩)))]),kM 12 16,kE 17 12 0,kE 18 12 1,kM 3 17,kM 4 18]
 (sr [1,2,3,4] [
 kM 19 2,kM 20 19,yM 21 20 1,ky 22 20 (.buildS 3 [(.val (.int .i64 0)),(.val (.int .i64 0)),(.val (.int .i64 0))] [(0,1,c0),(1,1,c0),(2,1,c1)]),ky 23 20 (.call 13 [(ux 21),(ux 22)]),kx 24 (.pick (ux 20) (ux 23) cF),kM 25 24,yM 26 25 4,kx 27 (.pick (ux 25) (ux 26) cF),kM 28 27,yM 29 28 3,ky 30 28 (.bini .eql (ux 29) (.con (.val (.int .i64 5)))),kx 31 (.pick (ux 28) (ux 30) cF),kM 32 31,ky 33 32 (.call 10 []),ky 34 32 (.call 16 [.tmp 33]),ky 35 32 (.bini .eql (ux 34) (.con (.val (.int .i64 4)))),kx 36 (.pick (ux 32) (ux 35) cF),kM 0 36]
 .ret))))
def t9:AFn:=⟨0,t9B,
 [.tmp 0],true⟩
def Np:AC:=(sr [] [
 kx 0 (.allocR [(.val (.int .i64 0)),(.val (.int .i64 0)),(.val (.int .i64 0)),.e0])]
 (sr [0] [
 kx 1 (.buildS 2 [(.val (.int .i64 0)),(.val (.int .i64 0))] [(0,1,c0),(1,1,c1)]),kx 2 (.build [(.val (.int .i64 0)),.e0] [(0,1,c0),(1,1,(ux 1))]),kx 3 (.build [(.val (.int .i64 0)),.e0] [(0,1,c0)]),kx 4 (.buildS 2 [(.val (.int .i64 0)),.e0,(.val (.int .i64 0)),.e0] [(0,2,(ux 2)),(2,2,(ux 3))]),kx 5 (.build [(.val (.int .i64 0)),(.val (.int .i64 0)),(.val (.int .i64 0)),.e0] [(0,1,c1),(1,1,c1),(2,1,c1),(3,1,(ux 4))]),kn (.st (some 0) 4 (ux 0) (ux 5))]
 .ret))
def t10:AFn:=⟨0,Np,
 [.cell 0 4 true],true⟩
def Nq:AC:=(sr [0] [
 kB 1 4 0,kx 2 (.allocR [.e0])]
 (sr [1,2] [
 kP 7 1 4 1,kC 8 30 7,kM 6 8,kE 9 6 0,kE 10 6 1,kE 11 6 2,kx 3 (.allocR [.e0]),kx 4 (.allocR [(.val (.int .i64 0)),(.val (.int .i64 0)),(.val (.int .i64 0)),(.val (.string ⟨#[]⟩))]),kn (.st (some 3) 1 (ux 3) (ux 9)),kn (.st (some 4) 4 (ux 4) (ux 10)),kM 5 11]
 (sr [2,3] [
 kP 12 3 1 3,kn (.st (some 2) 1 (ux 2) (ux 12))]
 .ret)))
def t12:AFn:=⟨1,Nq,
 [.cell 2 1 true],true⟩
def Nr:AC:=(sr [0] [
 kB 1 4 0,kx 2 (.allocR [.e0]),kx 3 (.allocR [(.val (.int .i64 0)),(.val (.int .i64 0)),(.val (.int .i64 0)),(.val (.string ⟨#[]⟩))]),kZ 4]
 (sr [1,2,3] [
 kP 9 1 4 1,kC 10 39 9,kM 5 10]
 (.seq (sr [1,2,3,5] [
 kM 11 5,kx 12 (.bini .neq (ux 11) c0)]
 (.cond (ux 12)
 (sr [2,3,5] [
 kx 13 (.build [.e0] []),kx 14 (.build [(.val (.int .i64 0)),(.val (.int .i64 0)),(.val (.int .i64 0)),(.val (.string ⟨#[]⟩))] []),kM 15 5,kn (.st (some 2) 1 (ux 2) (ux 13)),kn (.st (some 3) 4 (ux 3) (ux 14)),kM 4 15]
 .ret)
 .skip))
 (sr [1,2,3] [
 kP 16 1 4 1,kC 17 46 16,kx 6 (.allocR [.e0]),kn (.st (some 6) 1 (ux 6) (ux 17))]
 (sr [1,2,3,6] [
 kP 19 1 4 1,kP 20 6 1 6,kx 21 (.call 47 [(ux 19),(ux 20)]),kM 18 21,kE 22 18 0,kE 23 18 1,kx 7 (.allocR [(.val (.int .i64 0)),(.val (.int .i64 0)),(.val (.int .i64 0)),(.val (.string ⟨#[]⟩))]),kn (.st (some 7) 4 (ux 7) (ux 22)),kM 8 23]
 (.seq (sr [2,3,6,7,8] [
 kM 24 8]
 (.cond (ux 24)
 (sd [2,3,7] 0 [
 kx 25 (.build [.e0] []),kP 26 7 4 7,kn (.st (some 2) 1 (ux 2) (ux 25)),kn (.st (some 3) 4 (ux 3) (ux 26)),kx 4 (.mv (.con (.val (.int .i64 9))))]
 .ret)
 .skip))
 (sr [2,3,6] [
 kP 27 6 1 6,kx 28 (.build [(.val (.int .i64 0)),(.val (.int .i64 0)),(.val (.int .i64 0)),(.val (.string ⟨#[]⟩))] []),kn (.st (some 2) 1 (ux 2) (ux 27)),kn (.st (some 3) 4 (ux 3) (ux 28)),kZ 4]
 .ret)))))))
def t30:AFn:=⟨1,Nr,
 [.cell 2 1 true,.cell 3 4 true,.tmp 4],true⟩
def JJ:AC:=(.seq (sr [1,3] [
 kM 26 3,kF 27 3 1,kS 28 1 27,kN 29 28,kT 30 26 29]
 (.cond (ux 30)
 .skip
 (.exit 0)))
 (.seq (.block 1
 (sr [1,3] [
 kF 33 3 1,kS 34 1 33,kM 35 3,kI 36 2 34 35,kF 37 1 36,kL 38 37,kN 39 38,kx 40 (.bini .gtr (ux 39) (.con (.val (.int .i64 8))))]
 (.cond (ux 40)
 (sr [] [
 kx 2 (.mv (.con (.val (.int .i64 3))))]
 .ret)
 .skip)))
 (.regN [1,3] [
 kM 31 3,kU 32 31,kM 3 32])))
def JK:AC:=(.seq (sr [1,4,5,6] [
 kM 82 6,kF 83 1 5,kS 84 5 83,kN 85 84,kT 86 82 85]
 (.cond (ux 86)
 .skip
 (.exit 4)))
 (.seq (.block 5
 (sd [1,4,5,6] 0 [
 kF 89 1 5,kS 90 5 89,kM 91 6,kI 92 1 90 91,kL 93 92,kx 94 (.bini .lss (ux 93) c0),kM 95 94,zF 96 95 1 5,zS 97 95 5 96,zM 98 95 6,zI 99 95 1 97 98,zL 100 95 99,zF 101 95 0 1,zS 102 95 1 101,zF 103 95 1 1,zS 104 95 1 103,kz 105 95 (.bini .add (ux 102) (ux 104)),kz 106 95 (.bini .geq (ux 100) (ux 105)),kO 107 95 106]
 (.cond (ux 107)
 (sr [] [
 kx 2 (.mv (.con (.val (.int .i64 2))))]
 .ret)
 .skip)))
 (.regN [1,4,5,6] [
 kM 87 6,kU 88 87,kM 6 88])))
def JL:AC:=(.seq (sr [1,4] [
 kM 60 4,kF 61 3 1,kS 62 1 61,kN 63 62,kT 64 60 63]
 (.cond (ux 64)
 .skip
 (.exit 2)))
 (.seq (.block 3
 (sr [1,4] [
 kF 67 3 1,kS 68 1 67,kM 69 4,kI 70 2 68 69,kx 71 (.ldA none 2 (ux 70)),kx 5 (.allocR [(.val (.int .i64 0)),.e0]),kn (.st (some 5) 2 (ux 5) (ux 71))]
 (.seq (sr [1,4,5] [
 kF 72 0 5,kS 73 5 72,kx 74 (.bini .lss (ux 73) c0),kM 75 74,zF 76 75 0 5,zS 77 75 5 76,zF 78 75 1 1,zS 79 75 1 78,kz 80 75 (.bini .geq (ux 77) (ux 79)),kO 81 75 80]
 (.cond (ux 81)
 (sr [] [
 kx 2 (.mv (.con (.val (.int .i64 2))))]
 .ret)
 .skip))
 (sr [1,4,5] [
 kZ 6]
 (.block 4
 (.loop [1,4,5,6] JK))))))
 (.regN [1,4] [
 kM 65 4,kU 66 65,kM 4 66])))
def Ns:AC:=(sr [0] [
 kB 1 4 0,kZ 2]
 (.seq (sr [1] [
 kF 7 0 1,kS 8 1 7,kx 9 (.bini .gtr (ux 8) (.con (.val (.int .i64 8)))),kM 10 9,zF 11 10 1 1,zS 12 10 1 11,kz 13 10 (.bini .gtr (ux 12) (.con (.val (.int .i64 16)))),kO 14 10 13,kM 15 14,zF 16 15 2 1,zS 17 15 1 16,kz 18 15 (.bini .gtr (ux 17) (.con (.val (.int .i64 3)))),kO 19 15 18,kM 20 19,zF 21 20 3 1,zS 22 20 1 21,zN 23 20 22,kz 24 20 (.bini .gtr (ux 23) (.con (.val (.int .i64 64)))),kO 25 20 24]
 (.cond (ux 25)
 (sr [] [
 kx 2 (.mv (.con (.val (.int .i64 3))))]
 .ret)
 .skip))
 (.seq (sr [1] [
 kZ 3]
 (.block 0
 (.loop [1,3] JJ)))
 (.seq (sr [1] [
 kF 41 0 1,kS 42 1 41,kx 43 (.bini .lss (ux 42) c1),kM 44 43,zF 45 44 1 1,zS 46 44 1 45,kz 47 44 (.bini .lss (ux 46) c1),kO 48 44 47,kM 49 48,zF 50 49 2 1,zS 51 49 1 50,kz 52 49 (.bini .lss (ux 51) c1),kO 53 49 52,kM 54 53,zF 55 54 3 1,zS 56 54 1 55,zN 57 54 56,kz 58 54 (.bini .lss (ux 57) c1),kO 59 54 58]
 (.cond (ux 59)
 (sr [] [
 kx 2 (.mv (.con (.val (.int .i64 2))))]
 .ret)
 .skip))
 (.seq (sr [1] [
 kZ 4]
 (.block 2
 (.loop [1,4] JL)))
 (sr [] [
 kZ 2]
 .ret))))))
def t39:AFn:=⟨1,Ns,
 [.tmp 2],true⟩
def JM:AC:=(.seq (sr [1,2,3,4,5,6] [
 kM 13 6,kF 14 3 1,kS 15 1 14,kN 16 15,kT 17 13 16]
 (.cond (ux 17)
 .skip
 (.exit 0)))
 (.seq (.block 1
 (sr [1,2,3,4,5,6] [
 kF 20 3 1,kS 21 1 20,kM 22 6,kI 23 2 21 22,kx 24 (.ldA none 2 (ux 23)),kx 7 (.allocR [(.val (.int .i64 0)),.e0]),kn (.st (some 7) 2 (ux 7) (ux 24))]
 (.regD [1,2,3,4,5,6,7] 0 [
 kF 25 0 5,kS 26 5 25,kF 27 2 1,kS 28 1 27,kP 29 1 4 1,kM 30 3,kF 31 1 7,kS 32 7 31,kx 33 (.call 68 [(ux 29),(ux 30),(ux 32)]),kM 34 4,kF 35 0 7,kS 36 7 35,kI 37 1 34 36,kL 38 37,kf 39 (.call 67 [(ux 28),(ux 33),(ux 38)]),kx 40 (.buildS 1 [.e0] [(0,1,(ux 39))]),kx 41 (.app 1 24 (ux 26) (ux 40)),kF 42 0 5,kn (.st (some 5) 1 (ux 42) (ux 41))])))
 (.regN [1,2,3,4,5,6] [
 kM 18 6,kU 19 18,kM 6 19])))
def Nt:AC:=(sr [0] [
 kB 1 4 0,kx 2 (.allocR [.e0])]
 (sd [1,2] 0 [
 kP 8 1 4 1,kf 9 (.call 65 [.tmp 8]),kP 10 1 4 1,kf 11 (.call 66 [.tmp 10]),kM 3 9,kM 4 11]
 (sr [1,2,3,4] [
 kx 12 (.build [.e0] []),kx 5 (.allocR [.e0]),kn (.st (some 5) 1 (ux 5) (ux 12))]
 (.seq (sr [1,2,3,4,5] [
 kZ 6]
 (.block 0
 (.loop [1,2,3,4,5,6] JM)))
 (sr [2,5] [
 kP 43 5 1 5,kn (.st (some 2) 1 (ux 2) (ux 43))]
 .ret)))))
def t46:AFn:=⟨1,Nt,
 [.cell 2 1 true],true⟩
def JN:AC:=(.seq (sr [1,3,4,5] [
 kM 15 5,kF 16 3 1,kS 17 1 16,kN 18 17,kT 19 15 18]
 (.cond (ux 19)
 .skip
 (.exit 2)))
 (.seq (.block 3
 (sr [1,3,4,5] [
 kF 22 3 1,kS 23 1 22,kM 24 5,kI 25 2 23 24,kx 26 (.ldA none 2 (ux 25)),kx 6 (.allocR [(.val (.int .i64 0)),.e0]),kn (.st (some 6) 2 (ux 6) (ux 26))]
 (sd [1,3,4,5,6] 0 [
 kM 27 3,kF 28 0 6,kS 29 6 28,kI 30 1 27 29,kL 31 30,kP 32 1 4 1,kM 33 3,kF 34 1 6,kS 35 6 34,kx 36 (.call 92 [(ux 32),(ux 33),(ux 35)]),kf 37 (.call 91 [(ux 31),(ux 36)]),kM 7 37]
 (sr [1,3,4,5,6,7] [
 kM 38 4,kM 39 38,zM 40 39 7,zN 41 39 40,zM 42 39 3,zF 43 39 0 6,zS 44 39 6 43,zI 45 39 1 42 44,zL 46 39 45,zN 47 39 46,kz 48 39 (.bini .gtr (ux 41) (ux 47)),kO 49 39 48,kM 4 49]
 (.regN [1,3,4,5,6,7] [
 kM 50 3,kF 51 0 6,kS 52 6 51,kM 53 7,kI 54 1 50 52,kn (.st none 1 (ux 54) (ux 53))])))))
 (.regN [1,3,4,5] [
 kM 20 5,kU 21 20,kM 5 21])))
def JO:AC:=(.seq (sr [1,3,4] [
 kM 14 4]
 (.cond (ux 14)
 .skip
 (.exit 0)))
 (.block 1
 (sr [1,3] [
 kx 4 (.mv cF)]
 (sr [1,3,4] [
 kZ 5]
 (.block 2
 (.loop [1,3,4,5] JN))))))
def Nu:AC:=(sr [0] [
 kB 1 4 0,kx 2 (.mv (.con .e0))]
 (.seq (sr [1] [
 kP 8 1 4 1,kC 9 39 8,kx 10 (.bini .neq (ux 9) c0)]
 (.cond (ux 10)
 (sr [] [
 kx 2 (.mv (.con .e0))]
 .ret)
 .skip))
 (sr [1] [
 kF 11 1 1,kS 12 1 11,kx 13 (.mks 1 24 [.e0] (ux 12)),kM 3 13]
 (.seq (sr [1,3] [
 kx 4 (.mv cT)]
 (.block 0
 (.loop [1,3,4] JO)))
 (sr [3] [
 kM 55 3,kM 2 55]
 .ret)))))
def t65:AFn:=⟨1,Nu,
 [.tmp 2],true⟩
def Em:AC:=(.seq (sr [1,2,3,7,8] [
 kM 10 8,kM 11 2,kN 12 11,kT 13 10 12]
 (.cond (ux 13)
 .skip
 (.exit 0)))
 (.seq (.block 1
 (sd [1,2,3,7,8] 0 [
 kM 16 2,kM 17 8,kI 18 1 16 17,kL 19 18,kF 20 0 3,kS 21 3 20,kT 22 19 21]
 (.cond (ux 22)
 (.regD [1,2,3,7,8] 0 [
 kF 23 2 3,kS 24 3 23,kM 25 7,kM 26 2,kM 27 8,kI 28 1 26 27,kL 29 28,kx 30 (.cvi .u8 (ux 29)),kx 31 (.buildS 1 [(.val (.int .u8 0))] [(0,1,(ux 30))]),kx 32 (.b2s (ux 31)),kx 33 (.buildS 1 [(.val (.string ⟨#[]⟩))] [(0,1,(ux 32))]),kf 34 (.call 67 [(ux 24),(ux 25),(ux 33)]),kM 7 34])
 (.regD [1,2,3,7,8] 0 [
 kF 35 2 3,kS 36 3 35,kM 37 7,kM 38 1,kM 39 2,kM 40 8,kI 41 1 39 40,kL 42 41,kF 43 0 3,kS 44 3 43,kx 45 (.bini .sub (ux 42) (ux 44)),kI 46 1 38 45,kL 47 46,kf 48 (.call 67 [(ux 36),(ux 37),(ux 47)]),kM 7 48]))))
 (.regN [1,2,3,7,8] [
 kM 14 8,kU 15 14,kM 8 15])))
def LF:AC:=(sr [0,1,2] [
 kB 3 4 0,kx 6 (.mv (.con .e0))]
 (sr [1,2,3] [
 kx 9 (.buildS 1 [(.val (.string ⟨#[]⟩))] [(0,1,(.con (.val (.string ⟨#[]⟩))))]),kM 7 9]
 (.seq (sr [1,2,3,7] [
 kZ 8]
 (.block 0
 (.loop [1,2,3,7,8] Em)))
 (sr [7] [
 kM 49 7,kM 6 49]
 .ret))))
def t92:AFn:=⟨3,LF,
 [.tmp 6],true⟩
def wn:AC:=(.seq (sr [0,1,2,7,8,9,10,11] [
 kM 64 11,kM 65 2,kN 66 65,kT 67 64 66,kM 68 67,yM 69 68 10,ky 70 68 (.not (ux 69)),kx 71 (.pick (ux 68) (ux 70) cF)]
 (.cond (ux 71)
 .skip
 (.exit 2)))
 (.seq (.block 3
 (.regD [0,1,2,7,8,9,10,11] 0 [
 kM 74 8,kM 75 7,kM 76 0,kM 77 1,kM 78 9,kI 79 1 77 78,kL 80 79,kM 81 2,kM 82 11,kI 83 1 81 82,kL 84 83,kf 85 (.call 94 [(ux 76),(ux 80),(ux 84)]),kf 86 (.call 93 [(ux 74),(ux 75),(ux 85)]),kM 8 86]))
 (.regN [0,1,2,7,8,9,10,11] [
 kM 72 11,kU 73 72,kM 11 73])))
def mf:AC:=(.seq (sr [0,1,2,7,8,9] [
 kM 15 9,kM 16 1,kN 17 16,kT 18 15 17,kM 19 18,yM 20 19 2,yN 21 19 20,ky 22 19 (.bini .gtr (ux 21) c0),kx 23 (.pick (ux 19) (ux 22) cF)]
 (.cond (ux 23)
 .skip
 (.exit 0)))
 (.seq (.block 1
 (sd [0,1,2,7,8,9] 0 [
 kM 26 1,kM 27 9,kI 28 1 26 27,kL 29 28,kx 30 (.len true (ux 29)),kM 31 0,kx 32 (.bini .geq (ux 30) (ux 31)),kM 33 32,zM 34 33 1,zM 35 33 9,zI 36 33 1 34 35,zL 37 33 36,kz 38 33 (.bins .neq (ux 37) (.con (.val (.string ⟨#[]⟩)))),zM 39 33 38,yM 40 39 1,yM 41 39 9,yI 42 39 1 40 41,yL 43 39 42,yM 44 39 1,yM 45 39 9,yI 46 39 1 44 45,yL 47 39 46,ky 48 39 (.len true (ux 47)),ky 49 39 (.bini .sub (ux 48) c1),ky 50 39 (.ixS (ux 43) (ux 49)),ky 51 39 (.bini .eql (ux 50) (.con (.val (.int .u8 255)))),kz 52 33 (.pick (ux 39) (ux 51) cF),kO 53 33 52,kM 10 53]
 (.seq (sr [0,1,2,7,8,9,10] [
 kM 54 10]
 (.cond (ux 54)
 (.regN [0,1,2,7,8,9,10] [
 kM 55 8,kM 56 7,kM 57 0,kM 58 1,kM 59 9,kI 60 1 58 59,kL 61 60,kx 62 (.call 94 [(ux 57),(ux 61),(.con (.val (.string ⟨#[]⟩)))]),kx 63 (.call 93 [(ux 55),(ux 56),(ux 62)]),kM 8 63])
 .skip))
 (sr [0,1,2,7,8,9,10] [
 kZ 11]
 (.block 2
 (.loop [0,1,2,7,8,9,10,11] wn))))))
 (.regN [0,1,2,7,8,9] [
 kM 24 9,kU 25 24,kM 9 25])))
def LG:AC:=(sr [0,1,2] [
 kx 6 (.mv (.con .e0))]
 (sr [0,1,2] [
 kM 12 0,kx 13 (.mm true [c0,(ux 12)]),kM 0 13]
 (sr [0,1,2] [
 kx 14 (.mkm),kM 7 14]
 (sr [0,1,2,7] [
 kx 8 (.mv (.con .e0))]
 (.seq (sr [0,1,2,7,8] [
 kZ 9]
 (.block 0
 (.loop [0,1,2,7,8,9] mf)))
 (.seq .frz
 (sr [8] [
 kM 87 8,kC 88 95 87,kM 6 88]
 .ret)))))))
def t67:AFn:=⟨3,LG,
 [.tmp 6],true⟩
def Nv:AC:=(sr [0,1,2] [
 kx 6 (.mv (.con (.val (.string ⟨#[]⟩))))]
 (.seq (sr [0,1,2] [
 kM 7 1,kx 8 (.len true (ux 7)),kM 9 0,kT 10 8 9,kM 11 10,yM 12 11 1,ky 13 11 (.bins .eql (ux 12) (.con (.val (.string ⟨#[]⟩)))),yM 14 11 13,zM 15 14 1,zM 16 14 1,kz 17 14 (.len true (ux 16)),kz 18 14 (.bini .sub (ux 17) c1),kz 19 14 (.ixS (ux 15) (ux 18)),kz 20 14 (.bini .neq (ux 19) (.con (.val (.int .u8 255)))),ky 21 11 (.pick (ux 14) cT (ux 20)),kx 22 (.pick (ux 11) (ux 21) cF)]
 (.cond (ux 22)
 (.regN [0,1,2] [
 kM 23 1,kM 24 2,kx 25 (.bins .add (ux 23) (ux 24)),kM 1 25])
 .skip))
 (.seq (sr [0,1] [
 kM 26 1,kx 27 (.len true (ux 26)),kM 28 0,kx 29 (.bini .gtr (ux 27) (ux 28))]
 (.cond (ux 29)
 (.regN [0,1] [
 kM 30 1,kM 31 0,kx 32 (.slS (ux 30) none (some (ux 31))),kM 1 32])
 .skip))
 (sr [1] [
 kM 33 1,kM 6 33]
 .ret))))
def t94:AFn:=⟨3,Nv,
 [.tmp 6],true⟩
def IC:AC:=(sr [0,1,2] [
 kx 6 (.mv (.con .e0))]
 (.seq (sr [0,1,2] [
 kM 7 1,kM 8 2,kx 9 (.mlk false [2] (.val (.bool false)) false (ux 7) (ux 8))]
 (.cond (ux 9)
 (sr [0] [
 kM 10 0,kM 6 10]
 .ret)
 .skip))
 (sr [0,1,2] [
 kM 11 1,kM 12 2,kn (.mup false [2] (ux 11) (ux 12) cT)]
 (sr [0,2] [
 kM 13 0,kM 14 2,kx 15 (.buildS 1 [(.val (.string ⟨#[]⟩))] [(0,1,(ux 14))]),kx 16 (.app 1 16 (ux 13) (ux 15)),kM 6 16]
 .ret))))
def t93:AFn:=⟨3,IC,
 [.tmp 6],false⟩
def wt:AC:=(.seq (sr [3,4,5] [
 kM 22 3,kN 23 22,kx 24 (.bini .gtr (ux 23) c0),kM 25 24,yM 26 25 4,yN 27 25 26,ky 28 25 (.bini .gtr (ux 27) c0),kx 29 (.pick (ux 25) (ux 28) cF)]
 (.cond (ux 29)
 .skip
 (.exit 0)))
 (.block 1
 (sd [3,4,5] 0 [
 kM 30 3,kx 31 (.ixA 1 (ux 30) c0),kL 32 31,kM 33 4,kx 34 (.ixA 1 (ux 33) c0),kL 35 34,kx 36 (.bins .leq (ux 32) (ux 35))]
 (.cond (ux 36)
 (.regD [3,4,5] 0 [
 kM 37 5,kM 38 3,kx 39 (.ixA 1 (ux 38) c0),kL 40 39,kx 41 (.buildS 1 [(.val (.string ⟨#[]⟩))] [(0,1,(ux 40))]),kx 42 (.app 1 16 (ux 37) (ux 41)),kM 43 3,kx 44 (.slC 1 (ux 43) (some c1) none),kM 5 42,kM 3 44])
 (.regD [3,4,5] 0 [
 kM 45 5,kM 46 4,kx 47 (.ixA 1 (ux 46) c0),kL 48 47,kx 49 (.buildS 1 [(.val (.string ⟨#[]⟩))] [(0,1,(ux 48))]),kx 50 (.app 1 16 (ux 45) (ux 49)),kM 51 4,kx 52 (.slC 1 (ux 51) (some c1) none),kM 5 50,kM 4 52])))))
def En:AC:=(sr [0] [
 kx 2 (.mv (.con .e0))]
 (.seq (sr [0] [
 kM 6 0,kN 7 6,kx 8 (.bini .lss (ux 7) (.con (.val (.int .i64 2))))]
 (.cond (ux 8)
 (sr [0] [
 kM 9 0,kM 2 9]
 .ret)
 .skip))
 (sd [0] 0 [
 kM 10 0,kM 11 0,kN 12 11,kx 13 (.bini .quo (ux 12) (.con (.val (.int .i64 2)))),kx 14 (.slC 1 (ux 10) none (some (ux 13))),kf 15 (.call 95 [.tmp 14]),kM 16 0,kM 17 0,kN 18 17,kx 19 (.bini .quo (ux 18) (.con (.val (.int .i64 2)))),kx 20 (.slC 1 (ux 16) (some (ux 19)) none),kf 21 (.call 95 [.tmp 20]),kM 3 15,kM 4 21]
 (sr [3,4] [
 kx 5 (.mv (.con .e0))]
 (.seq (.block 0
 (.loop [3,4,5] wt))
 (sr [3,4,5] [
 kM 53 5,kM 54 3,kx 55 (.app 1 16 (ux 53) (ux 54)),kM 56 4,kx 57 (.app 1 16 (ux 55) (ux 56)),kM 2 57]
 .ret))))))
def t95:AFn:=⟨1,En,
 [.tmp 2],true⟩
def wu:AC:=(.seq (sr [0,1,5,6,7] [
 kM 10 7,kM 11 0,kN 12 11,kT 13 10 12]
 (.cond (ux 13)
 .skip
 (.exit 0)))
 (.seq (.block 1
 (.regN [0,1,5,6,7] [
 kM 16 6,kM 17 5,kM 18 0,kM 19 7,kI 20 1 18 19,kL 21 20,kx 22 (.call 93 [(ux 16),(ux 17),(ux 21)]),kM 6 22]))
 (.regN [0,1,5,6,7] [
 kM 14 7,kU 15 14,kM 7 15])))
def wv:AC:=(.seq (sr [1,5,6,8] [
 kM 23 8,kM 24 1,kN 25 24,kT 26 23 25]
 (.cond (ux 26)
 .skip
 (.exit 2)))
 (.seq (.block 3
 (.regN [1,5,6,8] [
 kM 29 6,kM 30 5,kM 31 1,kM 32 8,kI 33 1 31 32,kL 34 33,kx 35 (.call 93 [(ux 29),(ux 30),(ux 34)]),kM 6 35]))
 (.regN [1,5,6,8] [
 kM 27 8,kU 28 27,kM 8 28])))
def LH:AC:=(sr [0,1] [
 kx 4 (.mv (.con .e0))]
 (sr [0,1] [
 kx 9 (.mkm),kM 5 9]
 (sr [0,1,5] [
 kx 6 (.mv (.con .e0))]
 (.seq (sr [0,1,5,6] [
 kZ 7]
 (.block 0
 (.loop [0,1,5,6,7] wu)))
 (.seq (sr [1,5,6] [
 kZ 8]
 (.block 2
 (.loop [1,5,6,8] wv)))
 (.seq .frz
 (sr [6] [
 kM 36 6,kC 37 95 36,kM 4 37]
 .ret)))))))
def t91:AFn:=⟨2,LH,
 [.tmp 4],true⟩
def Aa:AC:=(.seq (sr [1,3,4,5,6,7,8] [
 kM 38 8,kF 39 1 7,kS 40 7 39,kN 41 40,kT 42 38 41]
 (.cond (ux 42)
 .skip
 (.exit 4)))
 (.seq (.block 5
 (sd [1,3,4,5,6,7,8] 0 [
 kF 45 1 7,kS 46 7 45,kM 47 8,kI 48 1 46 47,kL 49 48,kF 50 0 1,kS 51 1 50,kx 52 (.bini .sub (ux 49) (ux 51)),kM 9 52]
 (.seq (sr [1,3,4,5,6,7,8,9] [
 kM 53 9,kx 54 (.bini .lss (ux 53) c0)]
 (.cond (ux 54)
 (.exit 5)
 .skip))
 (sd [1,3,4,5,6,7,8,9] 0 [
 kP 55 1 4 1,kM 56 3,kF 57 1 7,kS 58 7 57,kM 59 8,kU 60 59,kx 61 (.slC 1 (ux 58) (some (ux 60)) none),kf 62 (.call 68 [(ux 55),(ux 56),(ux 61)]),kM 10 62]
 (sd [1,3,4,5,6,7,8,9,10] 0 [
 kM 63 4,kM 64 9,kI 65 1 63 64,kL 66 65,kF 67 2 1,kS 68 1 67,kM 69 10,kM 70 4,kF 71 0 7,kS 72 7 71,kI 73 1 70 72,kL 74 73,kx 75 (.call 67 [(ux 68),(ux 69),(ux 74)]),kf 76 (.call 91 [(ux 66),(ux 75)]),kM 11 76]
 (sr [1,3,4,5,6,7,8,9,11] [
 kM 77 5,kM 78 77,zM 79 78 11,zN 80 78 79,zM 81 78 4,zM 82 78 9,zI 83 78 1 81 82,zL 84 78 83,zN 85 78 84,kz 86 78 (.bini .gtr (ux 80) (ux 85)),kO 87 78 86,kM 5 87]
 (.regN [1,3,4,5,6,7,8,9,11] [
 kM 88 4,kM 89 9,kM 90 11,kI 91 1 88 89,kn (.st none 1 (ux 91) (ux 90))])))))))
 (.regN [1,3,4,5,6,7,8] [
 kM 43 8,kU 44 43,kM 8 44])))
def JP:AC:=(.seq (sr [1,3,4,5,6] [
 kM 26 6,kF 27 3 1,kS 28 1 27,kN 29 28,kT 30 26 29]
 (.cond (ux 30)
 .skip
 (.exit 2)))
 (.seq (.block 3
 (sr [1,3,4,5,6] [
 kF 33 3 1,kS 34 1 33,kM 35 6,kI 36 2 34 35,kx 37 (.ldA none 2 (ux 36)),kx 7 (.allocR [(.val (.int .i64 0)),.e0]),kn (.st (some 7) 2 (ux 7) (ux 37))]
 (sr [1,3,4,5,6,7] [
 kZ 8]
 (.block 4
 (.loop [1,3,4,5,6,7,8] Aa)))))
 (.regN [1,3,4,5,6] [
 kM 31 6,kU 32 31,kM 6 32])))
def JQ:AC:=(.seq (sr [1,3,4,5] [
 kM 25 5]
 (.cond (ux 25)
 .skip
 (.exit 0)))
 (.block 1
 (sr [1,3,4] [
 kx 5 (.mv cF)]
 (sr [1,3,4,5] [
 kZ 6]
 (.block 2
 (.loop [1,3,4,5,6] JP))))))
def Nw:AC:=(sr [0] [
 kB 1 4 0,kx 2 (.mv (.con .e0))]
 (.seq (sr [1] [
 kP 12 1 4 1,kC 13 39 12,kx 14 (.bini .neq (ux 13) c0)]
 (.cond (ux 14)
 (sr [] [
 kx 2 (.mv (.con .e0))]
 .ret)
 .skip))
 (sr [1] [
 kP 15 1 4 1,kC 16 65 15,kM 3 16]
 (sr [1,3] [
 kF 17 1 1,kS 18 1 17,kx 19 (.mks 1 24 [.e0] (ux 18)),kM 4 19]
 (sr [1,3,4] [
 kM 20 4,kx 21 (.buildS 1 [(.val (.int .u8 0))] [(0,1,(.con (.val (.int .u8 255))))]),kx 22 (.b2s (ux 21)),kx 23 (.buildS 1 [(.val (.string ⟨#[]⟩))] [(0,1,(ux 22))]),kx 24 (.ixA 1 (ux 20) c0),kn (.st none 1 (ux 24) (ux 23))]
 (.seq (sr [1,3,4] [
 kx 5 (.mv cT)]
 (.block 0
 (.loop [1,3,4,5] JQ)))
 (sr [4] [
 kM 92 4,kM 2 92]
 .ret)))))))
def t66:AFn:=⟨1,Nw,
 [.tmp 2],true⟩
def JR:AC:=(.seq (sr [1,2,3,7] [
 kM 18 7,kM 19 2,kN 20 19,kT 21 18 20]
 (.cond (ux 21)
 .skip
 (.exit 0)))
 (.seq (.block 1
 (sd [1,2,3,7] 0 [
 kM 24 2,kM 25 7,kI 26 1 24 25,kL 27 26,kx 28 (.bini .lss (ux 27) c0),kM 29 28,zM 30 29 2,zM 31 29 7,zI 32 29 1 30 31,zL 33 29 32,zF 34 29 0 3,zS 35 29 3 34,zF 36 29 1 3,zS 37 29 3 36,kz 38 29 (.bini .add (ux 35) (ux 37)),kz 39 29 (.bini .geq (ux 33) (ux 38)),kO 40 29 39]
 (.cond (ux 40)
 (sr [] [
 kx 6 (.mv (.con .e0))]
 .ret)
 .skip)))
 (.regN [1,2,3,7] [
 kM 22 7,kU 23 22,kM 7 23])))
def Nx:AC:=(sr [0,1,2] [
 kB 3 4 0,kx 6 (.mv (.con .e0))]
 (.seq (sr [1,2,3] [
 kP 8 3 4 3,kC 9 39 8,kx 10 (.bini .neq (ux 9) c0),kM 11 10,zM 12 11 1,zN 13 11 12,zF 14 11 1 3,zS 15 11 3 14,kz 16 11 (.bini .neq (ux 13) (ux 15)),kO 17 11 16]
 (.cond (ux 17)
 (sr [] [
 kx 6 (.mv (.con .e0))]
 .ret)
 .skip))
 (.seq (sr [1,2,3] [
 kZ 7]
 (.block 0
 (.loop [1,2,3,7] JR)))
 (sr [1,2,3] [
 kP 41 3 4 3,kM 42 1,kM 43 2,kx 44 (.call 92 [(ux 41),(ux 42),(ux 43)]),kM 6 44]
 .ret))))
def t68:AFn:=⟨3,Nx,
 [.tmp 6],true⟩
def Eo:AC:=(.seq (sr [2,3,4,6,7,8,9] [
 kM 50 9,kF 51 0 3,kS 52 3 51,kM 53 7,kI 54 1 52 53,kL 55 54,kN 56 55,kT 57 50 56]
 (.cond (ux 57)
 .skip
 (.exit 6)))
 (.seq (.block 7
 (sd [2,3,4,6,7,8,9] 0 [
 kF 60 0 3,kS 61 3 60,kM 62 8,kI 63 1 61 62,kL 64 63,kF 65 0 3,kS 66 3 65,kM 67 7,kI 68 1 66 67,kL 69 68,kM 70 9,kI 71 1 69 70,kL 72 71,kf 73 (.call 69 [(ux 64),(ux 72)])]
 (.cond (ux 73)
 (sr [3,4,6,7,8,9] [
 kM 74 6,kM 75 7,kM 76 8,kF 77 0 3,kS 78 3 77,kM 79 7,kI 80 1 78 79,kL 81 80,kM 82 9,kI 83 1 81 82,kL 84 83,kx 85 (.build [(.val (.int .i64 0)),(.val (.int .i64 0)),(.val (.int .i64 0)),(.val (.string ⟨#[]⟩))] [(0,1,(ux 74)),(1,1,(ux 75)),(2,1,(ux 76)),(3,1,(ux 84))]),kn (.st (some 4) 4 (ux 4) (ux 85)),kx 5 (.mv cT)]
 .ret)
 .skip)))
 (.regN [2,3,4,6,7,8,9] [
 kM 58 9,kU 59 58,kM 9 59])))
def Ep:AC:=(.seq (sr [2,3,4,6,7,8] [
 kM 25 8,kF 26 3 2,kS 27 2 26,kN 28 27,kT 29 25 28]
 (.cond (ux 29)
 .skip
 (.exit 4)))
 (.seq (.block 5
 (.seq (sr [2,3,4,6,7,8] [
 kF 32 3 2,kS 33 2 32,kM 34 7,kI 35 2 33 34,kF 36 0 35,kL 37 36,kM 38 6,kx 39 (.bini .neq (ux 37) (ux 38)),kM 40 39,zF 41 40 3 2,zS 42 40 2 41,zM 43 40 8,zI 44 40 2 42 43,zF 45 40 0 44,zL 46 40 45,zM 47 40 6,kz 48 40 (.bini .neq (ux 46) (ux 47)),kO 49 40 48]
 (.cond (ux 49)
 (.exit 5)
 .skip))
 (sr [2,3,4,6,7,8] [
 kZ 9]
 (.block 6
 (.loop [2,3,4,6,7,8,9] Eo)))))
 (.regN [2,3,4,6,7,8] [
 kM 30 8,kU 31 30,kM 8 31])))
def Er:AC:=(.seq (sr [2,3,4,6,7] [
 kM 16 7,kF 17 3 2,kS 18 2 17,kN 19 18,kT 20 16 19]
 (.cond (ux 20)
 .skip
 (.exit 2)))
 (.seq (.block 3
 (sr [2,3,4,6,7] [
 kM 23 7,kU 24 23,kM 8 24]
 (.block 4
 (.loop [2,3,4,6,7,8] Ep))))
 (.regN [2,3,4,6,7] [
 kM 21 7,kU 22 21,kM 7 22])))
def Es:AC:=(.seq (sr [2,3,4,6] [
 kM 10 6,kF 11 1 2,kS 12 2 11,kT 13 10 12]
 (.cond (ux 13)
 .skip
 (.exit 0)))
 (.seq (.block 1
 (sr [2,3,4,6] [
 kZ 7]
 (.block 2
 (.loop [2,3,4,6,7] Er))))
 (.regN [2,3,4,6] [
 kM 14 6,kU 15 14,kM 6 15])))
def Ny:AC:=(sr [0,1] [
 kB 2 4 0,kB 3 1 1,kx 4 (.allocR [(.val (.int .i64 0)),(.val (.int .i64 0)),(.val (.int .i64 0)),(.val (.string ⟨#[]⟩))]),kx 5 (.mv cF)]
 (.seq (sr [2,3,4] [
 kZ 6]
 (.block 0
 (.loop [2,3,4,6] Es)))
 (sr [4] [
 kx 86 (.build [(.val (.int .i64 0)),(.val (.int .i64 0)),(.val (.int .i64 0)),(.val (.string ⟨#[]⟩))] []),kn (.st (some 4) 4 (ux 4) (ux 86)),kx 5 (.mv cF)]
 .ret)))
def t47:AFn:=⟨2,Ny,
 [.cell 4 4 true,.tmp 5],true⟩
def Et:AC:=(.seq (sr [0,1,5] [
 kM 6 5,kM 7 0,kN 8 7,kT 9 6 8]
 (.cond (ux 9)
 .skip
 (.exit 0)))
 (.seq (.block 1
 (sr [0,1,5] [
 kM 12 0,kM 13 5,kI 14 1 12 13,kL 15 14,kM 16 1,kx 17 (.bins .eql (ux 15) (ux 16))]
 (.cond (ux 17)
 (sr [] [
 kx 4 (.mv cT)]
 .ret)
 .skip)))
 (.regN [0,1,5] [
 kM 10 5,kU 11 10,kM 5 11])))
def LI:AC:=(sr [0,1] [
 kx 4 (.mv cF)]
 (.seq (sr [0,1] [
 kZ 5]
 (.block 0
 (.loop [0,1,5] Et)))
 (sr [] [
 kx 4 (.mv cF)]
 .ret)))
def t69:AFn:=⟨2,LI,
 [.tmp 4],true⟩
def Nz:AC:=(sr [0,1,2] [
 kB 3 4 0,kB 4 1 1,kx 6 (.mv (.con .e0)),kx 7 (.mv cF)]
 (sr [2,3,4] [
 kP 9 3 4 3,kP 10 4 1 4,kM 11 2,kx 12 (.call 29 [(ux 9),(ux 10),(ux 11)]),kM 8 12]
 (.seq (sr [8] [
 kM 13 8,kx 14 (.eqp false (ux 13) (.con (.val (.pointer none))))]
 (.cond (ux 14)
 (sr [] [
 kx 6 (.mv (.con .e0)),kx 7 (.mv cF)]
 .ret)
 .skip))
 (sr [8] [
 kM 15 8,kx 16 (.nilc (ux 15)),kF 17 7 16,kL 18 17,kM 6 18,kx 7 (.mv cT)]
 .ret))))
def t11:AFn:=⟨3,Nz,
 [.tmp 6,.tmp 7],true⟩
def Eu:AC:=(.seq (sr [10,36] [
 kM 37 10,kx 38 (.nilc (ux 37)),kF 39 6 38,kL 40 39,kN 41 40,kx 42 (.bini .gtr (ux 41) c0)]
 (.cond (ux 42)
 .skip
 (.exit 0)))
 (.block 1
 (sr [10,36] [
 kM 43 10,kC 44 45 43,kx 45 (.not (ux 44))]
 (.cond (ux 45)
 (sr [] [
 kx 6 (.mv (.con (.val (.pointer none))))]
 .ret)
 .skip))))
def LJ:AC:=(sr [0,1,2] [
 kB 3 4 0,kB 4 1 1,kx 6 (.mv (.con (.val (.pointer none))))]
 (.seq (sr [2,3,4] [
 kP 11 3 4 3,kC 12 31 11,kx 13 (.bini .neq (ux 12) c0),kM 14 13,kz 15 14 (.ldA (some 3) 4 (ux 3)),kz 16 14 (.call 16 [.tmp 15]),kz 17 14 (.bini .gtr (ux 16) (.con (.val (.int .i64 65536)))),kO 18 14 17]
 (.cond (ux 18)
 (sr [] [
 kx 6 (.mv (.con (.val (.pointer none))))]
 .ret)
 .skip))
 (.seq (sr [2,3,4] [
 kP 20 3 4 3,kC 21 43 20,kM 19 21,kE 22 19 0,kE 23 19 1,kE 24 19 2,kx 7 (.allocR [.e0]),kx 8 (.allocR [(.val (.int .i64 0)),(.val (.int .i64 0)),(.val (.int .i64 0)),(.val (.string ⟨#[]⟩))]),kn (.st (some 7) 1 (ux 7) (ux 22)),kn (.st (some 8) 4 (ux 8) (ux 23)),kM 9 24]
 (sr [2,3,4,7] [
 kP 25 7 1 7,kP 26 4 1 4,kx 27 (.call 44 [(ux 25),(ux 26)]),kx 28 (.not (ux 27))]
 (.cond (ux 28)
 (sr [] [
 kx 6 (.mv (.con (.val (.pointer none))))]
 .ret)
 .skip)))
 (sr [2,3,4] [
 kP 29 3 4 3,kP 30 4 1 4,kM 31 2,kF 32 0 3,kS 33 3 32,kx 34 (.buildH 1 1 [(.val (.int .i64 0))] [(0,1,(ux 33))]),kx 35 (.build [(.val (.int .i64 0)),(.val (.int .i64 0)),(.val (.int .i64 0)),.e0,.e0,(.val (.string ⟨#[]⟩)),.e0,.e0,(.val (.int .i64 0))] [(0,4,(ux 29)),(4,1,(ux 30)),(5,1,(ux 31)),(6,1,(ux 34))]),kx 36 (.boxH 9 (ux 35)),kM 10 36]
 (.seq (.block 0
 (.loop [10,36] Eu))
 (.seq (sr [10,36] [
 kM 46 10,kx 47 (.nilc (ux 46)),kF 48 5 47,kL 49 48,kx 50 (.bins .neq (ux 49) (.con (.val (.string ⟨#[]⟩))))]
 (.cond (ux 50)
 (sr [] [
 kx 6 (.mv (.con (.val (.pointer none))))]
 .ret)
 .skip))
 (sr [10,36] [
 kM 51 10,kM 6 51]
 .ret)))))))
def t29:AFn:=⟨3,LJ,
 [.tmp 6],true⟩
def NA:AC:=(sr [0] [
 kB 1 4 0,kZ 2]
 (.seq (sr [1] [
 kP 11 1 4 1,kC 12 48 11,kM 3 12]
 (sr [1,3] [
 kM 13 3,kx 14 (.bini .neq (ux 13) c0)]
 (.cond (ux 14)
 (sr [3] [
 kM 15 3,kM 2 15]
 .ret)
 .skip)))
 (.seq (sr [1] [
 kP 17 1 4 1,kC 18 49 17,kM 16 18,kE 19 16 0,kE 20 16 1,kM 4 19,kM 5 20]
 (sr [1,5] [
 kM 21 5,kx 22 (.not (ux 21))]
 (.cond (ux 22)
 (sr [] [
 kx 2 (.mv (.con (.val (.int .i64 5))))]
 .ret)
 .skip)))
 (.seq (sr [1] [
 kP 24 1 4 1,kC 25 50 24,kM 23 25,kE 26 23 0,kE 27 23 1,kM 6 26,kM 7 27]
 (sr [1,7] [
 kM 28 7]
 (.cond (ux 28)
 (sr [] [
 kx 2 (.mv (.con (.val (.int .i64 4))))]
 .ret)
 .skip)))
 (sr [1] [
 kP 30 1 4 1,kC 31 43 30,kM 29 31,kE 32 29 0,kE 33 29 1,kE 34 29 2,kx 8 (.allocR [.e0]),kx 9 (.allocR [(.val (.int .i64 0)),(.val (.int .i64 0)),(.val (.int .i64 0)),(.val (.string ⟨#[]⟩))]),kn (.st (some 8) 1 (ux 8) (ux 32)),kn (.st (some 9) 4 (ux 9) (ux 33)),kM 10 34]
 (sr [10] [
 kM 35 10,kM 2 35]
 .ret))))))
def t31:AFn:=⟨1,NA,
 [.tmp 2],true⟩
def JS:AC:=(sr [1,39,40,41] [
 kT 42 41 40]
 (.seq (.cond (ux 42)
 .skip
 (.exit 0))
 (.seq (.block 1
 (sr [1,39,40,41] [
 kI 43 2 39 41,kx 44 (.ldA none 2 (ux 43)),kx 4 (.allocR [(.val (.int .i64 0)),.e0]),kn (.st (some 4) 2 (ux 4) (ux 44))]
 (sr [1,4,39,40,41] [
 kF 45 0 4,kS 46 4 45,kx 47 (.bini .lss (ux 46) c0),kM 48 47,zF 49 48 0 4,zS 50 48 4 49,zF 51 48 1 1,zL 52 48 51,kz 53 48 (.bini .geq (ux 50) (ux 52)),kO 54 48 53,kM 55 54,zF 56 55 1 4,zS 57 55 4 56,kz 58 55 (.mkf 73 [.tmp 1]),kz 59 55 (.call 72 [(ux 57),(ux 58)]),kO 60 55 59]
 (.cond (ux 60)
 (sr [] [
 kx 2 (.mv (.con (.val (.int .i64 2))))]
 .ret)
 .skip))))
 (.regN [1,39,40,41] [
 kU 61 41,kM 41 61]))))
def NB:AC:=(sr [0] [
 kx 1 (.boxH 4 (ux 0)),kZ 2]
 (.seq (sr [1] [
 kF 5 0 1,kL 6 5,kx 7 (.bini .gtr (ux 6) (.con (.val (.int .i64 8)))),kM 8 7,zF 9 8 1 1,zL 10 8 9,kz 11 8 (.bini .gtr (ux 10) (.con (.val (.int .i64 16)))),kO 12 8 11,kM 13 12,zF 14 13 2 1,zL 15 13 14,kz 16 13 (.bini .gtr (ux 15) (.con (.val (.int .i64 3)))),kO 17 13 16,kM 18 17,zF 19 18 3 1,zL 20 18 19,zN 21 18 20,kz 22 18 (.bini .gtr (ux 21) (.con (.val (.int .i64 64)))),kO 23 18 22]
 (.cond (ux 23)
 (sr [] [
 kx 2 (.mv (.con (.val (.int .i64 3))))]
 .ret)
 .skip))
 (.seq (sr [1] [
 kF 24 3 1,kL 25 24,kx 26 (.call 70 [(ux 25),(.con (.fn 71 []))])]
 (.cond (ux 26)
 (sr [] [
 kx 2 (.mv (.con (.val (.int .i64 3))))]
 .ret)
 .skip))
 (.seq (sr [1] [
 kF 27 0 1,kL 28 27,kF 29 1 1,kL 30 29,kF 31 2 1,kL 32 31,kF 33 3 1,kL 34 33,kN 35 34,kx 36 (.mm false [(ux 28),(ux 30),(ux 32),(ux 35)]),kx 37 (.bini .lss (ux 36) c1)]
 (.cond (ux 37)
 (sr [] [
 kx 2 (.mv (.con (.val (.int .i64 2))))]
 .ret)
 .skip))
 (.seq (sr [1] [
 kF 38 3 1,kL 39 38,kN 40 39,kZ 41]
 (.block 0
 (.loop [1,39,40,41] JS)))
 (sr [] [
 kZ 2]
 .ret))))))
def t48:AFn:=⟨1,NB,
 [.tmp 2],true⟩
def NC:AC:=(sr [0,1] [
 kx 4 (.mv cF)]
 (sr [0,1] [
 kM 5 0,kM 6 1,kx 7 (.call 96 [(ux 5),(ux 6)]),kx 8 (.bini .geq (ux 7) c0),kM 4 8]
 .ret))
def t70:AFn:=⟨2,NC,
 [.tmp 4],true⟩
def JT:AC:=(sr [0,1,7,8] [
 kT 9 8 7]
 (.seq (.cond (ux 9)
 .skip
 (.exit 0))
 (.seq (.block 1
 (sr [0,1,7,8] [
 kM 10 8,kM 5 10]
 (sr [0,1,5,7,8] [
 kM 11 1,kM 12 0,kM 13 5,kI 14 2 12 13,kx 15 (.ldA none 2 (ux 14)),kx 16 (.callv (ux 11) [.tmp 15])]
 (.cond (ux 16)
 (sr [5] [
 kM 17 5,kM 4 17]
 .ret)
 .skip))))
 (.regN [0,1,7,8] [
 kU 18 8,kM 8 18]))))
def ND:AC:=(sr [0,1] [
 kZ 4]
 (.seq (sr [0,1] [
 kM 6 0,kN 7 6,kZ 8]
 (.block 0
 (.loop [0,1,7,8] JT)))
 (sr [] [
 kx 4 (.mv (.con (.val (.int .i64 (-1)))))]
 .ret)))
def t96:AFn:=⟨2,ND,
 [.tmp 4],true⟩
def NF:AC:=(sr [0] [
 kB 1 2 0,kx 2 (.mv cF)]
 (sr [1] [
 kF 3 1 1,kS 4 1 3,kN 5 4,kx 6 (.bini .gtr (ux 5) (.con (.val (.int .i64 8)))),kM 2 6]
 .ret))
def t71:AFn:=⟨1,NF,
 [.tmp 2],true⟩
def NG:AC:=(sr [0,1] [
 kx 3 (.mv cF)]
 (sr [0,1] [
 kM 4 0,kx 5 (.bini .lss (ux 4) c0),kM 6 5,zM 7 6 0,zF 8 6 0 1,zL 9 6 8,zF 10 6 1 1,zL 11 6 10,kz 12 6 (.bini .add (ux 9) (ux 11)),kz 13 6 (.bini .geq (ux 7) (ux 12)),kO 14 6 13,kM 3 14]
 .ret))
def t73:AFn:=⟨2,NG,
 [.tmp 3],true⟩
def NH:AC:=(sr [0,1] [
 kx 4 (.mv cF)]
 (sr [0,1] [
 kM 5 0,kM 6 1,kx 7 (.call 97 [(ux 5),(ux 6)]),kx 8 (.bini .geq (ux 7) c0),kM 4 8]
 .ret))
def t72:AFn:=⟨2,NH,
 [.tmp 4],true⟩
def JU:AC:=(sr [0,1,7,8] [
 kT 9 8 7]
 (.seq (.cond (ux 9)
 .skip
 (.exit 0))
 (.seq (.block 1
 (sr [0,1,7,8] [
 kM 10 8,kM 5 10]
 (sr [0,1,5,7,8] [
 kM 11 1,kM 12 0,kM 13 5,kI 14 1 12 13,kL 15 14,kx 16 (.callv (ux 11) [.tmp 15])]
 (.cond (ux 16)
 (sr [5] [
 kM 17 5,kM 4 17]
 .ret)
 .skip))))
 (.regN [0,1,7,8] [
 kU 18 8,kM 8 18]))))
def NI:AC:=(sr [0,1] [
 kZ 4]
 (.seq (sr [0,1] [
 kM 6 0,kN 7 6,kZ 8]
 (.block 0
 (.loop [0,1,7,8] JU)))
 (sr [] [
 kx 4 (.mv (.con (.val (.int .i64 (-1)))))]
 .ret)))
def t97:AFn:=⟨2,NI,
 [.tmp 4],true⟩
def JV:AC:=(sr [4,5,15,16] [
 kT 17 16 15]
 (.seq (.cond (ux 17)
 .skip
 (.exit 0))
 (.seq (.block 1
 (sr [4,5,15,16] [
 kM 18 16,kM 6 18]
 (sr [4,5,6,15,16] [
 kM 19 4,kM 20 6,kI 21 1 19 20,kL 22 21,kx 23 (.not (ux 22)),kM 24 23,zM 25 24 5,zM 26 24 6,zI 27 24 1 25 26,zL 28 24 27,kz 29 24 (.not (ux 28)),kO 30 24 29]
 (.cond (ux 30)
 (sr [6] [
 kM 31 6,kM 2 31,kx 3 (.mv cF)]
 .ret)
 .skip))))
 (.regN [4,5,15,16] [
 kU 32 16,kM 16 32]))))
def NJ:AC:=(sr [0] [
 kB 1 4 0,kZ 2,kx 3 (.mv cF)]
 (.seq (sr [1] [
 kP 7 1 4 1,kC 8 48 7,kx 9 (.bini .neq (ux 8) c0)]
 (.cond (ux 9)
 (sr [] [
 kZ 2,kx 3 (.mv cF)]
 .ret)
 .skip))
 (sd [1] 0 [
 kP 10 1 4 1,kf 11 (.call 74 [.tmp 10]),kP 12 1 4 1,kf 13 (.call 75 [.tmp 12]),kM 4 11,kM 5 13]
 (.seq (sr [1,4,5] [
 kF 14 1 1,kS 15 1 14,kZ 16]
 (.block 0
 (.loop [4,5,15,16] JV)))
 (sr [] [
 kZ 2,kx 3 (.mv cT)]
 .ret)))))
def t49:AFn:=⟨1,NJ,
 [.tmp 2,.tmp 3],true⟩
def NK:AC:=(sr [0] [
 kB 1 4 0,kx 2 (.mv (.con .e0))]
 (sr [1] [
 kP 3 1 4 1,kx 4 (.call 52 [(ux 3),cT]),kM 2 4]
 .ret))
def t74:AFn:=⟨1,NK,
 [.tmp 2],true⟩
def NL:AC:=(sr [0,1] [
 kx 2 (.boxH 4 (ux 0)),kx 3 (.boxH 1 (ux 1)),kx 4 (.mv (.con .e0))]
 (.seq (sr [2,3] [
 kx 7 (.ldA none 4 (ux 2)),kC 8 48 7,kx 9 (.bini .neq (ux 8) c0)]
 (.cond (ux 9)
 (sr [] [
 kx 4 (.mv (.con .e0))]
 .ret)
 .skip))
 (sr [2,3] [
 kF 10 1 2,kL 11 10,kx 12 (.mks 1 1 [(.val (.bool false))] (ux 11)),kx 5 (.allocH [.e0]),kn (.st none 1 (ux 5) (ux 12))]
 (sr [2,3,5] [
 kx 13 (.mkf 81 [(ux 2),(ux 3),(ux 5)]),kx 6 (.allocH [(.val .nilFunc)]),kn (.st none 1 (ux 6) (ux 13))]
 (sr [2,5,6] [
 kF 14 3 2,kL 15 14,kx 16 (.mkf 82 [(ux 5),(ux 6)]),kx 17 (.call 76 [(ux 15),(ux 16)])]
 (sr [5] [
 kL 18 5,kM 4 18]
 .ret))))))
def t52:AFn:=⟨2,NL,
 [.tmp 4],true⟩
def NM:AC:=(sr [0,1,2,3] [
 kx 5 (.mv cF)]
 (sr [0,1,2,3] [
 kM 6 0,kF 7 0 1,kL 8 7,kT 9 6 8,kM 10 9,yL 11 10 2,ky 12 10 (.not (ux 11)),kx 13 (.pick (ux 10) (ux 12) cF),kM 14 13,zM 15 14 0,zF 16 14 0 1,zL 17 14 16,kz 18 14 (.bini .geq (ux 15) (ux 17)),zM 19 14 18,yL 20 19 3,yM 21 19 0,yF 22 19 0 1,yL 23 19 22,ky 24 19 (.bini .sub (ux 21) (ux 23)),yI 25 19 1 20 24,yL 26 19 25,ky 27 19 (.not (ux 26)),kz 28 14 (.pick (ux 19) (ux 27) cF),kO 29 14 28,kM 5 29]
 .ret))
def t81:AFn:=⟨4,NM,
 [.tmp 5],true⟩
def NN:AC:=(sr [0,1,2] [
 kB 3 2 0,kx 4 (.mv cF)]
 (.seq (sr [1,2,3] [
 kL 5 1,kF 6 0 3,kS 7 3 6,kI 8 1 5 7,kL 9 8,kM 10 9,zF 11 10 1 3,zS 12 10 3 11,zL 13 10 2,kz 14 10 (.call 72 [(ux 12),(ux 13)]),kO 15 10 14]
 (.cond (ux 15)
 (sr [] [
 kx 4 (.mv cF)]
 .ret)
 .skip))
 (sr [1,3] [
 kL 16 1,kF 17 0 3,kS 18 3 17,kI 19 1 16 18,kn (.st none 1 (ux 19) cT)]
 (sr [] [
 kx 4 (.mv cT)]
 .ret))))
def t82:AFn:=⟨3,NN,
 [.tmp 4],true⟩
def JW:AC:=(sr [0,1,4,8,9,10] [
 kT 11 10 9]
 (.seq (.cond (ux 11)
 .skip
 (.exit 2))
 (.seq (.block 3
 (sr [0,1,4,8,9,10] [
 kI 12 2 8 10,kx 13 (.ldA none 2 (ux 12)),kx 6 (.allocR [(.val (.int .i64 0)),.e0]),kn (.st (some 6) 2 (ux 6) (ux 13))]
 (.regN [0,1,4,6,8,9,10] [
 kM 14 1,kP 15 6 2 6,kx 16 (.callv (ux 14) [.tmp 15]),kM 17 16,zM 18 17 4,kO 19 17 18,kM 4 19])))
 (.regN [0,1,4,8,9,10] [
 kU 20 10,kM 10 20]))))
def JX:AC:=(.seq (sr [0,1,4] [
 kM 7 4]
 (.cond (ux 7)
 .skip
 (.exit 0)))
 (.block 1
 (sr [0,1] [
 kx 4 (.mv cF)]
 (sr [0,1,4] [
 kM 8 0,kN 9 8,kZ 10]
 (.block 2
 (.loop [0,1,4,8,9,10] JW))))))
def NO:AC:=(sr [0,1] [
 kx 4 (.mv cT)]
 (.block 0
 (.loop [0,1,4] JX)))
def t76:AFn:=⟨2,NO,
 [],true⟩
def NP:AC:=(sr [0] [
 kx 1 (.boxH 4 (ux 0)),kx 2 (.mv (.con .e0))]
 (.seq (sr [1] [
 kx 4 (.ldA none 4 (ux 1)),kC 5 48 4,kx 6 (.bini .neq (ux 5) c0)]
 (.cond (ux 6)
 (sr [] [
 kx 2 (.mv (.con .e0))]
 .ret)
 .skip))
 (sr [1] [
 kF 7 1 1,kL 8 7,kx 9 (.mks 1 1 [(.val (.bool false))] (ux 8)),kx 3 (.allocH [.e0]),kn (.st none 1 (ux 3) (ux 9))]
 (sr [1,3] [
 kL 10 3,kx 11 (.ixA 1 (ux 10) c0),kn (.st none 1 (ux 11) cT)]
 (sr [1,3] [
 kF 12 3 1,kL 13 12,kx 14 (.mkf 98 [(ux 3),(ux 1)]),kx 15 (.call 76 [(ux 13),(ux 14)])]
 (sr [3] [
 kL 16 3,kM 2 16]
 .ret))))))
def t75:AFn:=⟨1,NP,
 [.tmp 2],true⟩
def JY:AC:=(sr [1,2,4,14,15,16] [
 kT 17 16 15]
 (.seq (.cond (ux 17)
 .skip
 (.exit 0))
 (.seq (.block 1
 (sr [1,2,4,14,15,16] [
 kI 18 1 14 16,kL 19 18,kM 6 19]
 (.seq (sr [1,2,4,6,14,15,16] [
 kM 20 6,kF 21 0 2,kL 22 21,kT 23 20 22,kM 24 23,zL 25 24 1,zM 26 24 6,zF 27 24 0 2,zL 28 24 27,kz 29 24 (.bini .sub (ux 26) (ux 28)),zI 30 24 1 25 29,zL 31 24 30,kO 32 24 31]
 (.cond (ux 32)
 (.exit 1)
 .skip))
 (.regN [1,2,6,14,15,16] [
 kL 33 1,kM 34 6,kF 35 0 2,kL 36 35,kx 37 (.bini .sub (ux 34) (ux 36)),kI 38 1 33 37,kn (.st none 1 (ux 38) cT),kx 4 (.mv cT)]))))
 (.regN [1,2,4,14,15,16] [
 kU 39 16,kM 16 39]))))
def NQ:AC:=(sr [0,1,2] [
 kB 3 2 0,kx 4 (.mv cF)]
 (.seq (sr [1,2,3,4] [
 kL 7 1,kF 8 0 3,kS 9 3 8,kI 10 1 7 9,kL 11 10,kx 12 (.not (ux 11))]
 (.cond (ux 12)
 (sr [] [
 kx 4 (.mv cF)]
 .ret)
 .skip))
 (.seq .skip
 (.seq (sr [1,2,3,4] [
 kF 13 1 3,kS 14 3 13,kN 15 14,kZ 16]
 (.block 0
 (.loop [1,2,4,14,15,16] JY)))
 (sr [4] [
 kM 40 4,kM 4 40]
 .ret)))))
def t98:AFn:=⟨3,NQ,
 [.tmp 4],true⟩
def JZ:AC:=(sr [1,4,5,17,18] [
 kT 19 18 17]
 (.seq (.cond (ux 19)
 .skip
 (.exit 0))
 (.seq (.block 1
 (sr [1,4,5,17,18] [
 kM 20 18,kM 6 20]
 (.regD [1,4,5,6,17,18] 1 [
 kL 21 5,kM 22 6,kF 23 1 1,kL 24 23,kx 25 (.mks 1 1 [(.val (.bool false))] (ux 24)),kI 26 1 21 22,kn (.st none 1 (ux 26) (ux 25))])))
 (.regN [1,4,5,17,18] [
 kU 27 18,kM 18 27]))))
def J0:AC:=(sr [5,33,34] [
 kT 35 34 33]
 (.seq (.cond (ux 35)
 .skip
 (.exit 2))
 (.seq (.block 3
 (sr [5,33,34] [
 kM 36 34,kM 7 36]
 (sr [5,7,33,34] [
 kL 37 5,kM 38 7,kI 39 1 37 38,kL 40 39,kM 41 7,kI 42 1 40 41,kL 43 42]
 (.cond (ux 43)
 (sr [7] [
 kM 44 7,kM 2 44,kx 3 (.mv cT)]
 .ret)
 .skip))))
 (.regN [5,33,34] [
 kU 45 34,kM 34 45]))))
def NR:AC:=(sr [0] [
 kx 1 (.boxH 4 (ux 0)),kZ 2,kx 3 (.mv cF)]
 (.seq (sr [1] [
 kx 8 (.ldA none 4 (ux 1)),kC 9 48 8,kx 10 (.bini .neq (ux 9) c0)]
 (.cond (ux 10)
 (sr [] [
 kZ 2,kx 3 (.mv cF)]
 .ret)
 .skip))
 (sr [1] [
 kx 11 (.ldA none 4 (ux 1)),kC 12 34 11,kx 4 (.allocH [.e0]),kn (.st none 1 (ux 4) (ux 12))]
 (sr [1,4] [
 kF 13 1 1,kL 14 13,kx 15 (.mks 1 24 [.e0] (ux 14)),kx 5 (.allocH [.e0]),kn (.st none 1 (ux 5) (ux 15))]
 (.seq (sr [1,4,5] [
 kL 16 5,kN 17 16,kZ 18]
 (.block 0
 (.loop [1,4,5,17,18] JZ)))
 (sr [1,4,5] [
 kF 28 3 1,kL 29 28,kx 30 (.mkf 77 [(ux 5),(ux 1),(ux 4)]),kx 31 (.call 76 [(ux 29),(ux 30)])]
 (.seq (sr [1,5] [
 kF 32 1 1,kL 33 32,kZ 34]
 (.block 2
 (.loop [5,33,34] J0)))
 (sr [] [
 kZ 2,kx 3 (.mv cF)]
 .ret))))))))
def t50:AFn:=⟨1,NR,
 [.tmp 2,.tmp 3],true⟩
def NS:AC:=(sr [0] [
 kB 1 4 0,kx 2 (.mv (.con .e0))]
 (sr [1] [
 kP 3 1 4 1,kx 4 (.call 52 [(ux 3),cF]),kM 2 4]
 .ret))
def t34:AFn:=⟨1,NS,
 [.tmp 2],true⟩
def Ev:AC:=(sr [1,5,6,8,20,21,22,29,30,31] [
 kT 32 31 30]
 (.seq (.cond (ux 32)
 .skip
 (.exit 2))
 (.seq (.block 3
 (sr [1,5,6,8,20,21,22,29,30,31] [
 kM 33 31,kI 34 1 29 31,kL 35 34,kM 9 33,kM 10 35]
 (sr [1,5,6,8,9,10,20,21,22,29,30,31] [
 kM 36 10,kM 37 36,zM 38 37 9,zM 39 37 8,kz 40 37 (.bini .eql (ux 38) (ux 39)),kO 41 37 40,kM 42 41,yM 43 42 6,yM 44 42 9,yI 45 42 1 43 44,yL 46 42 45,ky 47 42 (.not (ux 46)),kx 48 (.pick (ux 42) (ux 47) cF)]
 (.cond (ux 48)
 (.regN [1,6,8,9,20,21,22,29,30,31] [
 kM 49 6,kM 50 9,kI 51 1 49 50,kn (.st none 1 (ux 51) cT),kx 5 (.mv cT)])
 .skip))))
 (.regN [1,5,6,8,20,21,22,29,30,31] [
 kU 52 31,kM 31 52]))))
def Ab:AC:=(sr [1,5,6,20,21,22] [
 kT 23 22 21]
 (.seq (.cond (ux 23)
 .skip
 (.exit 0))
 (.seq (.block 1
 (sr [1,5,6,20,21,22] [
 kI 24 1 20 22,kL 25 24,kM 8 25]
 (sr [1,5,6,8,20,21,22] [
 kL 26 1,kM 27 8,kI 28 1 26 27,kL 29 28,kN 30 29,kZ 31]
 (.block 2
 (.loop [1,5,6,8,20,21,22,29,30,31] Ev)))))
 (.regN [1,5,6,20,21,22] [
 kU 53 22,kM 22 53]))))
def NT:AC:=(sr [0,1,2,3] [
 kB 4 2 0,kx 5 (.mv cF)]
 (sr [1,2,3,4,5] [
 kL 11 1,kF 12 0 4,kS 13 4 12,kI 14 1 11 13,kL 15 14,kM 6 15]
 (.seq (sr [1,2,3,4,5,6] [
 kx 16 (.ldA none 4 (ux 2)),kL 17 3,kF 18 1 4,kS 19 4 18,kx 20 (.call 78 [(ux 16),(ux 17),(ux 19)]),kN 21 20,kZ 22]
 (.block 0
 (.loop [1,5,6,20,21,22] Ab)))
 (sr [5] [
 kM 54 5,kM 5 54]
 .ret))))
def t77:AFn:=⟨4,NT,
 [.tmp 5],true⟩
def J2:AC:=(sr [1,3,6,9,10,11] [
 kT 12 11 10]
 (.seq (.cond (ux 12)
 .skip
 (.exit 0))
 (.seq (.block 1
 (sr [1,3,6,9,10,11] [
 kI 13 1 9 11,kL 14 13,kM 8 14]
 (.seq (sr [1,3,6,8,9,10,11] [
 kM 15 8,kF 16 0 3,kS 17 3 16,kT 18 15 17]
 (.cond (ux 18)
 (.exit 0)
 .skip))
 (sr [1,3,6,8,9,10,11] [
 kM 19 6,kM 20 8,kF 21 0 3,kS 22 3 21,kx 23 (.bini .sub (ux 20) (ux 22)),kx 24 (.buildS 1 [(.val (.int .i64 0))] [(0,1,(ux 23))]),kx 25 (.app 1 8 (ux 19) (ux 24)),kM 6 25]
 (sr [1,3,6,8,9,10,11] [
 kM 26 1,kM 27 8,kF 28 0 3,kS 29 3 28,kx 30 (.bini .sub (ux 27) (ux 29)),kI 31 1 26 30,kL 32 31,kx 33 (.not (ux 32))]
 (.cond (ux 33)
 (.exit 0)
 .skip))))))
 (.regN [1,3,6,9,10,11] [
 kU 34 11,kM 11 34]))))
def NU:AC:=(sr [0,1,2] [
 kB 3 4 0,kx 6 (.mv (.con .e0))]
 (.seq (sr [1,2,3,6] [
 kM 9 2,kN 10 9,kZ 11]
 (.block 0
 (.loop [1,3,6,9,10,11] J2)))
 (sr [6] [
 kM 35 6,kM 6 35]
 .ret)))
def t78:AFn:=⟨3,NU,
 [.tmp 6],true⟩
def NV:AC:=(sr [0] [
 kB 1 4 0,kx 2 (.allocR [.e0]),kx 3 (.allocR [(.val (.int .i64 0)),(.val (.int .i64 0)),(.val (.int .i64 0)),(.val (.string ⟨#[]⟩))]),kZ 4]
 (.seq (sr [1,2,3] [
 kP 8 1 4 1,kC 9 48 8,kM 5 9]
 (sr [1,2,3,5] [
 kM 10 5,kx 11 (.bini .neq (ux 10) c0)]
 (.cond (ux 11)
 (sd [2,3,5] 0 [
 kP 12 2 1 2,kP 13 3 4 3,kM 14 5,kn (.st (some 2) 1 (ux 2) (ux 12)),kn (.st (some 3) 4 (ux 3) (ux 13)),kM 4 14]
 .ret)
 .skip)))
 (sr [1,2,3] [
 kP 15 1 4 1,kC 16 59 15,kn (.st (some 2) 1 (ux 2) (ux 16))]
 (.seq (sr [1,2,3] [
 kP 18 1 4 1,kP 19 2 1 2,kx 20 (.call 60 [(ux 18),(ux 19)]),kM 17 20,kE 21 17 0,kE 22 17 1,kx 6 (.allocR [(.val (.int .i64 0)),(.val (.int .i64 0)),(.val (.int .i64 0)),(.val (.string ⟨#[]⟩))]),kn (.st (some 6) 4 (ux 6) (ux 21)),kM 7 22]
 (sr [2,3,6,7] [
 kM 23 7]
 (.cond (ux 23)
 (sd [2,3,6] 0 [
 kx 24 (.build [.e0] []),kP 25 6 4 6,kn (.st (some 2) 1 (ux 2) (ux 24)),kn (.st (some 3) 4 (ux 3) (ux 25)),kx 4 (.mv (.con (.val (.int .i64 9))))]
 .ret)
 .skip)))
 (sd [2,3] 0 [
 kP 26 2 1 2,kP 27 3 4 3,kn (.st (some 2) 1 (ux 2) (ux 26)),kn (.st (some 3) 4 (ux 3) (ux 27)),kZ 4]
 .ret)))))
def t43:AFn:=⟨1,NV,
 [.cell 2 1 true,.cell 3 4 true,.tmp 4],true⟩
def J3:AC:=(sr [1,2,3,4,12,13,14] [
 kT 15 14 13]
 (.seq (.cond (ux 15)
 .skip
 (.exit 0))
 (.seq (.block 1
 (sr [1,2,3,4,12,13,14] [
 kI 16 2 12 14,kx 17 (.ldA none 2 (ux 16)),kx 6 (.allocR [(.val (.int .i64 0)),.e0]),kn (.st (some 6) 2 (ux 6) (ux 17))]
 (.regD [1,2,3,4,6,12,13,14] 0 [
 kF 18 0 2,kS 19 2 18,kF 20 2 1,kS 21 1 20,kP 22 1 4 1,kM 23 3,kF 24 1 6,kS 25 6 24,kx 26 (.call 86 [(ux 22),(ux 23),(ux 25)]),kM 27 4,kF 28 0 6,kS 29 6 28,kI 30 1 27 29,kL 31 30,kf 32 (.call 85 [(ux 21),(ux 26),(ux 31)]),kx 33 (.buildS 1 [.e0] [(0,1,(ux 32))]),kx 34 (.app 1 24 (ux 19) (ux 33)),kF 35 0 2,kn (.st (some 2) 1 (ux 35) (ux 34))])))
 (.regN [1,2,3,4,12,13,14] [
 kU 36 14,kM 14 36]))))
def NW:AC:=(sr [0] [
 kB 1 4 0,kx 2 (.allocR [.e0])]
 (sd [1,2] 0 [
 kP 7 1 4 1,kf 8 (.call 83 [.tmp 7]),kP 9 1 4 1,kf 10 (.call 84 [.tmp 9]),kM 3 8,kM 4 10]
 (.seq (sr [1,2,3,4] [
 kF 11 3 1,kS 12 1 11,kN 13 12,kZ 14]
 (.block 0
 (.loop [1,2,3,4,12,13,14] J3)))
 (sr [2] [
 kP 37 2 1 2,kn (.st (some 2) 1 (ux 2) (ux 37))]
 .ret))))
def t59:AFn:=⟨1,NW,
 [.cell 2 1 true],true⟩
def J4:AC:=(sr [1,3,4,16,17,18] [
 kT 19 18 17]
 (.seq (.cond (ux 19)
 .skip
 (.exit 2))
 (.seq (.block 3
 (sr [1,3,4,16,17,18] [
 kI 20 2 16 18,kx 21 (.ldA none 2 (ux 20)),kx 6 (.allocR [(.val (.int .i64 0)),.e0]),kn (.st (some 6) 2 (ux 6) (ux 21))]
 (sd [1,3,4,6,16,17,18] 0 [
 kM 22 3,kF 23 0 6,kS 24 6 23,kI 25 1 22 24,kL 26 25,kP 27 1 4 1,kM 28 3,kF 29 1 6,kS 30 6 29,kx 31 (.call 100 [(ux 27),(ux 28),(ux 30)]),kf 32 (.call 99 [(ux 26),(ux 31)]),kM 7 32]
 (sr [1,3,4,6,7,16,17,18] [
 kM 33 4,kM 34 33,zM 35 34 7,zN 36 34 35,zM 37 34 3,zF 38 34 0 6,zS 39 34 6 38,zI 40 34 1 37 39,zL 41 34 40,zN 42 34 41,kz 43 34 (.bini .gtr (ux 36) (ux 42)),kO 44 34 43,kM 4 44]
 (.regN [1,3,4,6,7,16,17,18] [
 kM 45 3,kF 46 0 6,kS 47 6 46,kM 48 7,kI 49 1 45 47,kn (.st none 1 (ux 49) (ux 48))])))))
 (.regN [1,3,4,16,17,18] [
 kU 50 18,kM 18 50]))))
def J5:AC:=(.seq (sr [1,3,4] [
 kM 14 4]
 (.cond (ux 14)
 .skip
 (.exit 0)))
 (.block 1
 (sr [1,3] [
 kx 4 (.mv cF)]
 (sr [1,3,4] [
 kF 15 3 1,kS 16 1 15,kN 17 16,kZ 18]
 (.block 2
 (.loop [1,3,4,16,17,18] J4))))))
def NX:AC:=(sr [0] [
 kB 1 4 0,kx 2 (.mv (.con .e0))]
 (.seq (sr [1] [
 kP 8 1 4 1,kC 9 48 8,kx 10 (.bini .neq (ux 9) c0)]
 (.cond (ux 10)
 (sr [] [
 kx 2 (.mv (.con .e0))]
 .ret)
 .skip))
 (sr [1] [
 kF 11 1 1,kS 12 1 11,kx 13 (.mks 1 24 [.e0] (ux 12)),kM 3 13]
 (.seq (sr [1,3] [
 kx 4 (.mv cT)]
 (.block 0
 (.loop [1,3,4] J5)))
 (sr [3] [
 kM 51 3,kM 2 51]
 .ret)))))
def t83:AFn:=⟨1,NX,
 [.tmp 2],true⟩
def yu:AC:=(sr [1,3,7,12,13,14] [
 kT 15 14 13]
 (.seq (.cond (ux 15)
 .skip
 (.exit 0))
 (.seq (.block 1
 (sr [1,3,7,12,13,14] [
 kI 16 1 12 14,kL 17 16,kM 9 17]
 (sr [1,3,7,9,12,13,14] [
 kM 18 9,kx 19 (.cvi .u8 (ux 18)),kx 20 (.buildS 1 [(.val (.int .u8 0))] [(0,1,(ux 19))]),kx 21 (.b2s (ux 20)),kx 22 (.buildS 1 [(.val (.string ⟨#[]⟩))] [(0,1,(ux 21))]),kM 10 22]
 (.seq (sr [1,3,7,9,10,12,13,14] [
 kM 23 9,kF 24 0 3,kS 25 3 24,kx 26 (.bini .geq (ux 23) (ux 25))]
 (.cond (ux 26)
 (.regN [1,3,7,9,12,13,14] [
 kM 27 1,kM 28 9,kF 29 0 3,kS 30 3 29,kx 31 (.bini .sub (ux 28) (ux 30)),kI 32 1 27 31,kL 33 32,kM 10 33])
 .skip))
 (.regN [1,3,7,10,12,13,14] [
 kF 34 2 3,kS 35 3 34,kM 36 7,kM 37 10,kx 38 (.call 85 [(ux 35),(ux 36),(ux 37)]),kM 7 38])))))
 (.regN [1,3,7,12,13,14] [
 kU 39 14,kM 14 39]))))
def Ew:AC:=(sr [0,1,2] [
 kB 3 4 0,kx 6 (.mv (.con .e0))]
 (sr [1,2,3] [
 kx 11 (.buildS 1 [(.val (.string ⟨#[]⟩))] [(0,1,(.con (.val (.string ⟨#[]⟩))))]),kM 7 11]
 (.seq (sr [1,2,3,7] [
 kM 12 2,kN 13 12,kZ 14]
 (.block 0
 (.loop [1,3,7,12,13,14] yu)))
 (sr [7] [
 kM 40 7,kM 6 40]
 .ret))))
def LK:AFn:=⟨3,Ew,
 [.tmp 6],true⟩
def J6:AC:=(sr [0,2,7,9,19,20,21,37,38,39] [
 kT 40 39 38]
 (.seq (.cond (ux 40)
 .skip
 (.exit 2))
 (.seq (.block 3
 (sr [0,2,7,9,19,20,21,37,38,39] [
 kI 41 1 37 39,kL 42 41,kM 11 42]
 (sr [0,2,7,9,11,19,20,21,37,38,39] [
 kM 43 9,kM 44 11,kx 45 (.bins .add (ux 43) (ux 44)),kM 12 45]
 (.regN [0,2,7,9,12,19,20,21,37,38,39] [
 kM 46 7,kM 47 12,kM 48 0,kM 49 12,kx 50 (.len true (ux 49)),kx 51 (.mm false [(ux 48),(ux 50)]),kx 52 (.slS (ux 47) none (some (ux 51))),kx 53 (.buildS 1 [(.val (.string ⟨#[]⟩))] [(0,1,(ux 52))]),kx 54 (.call 104 [(ux 46),(ux 53)])]))))
 (.regN [0,2,7,9,19,20,21,37,38,39] [
 kU 55 39,kM 39 55]))))
def Ey:AC:=(sr [0,2,7,19,20,21] [
 kT 22 21 20]
 (.seq (.cond (ux 22)
 .skip
 (.exit 0))
 (.seq (.block 1
 (sr [0,2,7,19,20,21] [
 kI 23 1 19 21,kL 24 23,kM 9 24]
 (.seq (sr [0,2,7,9,19,20,21] [
 kM 25 0,kM 26 9,kx 27 (.call 103 [(ux 25),(ux 26)])]
 (.cond (ux 27)
 (sr [0,2,7,9,19,20,21] [
 kM 28 7,kM 29 9,kM 30 0,kM 31 9,kx 32 (.len true (ux 31)),kx 33 (.mm false [(ux 30),(ux 32)]),kx 34 (.slS (ux 29) none (some (ux 33))),kx 35 (.buildS 1 [(.val (.string ⟨#[]⟩))] [(0,1,(ux 34))]),kx 36 (.call 104 [(ux 28),(ux 35)])]
 (.exit 1))
 .skip))
 (sr [0,2,7,9,19,20,21] [
 kM 37 2,kN 38 37,kZ 39]
 (.block 2
 (.loop [0,2,7,9,19,20,21,37,38,39] J6))))))
 (.regN [0,2,7,19,20,21] [
 kU 56 21,kM 21 56]))))
def IE:AC:=(sr [0,1,2] [
 kx 6 (.mv (.con .e0))]
 (.seq (sr [0,1,2] [
 kM 13 2,kN 14 13,kx 15 (.bini .eql (ux 14) c0)]
 (.cond (ux 15)
 (sr [] [
 kx 6 (.mv (.con .e0))]
 .ret)
 .skip))
 (sr [0,1,2] [
 kM 16 0,kx 17 (.mm true [c0,(ux 16)]),kM 0 17]
 (sr [0,1,2] [
 kx 18 (.mkm),kM 7 18]
 (.seq (sr [0,1,2,7] [
 kM 19 1,kN 20 19,kZ 21]
 (.block 0
 (.loop [0,2,7,19,20,21] Ey)))
 (sr [7] [
 kM 57 7,kC 58 105 57,kM 6 58]
 .ret))))))
def t85:AFn:=⟨3,IE,
 [.tmp 6],true⟩
def J7:AC:=(sr [0,1] [
 kx 4 (.mv cF)]
 (sr [0,1] [
 kM 5 1,kx 6 (.len true (ux 5)),kM 7 0,kx 8 (.bini .geq (ux 6) (ux 7)),kM 9 8,zM 10 9 1,kz 11 9 (.bins .neq (ux 10) (.con (.val (.string ⟨#[]⟩)))),zM 12 9 11,yM 13 12 1,yM 14 12 1,ky 15 12 (.len true (ux 14)),ky 16 12 (.bini .sub (ux 15) c1),ky 17 12 (.ixS (ux 13) (ux 16)),ky 18 12 (.bini .eql (ux 17) (.con (.val (.int .u8 255)))),kz 19 9 (.pick (ux 12) (ux 18) cF),kO 20 9 19,kM 4 20]
 .ret))
def LL:AFn:=⟨2,J7,
 [.tmp 4],true⟩
def Ez:AC:=(sr [0,6,7,8] [
 kT 9 8 7]
 (.seq (.cond (ux 9)
 .skip
 (.exit 0))
 (.seq (.block 1
 (sr [0,6,7,8] [
 kI 10 1 6 8,kL 11 10,kM 5 11]
 (.regN [0,5,6,7,8] [
 kM 12 0,kM 13 5,kx 14 (.build [] []),kn (.mup false [2] (ux 12) (ux 13) (ux 14))])))
 (.regN [0,6,7,8] [
 kU 15 8,kM 8 15]))))
def J8:AC:=(sr [0,1] [
 kM 6 1,kN 7 6,kZ 8]
 (.block 0
 (.loop [0,6,7,8] Ez)))
def LM:AFn:=⟨2,J8,
 [],true⟩
def Ac:AC:=(sr [1,2,3,4,5,6,38,39,40] [
 kT 41 40 39]
 (.seq (.cond (ux 41)
 .skip
 (.exit 2))
 (.seq (.block 3
 (sr [1,2,3,4,5,6,38,39,40] [
 kI 42 1 38 40,kL 43 42,kM 9 43]
 (sr [1,2,3,4,5,6,9,38,39,40] [
 kF 44 3 1,kL 45 44,kM 46 9,kI 47 2 45 46,kF 48 1 47,kL 49 48,kx 10 (.allocH [.e0]),kn (.st none 1 (ux 10) (ux 49))]
 (sr [1,2,3,4,5,6,10,38,39,40] [
 kL 50 10,kC 51 64 50]
 (.block 4
 (.rangeF [1,2,3,4,5,6,10,38,39,40,51] az (ux 51) [52,53]
 (sr [1,3,4,5,6,10,52,53] [
 kM 11 52]
 (.regN [1,3,4,5,6,10,11,53] [
 kM 12 53]))
 (.block 5
 (.seq (sr [1,3,4,5,6,10,11,12] [
 kM 54 12,kF 55 0 1,kL 56 55,kT 57 54 56]
 (.cond (ux 57)
 (.exit 5)
 .skip))
 (sr [1,3,4,5,6,10,11,12] [
 kM 58 12,kF 59 0 1,kL 60 59,kx 61 (.bini .sub (ux 58) (ux 60)),kM 13 61]
 (sd [1,3,4,5,6,10,11,13] 0 [
 kL 62 4,kM 63 13,kI 64 1 62 63,kL 65 64,kF 66 2 1,kL 67 66,kx 68 (.ldA none 4 (ux 1)),kL 69 3,kL 70 10,kM 71 11,kU 72 71,kx 73 (.slC 1 (ux 70) (some (ux 72)) none),kx 74 (.call 86 [(ux 68),(ux 69),(ux 73)]),kL 75 4,kL 76 6,kI 77 1 75 76,kL 78 77,kx 79 (.call 85 [(ux 67),(ux 74),(ux 78)]),kf 80 (.call 99 [(ux 65),(ux 79)]),kM 14 80]
 (sr [4,5,13,14] [
 kM 81 14,kN 82 81,kL 83 4,kM 84 13,kI 85 1 83 84,kL 86 85,kN 87 86,kx 88 (.bini .gtr (ux 82) (ux 87))]
 (.cond (ux 88)
 (sr [4,5,13,14] [
 kL 89 4,kM 90 13,kM 91 14,kI 92 1 89 90,kn (.st none 1 (ux 92) (ux 91))]
 (.regN [5,13] [
 kM 93 13,kx 94 (.call 101 [(ux 5),(ux 93)])]))
 .skip))))))))))))
 (.regN [1,2,3,4,5,6,38,39,40] [
 kU 95 40,kM 40 95]))))
def EA:AC:=(.seq (sr [1,2,3,4,5,6,7] [
 kM 31 7]
 (.cond (ux 31)
 .skip
 (.exit 0)))
 (.seq (.block 1
 (sr [1,2,3,4,5,6] [
 kx 36 (.ldA none 4 (ux 1)),kL 37 6,kx 38 (.call 53 [(ux 36),(ux 37)]),kN 39 38,kZ 40]
 (.block 2
 (.loop [1,2,3,4,5,6,38,39,40] Ac))))
 (.seq (sr [1,2,3,4,5,6] [
 kL 96 6]
 (.regN [1,2,3,4,5,96] [
 kx 6 (.allocH [(.val (.int .i64 0))]),kn (.st none 1 (ux 6) (ux 96))]))
 (.regN [1,2,3,4,5,6] [
 kC 33 102 5,kM 32 33,kE 34 32 0,kE 35 32 1,kn (.st none 1 (ux 6) (ux 34)),kM 7 35]))))
def NY:AC:=(sr [0] [
 kx 1 (.boxH 4 (ux 0)),kx 2 (.mv (.con .e0))]
 (.seq (sr [1,2] [
 kx 15 (.ldA none 4 (ux 1)),kC 16 48 15,kx 17 (.bini .neq (ux 16) c0)]
 (.cond (ux 17)
 (sr [] [
 kx 2 (.mv (.con .e0))]
 .ret)
 .skip))
 (sr [1,2] [
 kx 18 (.ldA none 4 (ux 1)),kC 19 83 18,kx 3 (.allocH [.e0]),kn (.st none 1 (ux 3) (ux 19))]
 (sr [1,2,3] [
 kF 20 1 1,kL 21 20,kx 22 (.mks 1 24 [.e0] (ux 21)),kx 4 (.allocH [.e0]),kn (.st none 1 (ux 4) (ux 22))]
 (sr [1,2,3,4] [
 kL 23 4,kx 24 (.buildS 1 [(.val (.string ⟨#[]⟩))] [(0,1,(.con (.val (.string ⟨#[255]⟩))))]),kx 25 (.ixA 1 (ux 23) c0),kn (.st none 1 (ux 25) (ux 24))]
 (sr [1,2,3,4] [
 kx 5 (.allocH [.e0,(.val (.bool false)),(.val (.bool false)),(.val (.bool false)),(.val (.bool false)),(.val (.bool false)),(.val (.bool false)),(.val (.bool false)),(.val (.bool false)),(.val (.bool false)),(.val (.bool false)),(.val (.bool false)),(.val (.bool false)),(.val (.bool false)),(.val (.bool false)),(.val (.bool false)),(.val (.bool false))])]
 (sr [1,2,3,4,5] [
 kx 26 (.call 101 [(ux 5),c0])]
 (.seq (sr [1,2,3,4,5] [
 kC 28 102 5,kM 27 28,kE 29 27 0,kE 30 27 1,kx 6 (.allocH [(.val (.int .i64 0))]),kn (.st none 1 (ux 6) (ux 29)),kM 7 30]
 (.block 0
 (.loop [1,2,3,4,5,6,7] EA)))
 (sr [4] [
 kL 97 4,kM 2 97]
 .ret)))))))))
def t84:AFn:=⟨1,NY,
 [.tmp 2],true⟩
def EB:AC:=(sr [0,1] [
 kM 4 0,kM 5 1,kx 6 (.nilc (ux 4)),kF 7 1 6,kx 8 (.ixR 16 1 (ux 7) (ux 5)),kL 9 8,kx 10 (.not (ux 9))]
 (.cond (ux 10)
 (sr [0,1] [
 kM 11 0,kM 12 1,kx 13 (.nilc (ux 11)),kF 14 1 13,kx 15 (.ixR 16 1 (ux 14) (ux 12)),kn (.st none 1 (ux 15) cT)]
 (.regN [0,1] [
 kM 16 0,kM 17 0,kx 18 (.nilc (ux 17)),kF 19 0 18,kL 20 19,kM 21 1,kx 22 (.buildS 1 [(.val (.int .i64 0))] [(0,1,(ux 21))]),kx 23 (.app 1 8 (ux 20) (ux 22)),kx 24 (.nilc (ux 16)),kF 25 0 24,kn (.st none 1 (ux 25) (ux 23))]))
 .skip))
def LN:AFn:=⟨2,EB,
 [],false⟩
def J9:AC:=(sr [0] [
 kZ 2,kx 3 (.mv cF)]
 (.seq (sr [0] [
 kM 5 0,kx 6 (.nilc (ux 5)),kF 7 0 6,kL 8 7,kN 9 8,kx 10 (.bini .eql (ux 9) c0)]
 (.cond (ux 10)
 (sr [] [
 kZ 2,kx 3 (.mv cF)]
 .ret)
 .skip))
 (sr [0] [
 kM 11 0,kx 12 (.nilc (ux 11)),kF 13 0 12,kL 14 13,kx 15 (.ixA 1 (ux 14) c0),kL 16 15,kM 4 16]
 (sd [0,4] 0 [
 kM 17 0,kM 18 0,kM 19 4,kM 20 0,kx 21 (.nilc (ux 20)),kF 22 0 21,kL 23 22,kx 24 (.slC 1 (ux 23) (some c1) none),kx 25 (.nilc (ux 17)),kF 26 0 25,kn (.st none 1 (ux 26) (ux 24)),kx 27 (.nilc (ux 18)),kF 28 1 27,kx 29 (.ixR 16 1 (ux 28) (ux 19)),kn (.st none 1 (ux 29) cF)]
 (sr [4] [
 kM 30 4,kM 2 30,kx 3 (.mv cT)]
 .ret)))))
def LO:AFn:=⟨1,J9,
 [.tmp 2,.tmp 3],false⟩
def Ka:AC:=(sr [1,4,11,12,13] [
 kT 14 13 12]
 (.seq (.cond (ux 14)
 .skip
 (.exit 0))
 (.seq (.block 1
 (sr [1,4,11,12,13] [
 kM 15 13,kI 16 2 11 13,kx 17 (.ldA none 2 (ux 16)),kx 6 (.allocR [(.val (.int .i64 0)),.e0]),kM 5 15,kn (.st (some 6) 2 (ux 6) (ux 17))]
 (sr [1,4,5,6,11,12,13] [
 kF 18 0 6,kS 19 6 18,kM 20 1,kx 21 (.bini .eql (ux 19) (ux 20))]
 (.cond (ux 21)
 (.regN [1,4,5,11,12,13] [
 kM 22 4,kM 23 5,kx 24 (.buildS 1 [(.val (.int .i64 0))] [(0,1,(ux 23))]),kx 25 (.app 1 8 (ux 22) (ux 24)),kM 4 25])
 .skip))))
 (.regN [1,4,11,12,13] [
 kU 26 13,kM 13 26]))))
def NZ:AC:=(sr [0,1] [
 kB 2 4 0,kx 4 (.mv (.con .e0))]
 (.seq (sr [1,2,4] [
 kP 7 2 4 2,kC 8 48 7,kx 9 (.bini .neq (ux 8) c0)]
 (.cond (ux 9)
 (sr [] [
 kx 4 (.mv (.con .e0))]
 .ret)
 .skip))
 (.seq (sr [1,2,4] [
 kF 10 3 2,kS 11 2 10,kN 12 11,kZ 13]
 (.block 0
 (.loop [1,4,11,12,13] Ka)))
 (sr [4] [
 kM 27 4,kM 4 27]
 .ret))))
def t53:AFn:=⟨2,NZ,
 [.tmp 4],true⟩
def N0:AC:=(sr [0] [
 kx 1 (.boxH 1 (ux 0)),kx 2 (.mv (.con (.val .nilFunc)))]
 (sr [1] [
 kx 3 (.mkf 90 [.tmp 1]),kM 2 3]
 .ret))
def t64:AFn:=⟨1,N0,
 [.tmp 2],true⟩
def N1:AC:=(.seq (sr [0,1,3] [
 kM 7 3,kx 8 (.bini .geq (ux 7) c0)]
 (.cond (ux 8)
 .skip
 (.exit 0)))
 (.seq (.block 1
 (sr [0,1,3] [
 kM 11 0,kM 12 3,kL 13 1,kM 14 3,kI 15 1 13 14,kL 16 15,kx 17 (.callv (ux 11) [(ux 12),(ux 16)]),kx 18 (.not (ux 17))]
 (.cond (ux 18)
 .ret
 .skip)))
 (.regN [0,1,3] [
 kM 9 3,kx 10 (.bini .sub (ux 9) c1),kM 3 10])))
def Pw:AC:=(sr [0,1] [
 kL 4 1,kN 5 4,kx 6 (.bini .sub (ux 5) c1),kM 3 6]
 (.block 0
 (.loop [0,1,3] N1)))
def t90:AFn:=⟨2,Pw,
 [],true⟩
def N2:AC:=(sr [0,1,2] [
 kx 3 (.boxH 4 (ux 0)),kx 6 (.mv (.con .e0))]
 (.seq (sr [1,2,3] [
 kx 7 (.ldA none 4 (ux 3)),kC 8 48 7,kx 9 (.bini .neq (ux 8) c0),kM 10 9,zM 11 10 1,zN 12 10 11,zF 13 10 1 3,zL 14 10 13,kz 15 10 (.bini .neq (ux 12) (ux 14)),kO 16 10 15,kM 17 16,zM 18 17 2,kz 19 17 (.mkf 106 [.tmp 3]),kz 20 17 (.call 72 [(ux 18),(ux 19)]),kO 21 17 20]
 (.cond (ux 21)
 (sr [] [
 kx 6 (.mv (.con .e0))]
 .ret)
 .skip))
 (sr [1,2,3] [
 kx 22 (.ldA none 4 (ux 3)),kM 23 1,kM 24 2,kx 25 (.call 100 [(ux 22),(ux 23),(ux 24)]),kM 6 25]
 .ret)))
def t86:AFn:=⟨3,N2,
 [.tmp 6],true⟩
def Kb:AC:=(sr [0,1] [
 kx 3 (.mv cF)]
 (sr [0,1] [
 kM 4 0,kx 5 (.bini .lss (ux 4) c0),kM 6 5,zM 7 6 0,zF 8 6 0 1,zL 9 6 8,zF 10 6 1 1,zL 11 6 10,kz 12 6 (.bini .add (ux 9) (ux 11)),kz 13 6 (.bini .geq (ux 7) (ux 12)),kO 14 6 13,kM 3 14]
 .ret))
def LU:AFn:=⟨2,Kb,
 [.tmp 3],true⟩
def EC:AC:=(sr [1,3,4,13,14,15] [
 kT 16 15 14]
 (.seq (.cond (ux 16)
 .skip
 (.exit 0))
 (.seq (.block 1
 (sr [1,3,4,13,14,15] [
 kI 17 2 13 15,kx 18 (.ldA none 2 (ux 17)),kx 6 (.allocR [(.val (.int .i64 0)),.e0]),kn (.st (some 6) 2 (ux 6) (ux 18))]
 (.regN [1,3,4,6,13,14,15] [
 kM 19 4,kF 20 1 6,kS 21 6 20,kN 22 21,kx 23 (.mm true [(ux 19),(ux 22)]),kM 4 23])))
 (.regN [1,3,4,13,14,15] [
 kU 24 15,kM 15 24]))))
def N3:AC:=(sr [0] [
 kB 1 4 0,kZ 2]
 (sr [1] [
 kP 7 1 4 1,kC 8 15 7,kM 3 8]
 (.seq (sr [1,3] [
 kM 9 3,kN 10 9,kx 11 (.bini .eql (ux 10) c0)]
 (.cond (ux 11)
 (sr [] [
 kZ 2]
 .ret)
 .skip))
 (sr [1,3] [
 kZ 4]
 (.seq (sr [1,3,4] [
 kF 12 3 1,kS 13 1 12,kN 14 13,kZ 15]
 (.block 0
 (.loop [1,3,4,13,14,15] EC)))
 (sd [1,3,4] 0 [
 kM 25 3,kf 26 (.call 36 [.tmp 25]),kM 27 4,kP 28 1 4 1,kf 29 (.call 14 [.tmp 28]),kf 30 (.call 36 [.tmp 29]),kx 31 (.mm true [c0,(ux 30)]),kx 32 (.bini .mul (ux 27) (ux 31)),kx 33 (.bini .add c1 (ux 32)),kx 34 (.bini .mul (ux 26) (ux 33)),kU 35 34,kM 2 35]
 .ret))))))
def t16:AFn:=⟨1,N3,
 [.tmp 2],true⟩
def ED:AC:=(sr [3,4,14,16,17] [
 kT 18 17 16]
 (.seq (.cond (ux 18)
 .skip
 (.exit 0))
 (.seq (.block 1
 (sr [3,4,14,16,17] [
 kM 19 17,kM 5 19]
 (.regN [3,4,5,14,16,17] [
 kM 20 4,kM 21 3,kM 22 5,kx 23 (.call 35 [(ux 21),(ux 22)]),kx 24 (.buildS 1 [(.val (.int .i64 0))] [(0,1,(ux 23))]),kx 25 (.app 1 8 (ux 20) (ux 24)),kM 4 25])))
 (.regN [3,4,14,16,17] [
 kU 26 17,kM 17 26]))))
def N4:AC:=(sr [0] [
 kB 1 4 0,kx 2 (.mv (.con .e0))]
 (.seq (sr [1] [
 kP 6 1 4 1,kC 7 31 6,kx 8 (.bini .neq (ux 7) c0)]
 (.cond (ux 8)
 (sr [] [
 kx 2 (.mv (.con .e0))]
 .ret)
 .skip))
 (sd [1] 2 [
 kP 9 1 4 1,kP 10 1 4 1,kC 11 34 10,kx 12 (.mkm),kx 13 (.build [(.val (.int .i64 0)),(.val (.int .i64 0)),(.val (.int .i64 0)),.e0,.e0,(.val (.map none))] [(0,4,(ux 9)),(4,1,(ux 11)),(5,1,(ux 12))]),⟨some 14,none,.boxH 6 (ux 13),1,false⟩,kM 3 14]
 (sr [1,3,14] [
 kx 4 (.mv (.con .e0))]
 (.seq (sr [1,3,4,14] [
 kF 15 1 1,kS 16 1 15,kZ 17]
 (.block 0
 (.loop [3,4,14,16,17] ED)))
 (sr [4] [
 kM 27 4,kM 2 27]
 .ret))))))
def t15:AFn:=⟨1,N4,
 [.tmp 2],true⟩
def EE:AC:=(sr [0,1,7,28,29,30,42,43,44] [
 kT 45 44 43]
 (.seq (.cond (ux 45)
 .skip
 (.exit 2))
 (.seq (.block 3
 (sr [0,1,7,28,29,30,42,43,44] [
 kI 46 1 42 44,kL 47 46,kM 11 47]
 (.seq (sr [0,1,7,11,28,29,30,42,43,44] [
 kM 48 11,kM 49 0,kx 50 (.nilc (ux 49)),kF 51 0 50,kF 52 0 51,kL 53 52,kT 54 48 53]
 (.cond (ux 54)
 (.exit 2)
 .skip))
 (sr [0,1,7,11,28,29,30,42,43,44] [
 kM 55 7,kM 56 0,kM 57 11,kM 58 0,kx 59 (.nilc (ux 58)),kF 60 0 59,kF 61 0 60,kL 62 61,kx 63 (.bini .sub (ux 57) (ux 62)),kx 64 (.call 35 [(ux 56),(ux 63)]),kx 65 (.mm true [(ux 55),(ux 64)]),kM 7 65]
 (sd [0,1,7,11,28,29,30,42,43,44] 0 [
 kM 66 0,kx 67 (.nilc (ux 66)),kF 68 4 67,kL 69 68,kM 70 11,kM 71 0,kx 72 (.nilc (ux 71)),kF 73 0 72,kF 74 0 73,kL 75 74,kx 76 (.bini .sub (ux 70) (ux 75)),kI 77 1 69 76,kL 78 77,kx 79 (.not (ux 78))]
 (.cond (ux 79)
 (.exit 2)
 .skip))))))
 (.regN [0,1,7,28,29,30,42,43,44] [
 kU 80 44,kM 44 80]))))
def EF:AC:=(sr [0,1,7,28,29,30] [
 kT 31 30 29]
 (.seq (.cond (ux 31)
 .skip
 (.exit 0))
 (.seq (.block 1
 (sr [0,1,7,28,29,30] [
 kI 32 1 28 30,kL 33 32,kM 9 33]
 (sr [0,1,7,9,28,29,30] [
 kM 34 0,kx 35 (.nilc (ux 34)),kF 36 0 35,kF 37 3 36,kL 38 37,kM 39 9,kI 40 2 38 39,kF 41 1 40,kL 42 41,kN 43 42,kZ 44]
 (.block 2
 (.loop [0,1,7,28,29,30,42,43,44] EE)))))
 (.regN [0,1,7,28,29,30] [
 kU 81 30,kM 30 81]))))
def LV:AC:=(sr [0,1] [
 kZ 4]
 (.seq (sr [0,1] [
 kM 13 0,kx 14 (.nilc (ux 13)),kF 15 5 14,kL 16 15,kM 17 1,kx 18 (.mlk false [1] (.val (.int .i64 0)) true (ux 16) (ux 17)),kM 12 18,kE 19 12 0,kE 20 12 1,kM 5 19,kM 6 20]
 (sr [0,1,5,6] [
 kM 21 6]
 (.cond (ux 21)
 (sr [5] [
 kM 22 5,kM 4 22]
 .ret)
 .skip)))
 (sr [0,1] [
 kZ 7]
 (.seq (sr [0,1,7] [
 kM 23 0,kx 24 (.nilc (ux 23)),kF 25 0 24,kx 26 (.ldA none 4 (ux 25)),kM 27 1,kx 28 (.call 53 [(ux 26),(ux 27)]),kN 29 28,kZ 30]
 (.block 0
 (.loop [0,1,7,28,29,30] EF)))
 (sr [0,1,7] [
 kM 82 0,kx 83 (.nilc (ux 82)),kF 84 5 83,kL 85 84,kM 86 1,kM 87 7,kU 88 87,kn (.mup false [1] (ux 85) (ux 86) (ux 88))]
 (sr [7] [
 kM 89 7,kU 90 89,kM 4 90]
 .ret))))))
def t35:AFn:=⟨2,LV,
 [.tmp 4],false⟩
def Kc:AC:=(.seq (sr [0,3,4] [
 kM 12 4,kM 13 0,kN 14 13,kT 15 12 14]
 (.cond (ux 15)
 .skip
 (.exit 0)))
 (.seq (.block 1
 (.regN [0,3,4] [
 kM 18 3,kM 19 0,kM 20 4,kI 21 1 19 20,kL 22 21,kx 23 (.mm true [(ux 18),(ux 22)]),kM 3 23]))
 (.regN [0,3,4] [
 kM 16 4,kU 17 16,kM 4 17])))
def N5:AC:=(sr [0] [
 kZ 2]
 (.seq (sr [0] [
 kM 5 0,kN 6 5,kx 7 (.bini .lss (ux 6) c1)]
 (.cond (ux 7)
 (.regN [0] [
 kx 8 (.bad),kn (.bad)])
 .skip))
 (sr [0] [
 kM 9 0,kx 10 (.ixA 1 (ux 9) c0),kL 11 10,kM 3 11]
 (.seq (sr [0,3] [
 kx 4 (.mv c1)]
 (.block 0
 (.loop [0,3,4] Kc)))
 (sr [3] [
 kM 24 3,kM 2 24]
 .ret)))))
def t36:AFn:=⟨1,N5,
 [.tmp 2],true⟩
def EG:AC:=(sr [1,3,4,18,19,20] [
 kT 21 20 19]
 (.seq (.cond (ux 21)
 .skip
 (.exit 2))
 (.seq (.block 3
 (sr [1,3,4,18,19,20] [
 kI 22 2 18 20,kx 23 (.ldA none 2 (ux 22)),kx 6 (.allocR [(.val (.int .i64 0)),.e0]),kn (.st (some 6) 2 (ux 6) (ux 23))]
 (sr [1,3,4,6,18,19,20] [
 kP 25 1 4 1,kM 26 3,kF 27 1 6,kS 28 6 27,kx 29 (.call 33 [(ux 25),(ux 26),(ux 28)]),kM 24 29,kE 30 24 0,kE 31 24 1,kM 7 30,kM 8 31]
 (sr [1,3,4,6,7,8,18,19,20] [
 kM 32 8,kM 33 32,yM 34 33 3,yF 35 33 0 6,yS 36 33 6 35,yI 37 33 1 34 36,yL 38 33 37,ky 39 33 (.bini .lss (ux 38) c0),yM 40 33 39,zM 41 40 7,kz 42 40 (.bini .add (ux 41) c1),zM 43 40 3,zF 44 40 0 6,zS 45 40 6 44,zI 46 40 1 43 45,zL 47 40 46,kz 48 40 (.bini .lss (ux 42) (ux 47)),ky 49 33 (.pick (ux 40) cT (ux 48)),kx 50 (.pick (ux 33) (ux 49) cF)]
 (.cond (ux 50)
 (.regN [1,3,6,7,18,19,20] [
 kM 51 3,kF 52 0 6,kS 53 6 52,kM 54 7,kU 55 54,kI 56 1 51 53,kn (.st none 1 (ux 56) (ux 55)),kx 4 (.mv cT)])
 .skip)))))
 (.regN [1,3,4,18,19,20] [
 kU 57 20,kM 20 57]))))
def EH:AC:=(.seq (sr [1,3,4] [
 kM 16 4]
 (.cond (ux 16)
 .skip
 (.exit 0)))
 (.block 1
 (sr [1,3] [
 kx 4 (.mv cF)]
 (sr [1,3,4] [
 kF 17 3 1,kS 18 1 17,kN 19 18,kZ 20]
 (.block 2
 (.loop [1,3,4,18,19,20] EG))))))
def N6:AC:=(sr [0] [
 kB 1 4 0,kx 2 (.mv (.con .e0))]
 (.seq (sr [1] [
 kP 9 1 4 1,kC 10 31 9,kx 11 (.bini .neq (ux 10) c0)]
 (.cond (ux 11)
 (sr [] [
 kx 2 (.mv (.con .e0))]
 .ret)
 .skip))
 (sr [1] [
 kx 12 (.buildS 1 [(.val (.int .i64 0))] [(0,1,(.con (.val (.int .i64 (-1)))))]),kF 13 1 1,kS 14 1 13,kx 15 (.call 32 [(ux 12),(ux 14)]),kM 3 15]
 (.seq (sr [1,3] [
 kx 4 (.mv cT)]
 (.block 0
 (.loop [1,3,4] EH)))
 (sr [3] [
 kM 58 3,kM 2 58]
 .ret)))))
def t14:AFn:=⟨1,N6,
 [.tmp 2],true⟩
def Kd:AC:=(sr [1,3,8,11,12,13] [
 kT 14 13 12]
 (.seq (.cond (ux 14)
 .skip
 (.exit 0))
 (.seq (.block 1
 (sr [1,3,8,11,12,13] [
 kI 15 1 11 13,kL 16 15,kM 10 16]
 (.seq (sr [1,3,8,10,11,12,13] [
 kM 17 10,kF 18 0 3,kS 19 3 18,kT 20 17 19,kM 21 20,zM 22 21 1,zM 23 21 10,zF 24 21 0 3,zS 25 21 3 24,kz 26 21 (.bini .sub (ux 23) (ux 25)),zI 27 21 1 22 26,zL 28 21 27,kz 29 21 (.bini .lss (ux 28) c0),kO 30 21 29]
 (.cond (ux 30)
 (sr [] [
 kZ 6,kx 7 (.mv cF)]
 .ret)
 .skip))
 (.regN [1,3,8,10,11,12,13] [
 kM 31 8,kM 32 1,kM 33 10,kF 34 0 3,kS 35 3 34,kx 36 (.bini .sub (ux 33) (ux 35)),kI 37 1 32 36,kL 38 37,kx 39 (.bini .add (ux 31) (ux 38)),kM 8 39]))))
 (.regN [1,3,8,11,12,13] [
 kU 40 13,kM 13 40]))))
def N7:AC:=(sr [0,1,2] [
 kB 3 4 0,kZ 6,kx 7 (.mv cF)]
 (sr [1,2,3] [
 kZ 8]
 (.seq (sr [1,2,3,8] [
 kM 11 2,kN 12 11,kZ 13]
 (.block 0
 (.loop [1,3,8,11,12,13] Kd)))
 (sr [8] [
 kM 41 8,kM 6 41,kx 7 (.mv cT)]
 .ret))))
def t33:AFn:=⟨3,N7,
 [.tmp 6,.tmp 7],true⟩
def N8:AC:=(sr [0,1] [
 kB 2 1 0,kB 3 1 1,kx 4 (.mv cF)]
 (sr [2,3] [
 kF 5 0 2,kS 6 2 5,kF 7 0 3,kS 8 3 7,kx 9 (.call 61 [(ux 6),(ux 8),(.con (.fn 62 []))]),kM 4 9]
 .ret))
def t44:AFn:=⟨2,N8,
 [.tmp 4],true⟩
def EI:AC:=(sr [1,2,15,16,17] [
 kT 18 17 16]
 (.seq (.cond (ux 18)
 .skip
 (.exit 0))
 (.seq (.block 1
 (sr [1,2,15,16,17] [
 kM 19 17,kI 20 1 15 17,kL 21 20,kM 7 19,kM 8 21]
 (sr [1,2,7,8,15,16,17] [
 kM 22 1,kM 23 7,kI 24 1 22 23,kL 25 24,kM 9 25]
 (sr [1,2,8,9,15,16,17] [
 kM 26 2,kM 27 8,kM 28 9,kx 29 (.callv (ux 26) [(ux 27),(ux 28)]),kx 30 (.not (ux 29))]
 (.cond (ux 30)
 (sr [] [
 kx 6 (.mv cF)]
 .ret)
 .skip)))))
 (.regN [1,2,15,16,17] [
 kU 31 17,kM 17 31]))))
def N9:AC:=(sr [0,1,2] [
 kx 6 (.mv cF)]
 (.seq (sr [0,1,2] [
 kM 10 0,kN 11 10,kM 12 1,kN 13 12,kx 14 (.bini .neq (ux 11) (ux 13))]
 (.cond (ux 14)
 (sr [] [
 kx 6 (.mv cF)]
 .ret)
 .skip))
 (.seq (sr [0,1,2] [
 kM 15 0,kN 16 15,kZ 17]
 (.block 0
 (.loop [1,2,15,16,17] EI)))
 (sr [] [
 kx 6 (.mv cT)]
 .ret))))
def t61:AFn:=⟨3,N9,
 [.tmp 6],true⟩
def EJ:AC:=(sr [0,1,12,13] [
 kT 14 13 12]
 (.seq (.cond (ux 14)
 .skip
 (.exit 0))
 (.seq (.block 1
 (sr [0,1,12,13] [
 kM 15 13,kM 5 15]
 (sd [0,1,5,12,13] 0 [
 kM 16 0,kM 17 5,kI 18 1 16 17,kL 19 18,kM 20 1,kM 21 5,kI 22 1 20 21,kL 23 22,kx 24 (.bins .neq (ux 19) (ux 23))]
 (.cond (ux 24)
 (sr [] [
 kx 4 (.mv cF)]
 .ret)
 .skip))))
 (.regN [0,1,12,13] [
 kU 25 13,kM 13 25]))))
def Oa:AC:=(sr [0,1] [
 kx 4 (.mv cF)]
 (.seq (sr [0,1] [
 kM 6 0,kN 7 6,kM 8 1,kN 9 8,kx 10 (.bini .neq (ux 7) (ux 9))]
 (.cond (ux 10)
 (sr [] [
 kx 4 (.mv cF)]
 .ret)
 .skip))
 (.seq (sr [0,1] [
 kM 11 0,kN 12 11,kZ 13]
 (.block 0
 (.loop [0,1,12,13] EJ)))
 (sr [] [
 kx 4 (.mv cT)]
 .ret))))
def t62:AFn:=⟨2,Oa,
 [.tmp 4],true⟩
def Ob:AC:=(sr [0] [
 kx 1 (.boxH 1 (ux 0)),kx 2 (.mv cF)]
 (sr [1,2] [
 kL 9 1,kx 10 (.nilc (ux 9)),kF 11 6 10,kL 12 11,kN 13 12,kx 14 (.bini .sub (ux 13) c1),kM 3 14]
 (sr [1,2,3] [
 kL 15 1,kx 16 (.nilc (ux 15)),kF 17 6 16,kL 18 17,kM 19 3,kI 20 1 18 19,kL 21 20,kM 4 21]
 (sd [1,2,3,4] 0 [
 kL 22 1,kL 23 1,kx 24 (.nilc (ux 23)),kF 25 6 24,kL 26 25,kM 27 3,kx 28 (.slC 1 (ux 26) none (some (ux 27))),kx 29 (.nilc (ux 22)),kF 30 6 29,kn (.st none 1 (ux 30) (ux 28))]
 (sr [1,2,4] [
 kL 31 1,kx 32 (.nilc (ux 31)),kF 33 8 32,kL 34 33,kU 35 34,kx 36 (.nilc (ux 31)),kF 37 8 36,kn (.st none 1 (ux 37) (ux 35))]
 (.seq (sr [1,2,4] [
 kM 38 4,kL 39 1,kx 40 (.nilc (ux 39)),kF 41 0 40,kF 42 0 41,kL 43 42,kT 44 38 43]
 (.cond (ux 44)
 (.seq (sr [1,4] [
 kL 45 1,kx 46 (.nilc (ux 45)),kF 47 5 46,kL 48 47,kx 49 (.bins .eql (ux 48) (.con (.val (.string ⟨#[]⟩)))),kM 50 49,zL 51 50 1,kz 52 50 (.nilc (ux 51)),zF 53 50 5 52,zL 54 50 53,kz 55 50 (.ixS (ux 54) c0),kz 56 50 (.cvi .i64 (ux 55)),zM 57 50 4,kz 58 50 (.bini .neq (ux 56) (ux 57)),kO 59 50 58]
 (.cond (ux 59)
 (sr [] [
 kx 2 (.mv cF)]
 .ret)
 .skip))
 (sd [1] 0 [
 kL 60 1,kL 61 1,kx 62 (.nilc (ux 61)),kF 63 5 62,kL 64 63,kx 65 (.slS (ux 64) (some c1) none),kx 66 (.nilc (ux 60)),kF 67 5 66,kn (.st none 1 (ux 67) (ux 65))]
 (sr [] [
 kx 2 (.mv cT)]
 .ret)))
 .skip))
 (sd [1,2,4] 0 [
 kL 68 1,kx 69 (.nilc (ux 68)),kF 70 5 69,kL 71 70,kx 72 (.buildS 1 [(.val (.int .u8 0))] [(0,1,(.con (.val (.int .u8 255))))]),kx 73 (.b2s (ux 72)),kx 74 (.bins .add (ux 71) (ux 73)),kM 5 74]
 (sd [1,2,4,5] 0 [
 kL 75 1,kx 76 (.nilc (ux 75)),kF 77 0 76,kx 78 (.ldA none 4 (ux 77)),kL 79 1,kx 80 (.nilc (ux 79)),kF 81 4 80,kx 82 (.ldA none 1 (ux 81)),kM 83 4,kL 84 1,kx 85 (.nilc (ux 84)),kF 86 0 85,kF 87 0 86,kL 88 87,kx 89 (.bini .sub (ux 83) (ux 88)),kM 90 5,kL 91 1,kx 92 (.nilc (ux 91)),kF 93 0 92,kF 94 2 93,kL 95 94,kM 96 5,kx 97 (.len true (ux 96)),kx 98 (.mm false [(ux 95),(ux 97)]),kx 99 (.slS (ux 90) none (some (ux 98))),kf 100 (.call 63 [(ux 78),(ux 82),(ux 89),(ux 99)]),kM 6 100]
 (.seq (sr [1,2,6] [
 kM 101 6,kx 102 (.bini .lss (ux 101) c0)]
 (.cond (ux 102)
 (sr [] [
 kx 2 (.mv cF)]
 .ret)
 .skip))
 (sd [1,2,6] 0 [
 kL 103 1,kL 104 1,kx 105 (.nilc (ux 104)),kF 106 7 105,kL 107 106,kM 108 6,kx 109 (.buildS 1 [(.val (.int .i64 0))] [(0,1,(ux 108))]),kf 110 (.app 1 8 (ux 107) (ux 109)),kx 111 (.nilc (ux 103)),kF 112 7 111,kn (.st none 1 (ux 112) (ux 110))]
 (.seq (sr [1,2,6] [
 kL 113 1,kx 114 (.nilc (ux 113)),kF 115 0 114,kF 116 3 115,kL 117 116,kM 118 6,kI 119 2 117 118,kF 120 1 119,kL 121 120,kC 122 64 121]
 (.block 0
 (.rangeF [1,2,122] az (ux 122) [123,124]
 (.regN [1,124] [
 kM 8 124])
 (.block 1
 (.regD [1,8] 0 [
 kL 125 1,kL 126 1,kx 127 (.nilc (ux 126)),kF 128 6 127,kL 129 128,kM 130 8,kx 131 (.buildS 1 [(.val (.int .i64 0))] [(0,1,(ux 130))]),kf 132 (.app 1 8 (ux 129) (ux 131)),kx 133 (.nilc (ux 125)),kF 134 6 133,kn (.st none 1 (ux 134) (ux 132))])))))
 (sr [] [
 kx 2 (.mv cT)]
 .ret))))))))))))
def t45:AFn:=⟨1,Ob,
 [.tmp 2],false⟩
def EK:AC:=(sr [3,5,20,21,22] [
 kT 23 22 21]
 (.seq (.cond (ux 23)
 .skip
 (.exit 0))
 (.seq (.block 1
 (sr [3,5,20,21,22] [
 kI 24 1 20 22,kL 25 24,kM 10 25]
 (sr [3,5,10,20,21,22] [
 kF 26 0 5,kS 27 5 26,kM 28 10,kI 29 1 27 28,kL 30 29,kM 31 3,kx 32 (.call 89 [(ux 30),(ux 31)])]
 (.cond (ux 32)
 (sr [10] [
 kM 33 10,kM 8 33]
 .ret)
 .skip))))
 (.regN [3,5,20,21,22] [
 kU 34 22,kM 22 34]))))
def Oc:AC:=(sr [0,1,2,3] [
 kB 4 4 0,kB 5 1 1,kZ 8]
 (.seq (sr [2,3,4,5] [
 kF 11 0 5,kS 12 5 11,kN 13 12,kF 14 3 4,kS 15 4 14,kN 16 15,kx 17 (.bini .neq (ux 13) (ux 16))]
 (.cond (ux 17)
 (sr [] [
 kx 8 (.mv (.con (.val (.int .i64 (-1)))))]
 .ret)
 .skip))
 (.seq (sr [2,3,4,5] [
 kP 18 4 4 4,kM 19 2,kx 20 (.call 53 [(ux 18),(ux 19)]),kN 21 20,kZ 22]
 (.block 0
 (.loop [3,5,20,21,22] EK)))
 (sr [] [
 kx 8 (.mv (.con (.val (.int .i64 (-1)))))]
 .ret))))
def t63:AFn:=⟨4,Oc,
 [.tmp 8],true⟩
def Od:AC:=(sr [0,1] [
 kx 4 (.mv cF)]
 (sr [0,1] [
 kM 5 0,kM 6 1,kx 7 (.call 108 [(ux 5),(ux 6)]),kM 4 7]
 .ret))
def t89:AFn:=⟨2,Od,
 [.tmp 4],true⟩
def Ke:AC:=(sr [0,1] [
 kx 4 (.mv cF)]
 (sr [0,1] [
 kM 5 0,kM 6 1,kx 7 (.call 115 [(ux 5),(ux 6)]),kx 8 (.bini .geq (ux 7) c0),kM 4 8]
 .ret))
def LW:AFn:=⟨2,Ke,
 [.tmp 4],true⟩
def yw:AC:=(sr [0,1,7,8] [
 kT 9 8 7]
 (.seq (.cond (ux 9)
 .skip
 (.exit 0))
 (.seq (.block 1
 (sr [0,1,7,8] [
 kM 10 8,kM 5 10]
 (sr [0,1,5,7,8] [
 kM 11 1,kM 12 0,kM 13 5,kI 14 1 12 13,kL 15 14,kx 16 (.bins .eql (ux 11) (ux 15))]
 (.cond (ux 16)
 (sr [5] [
 kM 17 5,kM 4 17]
 .ret)
 .skip))))
 (.regN [0,1,7,8] [
 kU 18 8,kM 8 18]))))
def EL:AC:=(sr [0,1] [
 kZ 4]
 (.seq (sr [0,1] [
 kM 6 0,kN 7 6,kZ 8]
 (.block 0
 (.loop [0,1,7,8] yw)))
 (sr [] [
 kx 4 (.mv (.con (.val (.int .i64 (-1)))))]
 .ret)))
def LX:AFn:=⟨2,EL,
 [.tmp 4],true⟩
def Oe:AC:=(sr [0,1,2] [
 kB 3 4 0,kB 4 1 1,kZ 6,kx 7 (.mv cF)]
 (sr [2,3,4] [
 kP 9 3 4 3,kP 10 4 1 4,kM 11 2,kx 12 (.call 29 [(ux 9),(ux 10),(ux 11)]),kM 8 12]
 (.seq (sr [8] [
 kM 13 8,kx 14 (.eqp false (ux 13) (.con (.val (.pointer none))))]
 (.cond (ux 14)
 (sr [] [
 kZ 6,kx 7 (.mv cF)]
 .ret)
 .skip))
 (sr [8] [
 kM 15 8,kx 16 (.nilc (ux 15)),kF 17 8 16,kL 18 17,kM 6 18,kx 7 (.mv cT)]
 .ret))))
def t19:AFn:=⟨3,Oe,
 [.tmp 6,.tmp 7],true⟩
def sx:AC:=(.seq (sr [0,1,5] [
 kM 11 5,kM 12 0,kN 13 12,kT 14 11 13]
 (.cond (ux 14)
 .skip
 (.exit 0)))
 (.seq (.block 1
 (sd [0,1,5] 0 [
 kM 17 0,kM 18 5,kI 19 1 17 18,kL 20 19,kM 21 1,kM 22 5,kI 23 1 21 22,kL 24 23,kx 25 (.bini .neq (ux 20) (ux 24))]
 (.cond (ux 25)
 (sr [] [
 kx 4 (.mv cF)]
 .ret)
 .skip)))
 (.regN [0,1,5] [
 kM 15 5,kU 16 15,kM 5 16])))
def IG:AC:=(sr [0,1] [
 kx 4 (.mv cF)]
 (.seq (sr [0,1] [
 kM 6 0,kN 7 6,kM 8 1,kN 9 8,kx 10 (.bini .neq (ux 7) (ux 9))]
 (.cond (ux 10)
 (sr [] [
 kx 4 (.mv cF)]
 .ret)
 .skip))
 (.seq (sr [0,1] [
 kZ 5]
 (.block 0
 (.loop [0,1,5] sx)))
 (sr [] [
 kx 4 (.mv cT)]
 .ret))))
def t13:AFn:=⟨2,IG,
 [.tmp 4],true⟩
def Kf:AC:=(.seq (sr [1,3] [
 kM 8 3,kF 9 3 1,kS 10 1 9,kN 11 10,kT 12 8 11]
 (.cond (ux 12)
 .skip
 (.exit 0)))
 (.seq (.block 1
 (sr [1,3] [
 kF 15 3 1,kS 16 1 15,kM 17 3,kI 18 2 16 17,kF 19 1 18,kL 20 19,kN 21 20,kx 22 (.bini .gtr (ux 21) (.con (.val (.int .i64 5)))),kM 23 22,yF 24 23 3 1,yS 25 23 1 24,yM 26 23 3,yI 27 23 2 25 26,yF 28 23 1 27,yL 29 23 28,yN 30 23 29,ky 31 23 (.bini .leq (ux 30) (.con (.val (.int .i64 8)))),kx 32 (.pick (ux 23) (ux 31) cF),kM 33 32,zF 34 33 3 1,zS 35 33 1 34,zM 36 33 3,zI 37 33 2 35 36,zF 38 33 1 37,zL 39 33 38,zN 40 33 39,kz 41 33 (.bini .gtr (ux 40) (.con (.val (.int .i64 100)))),kO 42 33 41]
 (.cond (ux 42)
 (sr [] [
 kx 2 (.mv cF)]
 .ret)
 .skip)))
 (.regN [1,3] [
 kM 13 3,kU 14 13,kM 3 14])))
def Og:AC:=(sr [0] [
 kB 1 4 0,kx 2 (.mv cF)]
 (.seq (sr [1] [
 kF 4 3 1,kS 5 1 4,kN 6 5,kx 7 (.bini .gtr (ux 6) (.con (.val (.int .i64 100))))]
 (.cond (ux 7)
 (sr [] [
 kx 2 (.mv cF)]
 .ret)
 .skip))
 (.seq (sr [1] [
 kZ 3]
 (.block 0
 (.loop [1,3] Kf)))
 (.seq (sr [1] [
 kF 43 0 1,kS 44 1 43,kx 45 (.bini .gtr (ux 44) (.con (.val (.int .i64 8)))),kM 46 45,zF 47 46 1 1,zS 48 46 1 47,kz 49 46 (.bini .gtr (ux 48) (.con (.val (.int .i64 16)))),kO 50 46 49,kM 51 50,zF 52 51 2 1,zS 53 51 1 52,kz 54 51 (.bini .gtr (ux 53) (.con (.val (.int .i64 3)))),kO 55 51 54,kM 56 55,zF 57 56 3 1,zS 58 56 1 57,zN 59 56 58,kz 60 56 (.bini .gtr (ux 59) (.con (.val (.int .i64 64)))),kO 61 56 60]
 (.cond (ux 61)
 (sr [] [
 kx 2 (.mv cT)]
 .ret)
 .skip))
 (sr [1] [
 kF 62 0 1,kS 63 1 62,kx 64 (.bini .leq (ux 63) (.con (.val (.int .i64 4)))),kM 65 64,yF 66 65 1 1,yS 67 65 1 66,ky 68 65 (.bini .leq (ux 67) (.con (.val (.int .i64 6)))),kx 69 (.pick (ux 65) (ux 68) cF),kM 70 69,yF 71 70 3 1,yS 72 70 1 71,yN 73 70 72,ky 74 70 (.bini .leq (ux 73) (.con (.val (.int .i64 14)))),kx 75 (.pick (ux 70) (ux 74) cF),kM 76 75,yF 77 76 2 1,yS 78 76 1 77,ky 79 76 (.bini .leq (ux 78) (.con (.val (.int .i64 2)))),yM 80 76 79,zF 81 80 0 1,zS 82 80 1 81,kz 83 80 (.bini .leq (ux 82) (.con (.val (.int .i64 3)))),ky 84 76 (.pick (ux 80) cT (ux 83)),kx 85 (.pick (ux 76) (ux 84) cF),kM 2 85]
 .ret)))))
def t17:AFn:=⟨1,Og,
 [.tmp 2],true⟩
def Rn:AC:=(sr [0,1,2] [
 kB 3 4 0,kB 4 1 1,kx 6 (.mv (.con .e0)),kx 7 (.mv cF)]
 (sr [2,3,4] [
 kP 12 3 4 3,kP 13 4 1 4,kM 14 2,kx 15 (.call 37 [(ux 12),(ux 13),(ux 14)]),kM 11 15,kE 16 11 0,kE 17 11 1,kE 18 11 2,kM 8 16,kM 9 17,kM 10 18]
 (.seq (sr [8,10] [
 kM 19 10,kx 20 (.not (ux 19))]
 (.cond (ux 20)
 (sr [] [
 kx 6 (.mv (.con .e0)),kx 7 (.mv cF)]
 .ret)
 .skip))
 (sr [8] [
 kM 21 8,kM 6 21,kx 7 (.mv cT)]
 .ret))))
def t18:AFn:=⟨3,Rn,
 [.tmp 6,.tmp 7],true⟩
def QN:AC:=(.seq (sr [2,3,4,12,13,14,16,17] [
 kM 101 17,kx 102 (.bini .geq (ux 101) c0)]
 (.cond (ux 102)
 .skip
 (.exit 2)))
 (.seq (.block 3
 (.regN [2,3,4,12,13,14,16,17] [
 kM 105 12,kF 106 3 3,kS 107 3 106,kM 108 16,kI 109 2 107 108,kF 110 1 109,kL 111 110,kM 112 17,kI 113 1 111 112,kL 114 113,kx 115 (.buildS 1 [(.val (.int .i64 0))] [(0,1,(ux 114))]),kx 116 (.app 1 8 (ux 105) (ux 115)),kM 12 116]))
 (.regN [2,3,4,12,13,14,16,17] [
 kM 103 17,kx 104 (.bini .sub (ux 103) c1),kM 17 104])))
def QF:AC:=(.seq (sr [2,3,4,12,13,14] [
 kM 45 12,kN 46 45,kx 47 (.bini .gtr (ux 46) c0)]
 (.cond (ux 47)
 .skip
 (.exit 0)))
 (.block 1
 (sr [2,3,4,12,13,14] [
 kM 48 12,kM 49 12,kN 50 49,kx 51 (.bini .sub (ux 50) c1),kI 52 1 48 51,kL 53 52,kM 15 53]
 (sr [2,3,4,12,13,14,15] [
 kM 54 12,kM 55 12,kN 56 55,kx 57 (.bini .sub (ux 56) c1),kx 58 (.slC 1 (ux 54) none (some (ux 57))),kM 12 58]
 (sr [2,3,4,12,13,14,15] [
 kM 59 14,kU 60 59,kM 14 60]
 (.seq (sr [2,3,4,12,13,14,15] [
 kM 61 15,kF 62 0 3,kS 63 3 62,kT 64 61 63]
 (.cond (ux 64)
 (.seq (sr [2,3,4,12,13,14,15] [
 kM 65 2,kx 66 (.bins .eql (ux 65) (.con (.val (.string ⟨#[]⟩)))),kM 67 66,zM 68 67 2,kz 69 67 (.ixS (ux 68) c0),kz 70 67 (.cvi .i64 (ux 69)),zM 71 67 15,kz 72 67 (.bini .neq (ux 70) (ux 71)),kO 73 67 72]
 (.cond (ux 73)
 (sr [] [
 kx 6 (.mv (.con .e0)),kZ 7,kx 8 (.mv cF)]
 .ret)
 .skip))
 (sr [2,3,4,12,13,14] [
 kM 74 2,kx 75 (.slS (ux 74) (some c1) none),kM 2 75]
 (.exit 1)))
 .skip))
 (sd [2,3,4,12,13,14,15] 0 [
 kP 76 3 4 3,kP 77 4 1 4,kM 78 15,kF 79 0 3,kS 80 3 79,kx 81 (.bini .sub (ux 78) (ux 80)),kM 82 2,kF 83 2 3,kS 84 3 83,kf 85 (.call 56 [(ux 82),(ux 84)]),kf 86 (.call 55 [(ux 76),(ux 77),(ux 81),(ux 85)]),kM 16 86]
 (.seq (sr [2,3,4,12,13,14,16] [
 kM 87 16,kx 88 (.bini .lss (ux 87) c0)]
 (.cond (ux 88)
 (sr [] [
 kx 6 (.mv (.con .e0)),kZ 7,kx 8 (.mv cF)]
 .ret)
 .skip))
 (sr [2,3,4,12,13,14,16] [
 kM 89 13,kM 90 16,kx 91 (.buildS 1 [(.val (.int .i64 0))] [(0,1,(ux 90))]),kx 92 (.app 1 8 (ux 89) (ux 91)),kM 13 92]
 (sr [2,3,4,12,13,14,16] [
 kF 93 3 3,kS 94 3 93,kM 95 16,kI 96 2 94 95,kF 97 1 96,kL 98 97,kN 99 98,kx 100 (.bini .sub (ux 99) c1),kM 17 100]
 (.block 2
 (.loop [2,3,4,12,13,14,16,17] QN))))))))))))
def Rk:AC:=(sr [0,1,2] [
 kB 3 4 0,kB 4 1 1,kx 6 (.mv (.con .e0)),kZ 7,kx 8 (.mv cF)]
 (sr [2,3,4] [
 kP 19 3 4 3,kC 20 30 19,kM 18 20,kE 21 18 0,kE 22 18 1,kE 23 18 2,kx 9 (.allocR [.e0]),kx 10 (.allocR [(.val (.int .i64 0)),(.val (.int .i64 0)),(.val (.int .i64 0)),(.val (.string ⟨#[]⟩))]),kn (.st (some 9) 1 (ux 9) (ux 21)),kn (.st (some 10) 4 (ux 10) (ux 22)),kM 11 23]
 (.seq (sr [2,3,4,9,11] [
 kM 24 11,kx 25 (.bini .neq (ux 24) c0),kM 26 25,kz 27 26 (.ldA (some 3) 4 (ux 3)),kz 28 26 (.call 24 [.tmp 27]),kz 29 26 (.bini .neq (ux 28) c0),kO 30 26 29,kM 31 30,kz 32 31 (.ldA (some 3) 4 (ux 3)),kz 33 31 (.call 23 [.tmp 32]),kz 34 31 (.bini .gtr (ux 33) (.con (.val (.int .i64 65536)))),kO 35 31 34,kM 36 35,kz 37 36 (.ldA (some 9) 1 (ux 9)),kz 38 36 (.ldA (some 4) 1 (ux 4)),kz 39 36 (.call 54 [(ux 37),(ux 38)]),kz 40 36 (.not (ux 39)),kO 41 36 40]
 (.cond (ux 41)
 (sr [] [
 kx 6 (.mv (.con .e0)),kZ 7,kx 8 (.mv cF)]
 .ret)
 .skip))
 (sr [2,3,4] [
 kF 42 0 3,kS 43 3 42,kx 44 (.buildH 1 1 [(.val (.int .i64 0))] [(0,1,(ux 43))]),kM 12 44]
 (sr [2,3,4,12] [
 kx 13 (.mv (.con .e0))]
 (sr [2,3,4,12,13] [
 kZ 14]
 (.seq (.block 0
 (.loop [2,3,4,12,13,14] QF))
 (sr [2,13,14] [
 kM 117 13,kM 118 14,kM 119 2,kx 120 (.bins .eql (ux 119) (.con (.val (.string ⟨#[]⟩)))),kM 6 117,kM 7 118,kM 8 120]
 .ret))))))))
def t37:AFn:=⟨3,Rk,
 [.tmp 6,.tmp 7,.tmp 8],true⟩
def Oh:AC:=(sr [0] [
 kB 1 4 0,kZ 2]
 (sr [1] [
 kP 8 1 4 1,kC 9 39 8,kM 3 9]
 (.seq (sr [1,3] [
 kM 10 3,kx 11 (.bini .neq (ux 10) c0)]
 (.cond (ux 11)
 (sr [3] [
 kM 12 3,kM 2 12]
 .ret)
 .skip))
 (sr [1] [
 kP 14 1 4 1,kC 15 40 14,kM 13 15,kE 16 13 0,kE 17 13 1,kM 4 16,kM 5 17]
 (.seq (sr [1,5] [
 kM 18 5,kx 19 (.not (ux 18))]
 (.cond (ux 19)
 (sr [] [
 kx 2 (.mv (.con (.val (.int .i64 5))))]
 .ret)
 .skip))
 (sr [1] [
 kP 21 1 4 1,kC 22 41 21,kM 20 22,kE 23 20 0,kE 24 20 1,kM 6 23,kM 7 24]
 (.seq (sr [1,7] [
 kM 25 7]
 (.cond (ux 25)
 (sr [] [
 kx 2 (.mv (.con (.val (.int .i64 4))))]
 .ret)
 .skip))
 (sr [1] [
 kP 27 1 4 1,kC 28 30 27,kM 26 28,kE 29 26 0,kE 30 26 1,kE 31 26 2,kM 3 31]
 (sr [3] [
 kM 32 3,kM 2 32]
 .ret)))))))))
def t24:AFn:=⟨1,Oh,
 [.tmp 2],true⟩
def Kg:AC:=(.seq (sr [1,4,5,6] [
 kM 14 6,kF 15 1 1,kS 16 1 15,kT 17 14 16]
 (.cond (ux 17)
 .skip
 (.exit 0)))
 (.seq (.block 1
 (sr [1,4,5,6] [
 kM 20 4,kM 21 6,kI 22 1 20 21,kL 23 22,kx 24 (.not (ux 23)),kM 25 24,zM 26 25 5,zM 27 25 6,zI 28 25 1 26 27,zL 29 25 28,kz 30 25 (.not (ux 29)),kO 31 25 30]
 (.cond (ux 31)
 (sr [6] [
 kM 32 6,kM 2 32,kx 3 (.mv cF)]
 .ret)
 .skip)))
 (.regN [1,4,5,6] [
 kM 18 6,kU 19 18,kM 6 19])))
def Oi:AC:=(sr [0] [
 kB 1 4 0,kZ 2,kx 3 (.mv cF)]
 (.seq (sr [1] [
 kP 7 1 4 1,kC 8 39 7,kx 9 (.bini .neq (ux 8) c0)]
 (.cond (ux 9)
 (sr [] [
 kZ 2,kx 3 (.mv cF)]
 .ret)
 .skip))
 (sd [1] 0 [
 kP 10 1 4 1,kf 11 (.call 57 [.tmp 10]),kP 12 1 4 1,kf 13 (.call 58 [.tmp 12]),kM 4 11,kM 5 13]
 (.seq (sr [1,4,5] [
 kZ 6]
 (.block 0
 (.loop [1,4,5,6] Kg)))
 (sr [] [
 kZ 2,kx 3 (.mv cT)]
 .ret)))))
def t40:AFn:=⟨1,Oi,
 [.tmp 2,.tmp 3],true⟩
def Oj:AC:=(sr [0] [
 kB 1 4 0,kx 2 (.mv (.con .e0))]
 (sr [1] [
 kP 3 1 4 1,kx 4 (.call 42 [(ux 3),cT]),kM 2 4]
 .ret))
def t57:AFn:=⟨1,Oj,
 [.tmp 2],true⟩
def Kh:AC:=(.seq (sr [1,2,5,6,7,8,9,10] [
 kM 37 10,kF 38 1 8,kS 39 8 38,kN 40 39,kT 41 37 40,kM 42 41,yM 43 42 9,kx 44 (.pick (ux 42) (ux 43) cF)]
 (.cond (ux 44)
 .skip
 (.exit 4)))
 (.seq (.block 5
 (sr [1,2,5,6,7,8,10] [
 kF 47 1 8,kS 48 8 47,kM 49 10,kI 50 1 48 49,kL 51 50,kM 11 51]
 (.regN [1,2,5,6,7,8,10,11] [
 kM 52 11,kF 53 0 2,kS 54 2 53,kT 55 52 54,kM 56 55,yM 57 56 1,kx 58 (.pick (ux 56) (ux 57) cF),kM 59 58,zM 60 59 11,zF 61 59 0 2,zS 62 59 2 61,kz 63 59 (.bini .geq (ux 60) (ux 62)),zM 64 59 63,yM 65 64 5,yM 66 64 11,yF 67 64 0 2,yS 68 64 2 67,ky 69 64 (.bini .sub (ux 66) (ux 68)),yI 70 64 1 65 69,yL 71 64 70,kz 72 59 (.pick (ux 64) (ux 71) cF),kO 73 59 72,kM 9 73])))
 (.regN [1,2,5,6,7,8,9,10] [
 kM 45 10,kU 46 45,kM 10 46])))
def Ki:AC:=(.seq (sr [1,2,5,6,7] [
 kM 19 7,kF 20 3 2,kS 21 2 20,kN 22 21,kT 23 19 22]
 (.cond (ux 23)
 .skip
 (.exit 2)))
 (.seq (.block 3
 (sr [1,2,5,6,7] [
 kF 26 3 2,kS 27 2 26,kM 28 7,kI 29 2 27 28,kx 30 (.ldA none 2 (ux 29)),kx 8 (.allocR [(.val (.int .i64 0)),.e0]),kn (.st (some 8) 2 (ux 8) (ux 30))]
 (sr [1,2,5,6,7,8] [
 kM 31 5,kF 32 0 8,kS 33 8 32,kI 34 1 31 33,kL 35 34,kx 36 (.not (ux 35)),kM 9 36]
 (.seq (sr [1,2,5,6,7,8,9] [
 kZ 10]
 (.block 4
 (.loop [1,2,5,6,7,8,9,10] Kh)))
 (sr [1,2,5,6,7,8,9] [
 kM 74 9]
 (.cond (ux 74)
 (.regN [1,2,5,7,8] [
 kM 75 5,kF 76 0 8,kS 77 8 76,kI 78 1 75 77,kn (.st none 1 (ux 78) cT),kx 6 (.mv cT)])
 .skip))))))
 (.regN [1,2,5,6,7] [
 kM 24 7,kU 25 24,kM 7 25])))
def Kj:AC:=(.seq (sr [1,2,5,6] [
 kM 18 6]
 (.cond (ux 18)
 .skip
 (.exit 0)))
 (.block 1
 (sr [1,2,5] [
 kx 6 (.mv cF)]
 (sr [1,2,5,6] [
 kZ 7]
 (.block 2
 (.loop [1,2,5,6,7] Ki))))))
def Ol:AC:=(sr [0,1] [
 kB 2 4 0,kx 4 (.mv (.con .e0))]
 (.seq (sr [1,2] [
 kP 12 2 4 2,kC 13 39 12,kx 14 (.bini .neq (ux 13) c0)]
 (.cond (ux 14)
 (sr [] [
 kx 4 (.mv (.con .e0))]
 .ret)
 .skip))
 (sr [1,2] [
 kF 15 1 2,kS 16 2 15,kx 17 (.mks 1 1 [(.val (.bool false))] (ux 16)),kM 5 17]
 (.seq (sr [1,2,5] [
 kx 6 (.mv cT)]
 (.block 0
 (.loop [1,2,5,6] Kj)))
 (sr [5] [
 kM 79 5,kM 4 79]
 .ret)))))
def t42:AFn:=⟨2,Ol,
 [.tmp 4],true⟩
def Kk:AC:=(.seq (sr [1,3,4,5,6,7] [
 kM 30 7,kF 31 1 6,kS 32 6 31,kN 33 32,kT 34 30 33,kM 35 34,yM 36 35 3,yF 37 35 0 6,yS 38 35 6 37,yI 39 35 1 36 38,yL 40 35 39,kx 41 (.pick (ux 35) (ux 40) cF)]
 (.cond (ux 41)
 .skip
 (.exit 4)))
 (.seq (.block 5
 (sd [1,3,4,5,6,7] 0 [
 kF 44 1 6,kS 45 6 44,kM 46 7,kI 47 1 45 46,kL 48 47,kF 49 0 1,kS 50 1 49,kx 51 (.bini .sub (ux 48) (ux 50)),kM 8 51]
 (sr [1,3,4,5,6,7,8] [
 kM 52 8,kx 53 (.bini .geq (ux 52) c0),kM 54 53,yM 55 54 3,yM 56 54 8,yI 57 54 1 55 56,yL 58 54 57,ky 59 54 (.not (ux 58)),kx 60 (.pick (ux 54) (ux 59) cF)]
 (.cond (ux 60)
 (.regN [1,3,5,6,7,8] [
 kM 61 3,kM 62 8,kI 63 1 61 62,kn (.st none 1 (ux 63) cT),kx 4 (.mv cT)])
 .skip))))
 (.regN [1,3,4,5,6,7] [
 kM 42 7,kU 43 42,kM 7 43])))
def Kl:AC:=(.seq (sr [1,3,4,5] [
 kM 18 5,kF 19 3 1,kS 20 1 19,kN 21 20,kT 22 18 21]
 (.cond (ux 22)
 .skip
 (.exit 2)))
 (.seq (.block 3
 (sr [1,3,4,5] [
 kF 25 3 1,kS 26 1 25,kM 27 5,kI 28 2 26 27,kx 29 (.ldA none 2 (ux 28)),kx 6 (.allocR [(.val (.int .i64 0)),.e0]),kn (.st (some 6) 2 (ux 6) (ux 29))]
 (sr [1,3,4,5,6] [
 kZ 7]
 (.block 4
 (.loop [1,3,4,5,6,7] Kk)))))
 (.regN [1,3,4,5] [
 kM 23 5,kU 24 23,kM 5 24])))
def Km:AC:=(.seq (sr [1,3,4] [
 kM 17 4]
 (.cond (ux 17)
 .skip
 (.exit 0)))
 (.block 1
 (sr [1,3] [
 kx 4 (.mv cF)]
 (sr [1,3,4] [
 kZ 5]
 (.block 2
 (.loop [1,3,4,5] Kl))))))
def Om:AC:=(sr [0] [
 kB 1 4 0,kx 2 (.mv (.con .e0))]
 (.seq (sr [1] [
 kP 9 1 4 1,kC 10 39 9,kx 11 (.bini .neq (ux 10) c0)]
 (.cond (ux 11)
 (sr [] [
 kx 2 (.mv (.con .e0))]
 .ret)
 .skip))
 (sr [1] [
 kF 12 1 1,kS 13 1 12,kx 14 (.mks 1 1 [(.val (.bool false))] (ux 13)),kM 3 14]
 (sr [1,3] [
 kM 15 3,kx 16 (.ixA 1 (ux 15) c0),kn (.st none 1 (ux 16) cT)]
 (.seq (sr [1,3] [
 kx 4 (.mv cT)]
 (.block 0
 (.loop [1,3,4] Km)))
 (sr [3] [
 kM 64 3,kM 2 64]
 .ret))))))
def t58:AFn:=⟨1,Om,
 [.tmp 2],true⟩
def EM:AC:=(.seq (sr [1,4,5,6] [
 kM 23 6,kF 24 1 1,kS 25 1 24,kT 26 23 25]
 (.cond (ux 26)
 .skip
 (.exit 0)))
 (.seq (.block 1
 (.regN [1,4,5,6] [
 kM 29 5,kM 30 6,kF 31 1 1,kS 32 1 31,kx 33 (.mks 1 1 [(.val (.bool false))] (ux 32)),kI 34 1 29 30,kn (.st none 1 (ux 34) (ux 33))]))
 (.regN [1,4,5,6] [
 kM 27 6,kU 28 27,kM 6 28])))
def EN:AC:=(.seq (sd [1,4,5,7,8,9] 0 [
 kM 47 9,kF 48 1 8,kS 49 8 48,kN 50 49,kT 51 47 50,kM 52 51,yF 53 52 1 8,yS 54 52 8 53,yM 55 52 9,yI 56 52 1 54 55,yL 57 52 56,yF 58 52 0 1,yS 59 52 1 58,ky 60 52 (.bini .geq (ux 57) (ux 59)),kx 61 (.pick (ux 52) (ux 60) cF)]
 (.cond (ux 61)
 .skip
 (.exit 4)))
 (.seq (.block 5
 (sd [1,4,5,7,8,9] 0 [
 kF 64 1 8,kS 65 8 64,kM 66 9,kI 67 1 65 66,kL 68 67,kF 69 0 1,kS 70 1 69,kx 71 (.bini .sub (ux 68) (ux 70)),kM 10 71]
 (sr [1,4,5,7,8,9,10] [
 kM 72 5,kF 73 0 8,kS 74 8 73,kI 75 1 72 74,kL 76 75,kM 77 10,kI 78 1 76 77,kn (.st none 1 (ux 78) cT)]
 (sr [1,4,5,7,8,9,10] [
 kM 79 4,kM 80 10,kI 81 1 79 80,kL 82 81,kx 83 (.not (ux 82))]
 (.cond (ux 83)
 (.exit 4)
 .skip)))))
 (.regN [1,4,5,7,8,9] [
 kM 62 9,kU 63 62,kM 9 63])))
def EO:AC:=(.seq (sr [1,4,5,7] [
 kM 35 7,kF 36 3 1,kS 37 1 36,kN 38 37,kT 39 35 38]
 (.cond (ux 39)
 .skip
 (.exit 2)))
 (.seq (.block 3
 (sr [1,4,5,7] [
 kF 42 3 1,kS 43 1 42,kM 44 7,kI 45 2 43 44,kx 46 (.ldA none 2 (ux 45)),kx 8 (.allocR [(.val (.int .i64 0)),.e0]),kn (.st (some 8) 2 (ux 8) (ux 46))]
 (sr [1,4,5,7,8] [
 kZ 9]
 (.block 4
 (.loop [1,4,5,7,8,9] EN)))))
 (.regN [1,4,5,7] [
 kM 40 7,kU 41 40,kM 7 41])))
def sA:AC:=(.seq (sr [1,5,11,12,13] [
 kM 96 13,kF 97 1 1,kS 98 1 97,kT 99 96 98]
 (.cond (ux 99)
 .skip
 (.exit 10)))
 (.seq (.block 11
 (.regD [1,5,11,12,13] 0 [
 kM 102 5,kM 103 12,kI 104 1 102 103,kL 105 104,kM 106 13,kM 107 5,kM 108 12,kI 109 1 107 108,kL 110 109,kM 111 13,kI 112 1 110 111,kL 113 112,kM 114 113,zM 115 114 5,zM 116 114 12,zI 117 114 1 115 116,zL 118 114 117,zM 119 114 11,zI 120 114 1 118 119,zL 121 114 120,zM 122 114 121,yM 123 122 5,yM 124 122 11,yI 125 122 1 123 124,yL 126 122 125,yM 127 122 13,yI 128 122 1 126 127,yL 129 122 128,kz 130 114 (.pick (ux 122) (ux 129) cF),kO 131 114 130,kI 132 1 105 106,kn (.st none 1 (ux 132) (ux 131))]))
 (.regN [1,5,11,12,13] [
 kM 100 13,kU 101 100,kM 13 101])))
def EP:AC:=(.seq (sr [1,5,11,12] [
 kM 90 12,kF 91 1 1,kS 92 1 91,kT 93 90 92]
 (.cond (ux 93)
 .skip
 (.exit 8)))
 (.seq (.block 9
 (sr [1,5,11,12] [
 kZ 13]
 (.block 10
 (.loop [1,5,11,12,13] sA))))
 (.regN [1,5,11,12] [
 kM 94 12,kU 95 94,kM 12 95])))
def ER:AC:=(.seq (sr [1,5,11] [
 kM 84 11,kF 85 1 1,kS 86 1 85,kT 87 84 86]
 (.cond (ux 87)
 .skip
 (.exit 6)))
 (.seq (.block 7
 (sr [1,5,11] [
 kZ 12]
 (.block 8
 (.loop [1,5,11,12] EP))))
 (.regN [1,5,11] [
 kM 88 11,kU 89 88,kM 11 89])))
def Kn:AC:=(.seq (sr [1,5,14] [
 kM 133 14,kF 134 1 1,kS 135 1 134,kT 136 133 135]
 (.cond (ux 136)
 .skip
 (.exit 12)))
 (.seq (.block 13
 (sr [1,5,14] [
 kM 139 5,kM 140 14,kI 141 1 139 140,kL 142 141,kM 143 14,kI 144 1 142 143,kL 145 144]
 (.cond (ux 145)
 (sr [14] [
 kM 146 14,kM 2 146,kx 3 (.mv cT)]
 .ret)
 .skip)))
 (.regN [1,5,14] [
 kM 137 14,kU 138 137,kM 14 138])))
def On:AC:=(sr [0] [
 kB 1 4 0,kZ 2,kx 3 (.mv cF)]
 (.seq (sr [1] [
 kP 15 1 4 1,kC 16 39 15,kx 17 (.bini .neq (ux 16) c0)]
 (.cond (ux 17)
 (sr [] [
 kZ 2,kx 3 (.mv cF)]
 .ret)
 .skip))
 (sr [1] [
 kP 18 1 4 1,kC 19 28 18,kM 4 19]
 (sr [1,4] [
 kF 20 1 1,kS 21 1 20,kx 22 (.mks 1 24 [.e0] (ux 21)),kM 5 22]
 (.seq (sr [1,4,5] [
 kZ 6]
 (.block 0
 (.loop [1,4,5,6] EM)))
 (.seq (sr [1,4,5] [
 kZ 7]
 (.block 2
 (.loop [1,4,5,7] EO)))
 (.seq (sr [1,5] [
 kZ 11]
 (.block 6
 (.loop [1,5,11] ER)))
 (.seq (sr [1,5] [
 kZ 14]
 (.block 12
 (.loop [1,5,14] Kn)))
 (sr [] [
 kZ 2,kx 3 (.mv cF)]
 .ret)))))))))
def t41:AFn:=⟨1,On,
 [.tmp 2,.tmp 3],true⟩
def Oo:AC:=(sr [0] [
 kB 1 4 0,kx 2 (.mv (.con .e0))]
 (sr [1] [
 kP 3 1 4 1,kx 4 (.call 42 [(ux 3),cF]),kM 2 4]
 .ret))
def t28:AFn:=⟨1,Oo,
 [.tmp 2],true⟩
def QO:AC:=(.seq (sr [1,3,4,5,6,7,8] [
 kM 17 8,kM 18 4,kN 19 18,kT 20 17 19]
 (.cond (ux 20)
 .skip
 (.exit 0)))
 (.seq (.block 1
 (.regD [1,3,4,5,6,7,8] 0 [
 kM 23 5,kM 24 4,kM 25 8,kI 26 1 24 25,kL 27 26,kx 28 (.mm true [(ux 23),(ux 27)]),kM 29 6,kM 30 3,kM 31 8,kI 32 1 30 31,kL 33 32,kx 34 (.mm true [(ux 29),(ux 33)]),kM 5 28,kM 6 34]))
 (.regN [1,3,4,5,6,7,8] [
 kM 21 8,kU 22 21,kM 8 22])))
def QP:AC:=(.seq (sr [1,5,6,7,9] [
 kM 35 9,kF 36 3 1,kS 37 1 36,kN 38 37,kT 39 35 38]
 (.cond (ux 39)
 .skip
 (.exit 2)))
 (.seq (.block 3
 (.regN [1,5,6,7,9] [
 kM 42 7,kF 43 3 1,kS 44 1 43,kM 45 9,kI 46 2 44 45,kF 47 1 46,kL 48 47,kN 49 48,kx 50 (.mm true [(ux 42),(ux 49)]),kM 7 50]))
 (.regN [1,5,6,7,9] [
 kM 40 9,kU 41 40,kM 9 41])))
def Ro:AC:=(sr [0] [
 kB 1 4 0,kZ 2]
 (sd [1] 0 [
 kP 10 1 4 1,kf 11 (.call 21 [.tmp 10]),kP 12 1 4 1,kf 13 (.call 22 [.tmp 12]),kM 3 11,kM 4 13]
 (.seq (sr [1,3,4] [
 kM 14 4,kN 15 14,kx 16 (.bini .eql (ux 15) c0)]
 (.cond (ux 16)
 (sr [] [
 kZ 2]
 .ret)
 .skip))
 (sr [1,3,4] [
 kZ 5,kZ 6,kZ 7]
 (.seq (sr [1,3,4,5,6,7] [
 kZ 8]
 (.block 0
 (.loop [1,3,4,5,6,7,8] QO)))
 (.seq (sr [1,5,6,7] [
 kZ 9]
 (.block 2
 (.loop [1,5,6,7,9] QP)))
 (sr [5,6,7] [
 kM 51 5,kM 52 7,kM 53 6,kx 54 (.bini .mul (ux 52) (ux 53)),kx 55 (.bini .add c1 (ux 54)),kx 56 (.bini .mul (ux 51) (ux 55)),kU 57 56,kM 2 57]
 .ret)))))))
def t23:AFn:=⟨1,Ro,
 [.tmp 2],true⟩
def QQ:AC:=(.seq (sr [1,3,4] [
 kM 17 4,kF 18 1 1,kS 19 1 18,kT 20 17 19]
 (.cond (ux 20)
 .skip
 (.exit 0)))
 (.seq (.block 1
 (.regN [1,3,4] [
 kM 23 3,kM 24 4,kI 25 1 23 24,kn (.st none 1 (ux 25) (.con (.val (.int .i64 (-1)))))]))
 (.regN [1,3,4] [
 kM 21 4,kU 22 21,kM 4 22])))
def QR:AC:=(.seq (sr [1,3,5,6,7,8,9] [
 kM 39 9,kF 40 1 7,kS 41 7 40,kN 42 41,kT 43 39 42,kM 44 43,yM 45 44 8,ky 46 44 (.bini .gtr (ux 45) c0),kx 47 (.pick (ux 44) (ux 46) cF)]
 (.cond (ux 47)
 .skip
 (.exit 6)))
 (.seq (.block 7
 (sd [1,3,5,6,7,8,9] 0 [
 kF 50 1 7,kS 51 7 50,kM 52 9,kI 53 1 51 52,kL 54 53,kF 55 0 1,kS 56 1 55,kx 57 (.bini .sub (ux 54) (ux 56)),kM 10 57]
 (sr [1,3,5,6,7,8,9,10] [
 kM 58 10,kx 59 (.bini .lss (ux 58) c0),kM 60 59,zM 61 60 3,zM 62 60 10,zI 63 60 1 61 62,zL 64 60 63,kz 65 60 (.bini .lss (ux 64) c0),kO 66 60 65]
 (.cond (ux 66)
 (.regN [1,3,5,6,7,9] [
 kx 8 (.mv (.con (.val (.int .i64 (-1)))))])
 (.regN [1,3,5,6,7,8,9,10] [
 kM 67 8,kM 68 3,kM 69 10,kI 70 1 68 69,kL 71 70,kx 72 (.bini .add (ux 67) (ux 71)),kM 8 72])))))
 (.regN [1,3,5,6,7,8,9] [
 kM 48 9,kU 49 48,kM 9 49])))
def QS:AC:=(.seq (sr [1,3,5,6] [
 kM 27 6,kF 28 3 1,kS 29 1 28,kN 30 29,kT 31 27 30]
 (.cond (ux 31)
 .skip
 (.exit 4)))
 (.seq (.block 5
 (sr [1,3,5,6] [
 kF 34 3 1,kS 35 1 34,kM 36 6,kI 37 2 35 36,kx 38 (.ldA none 2 (ux 37)),kx 7 (.allocR [(.val (.int .i64 0)),.e0]),kn (.st (some 7) 2 (ux 7) (ux 38))]
 (sr [1,3,5,6,7] [
 kx 8 (.mv c1)]
 (.seq (sr [1,3,5,6,7,8] [
 kZ 9]
 (.block 6
 (.loop [1,3,5,6,7,8,9] QR)))
 (sr [1,3,5,6,7,8] [
 kM 73 8,kx 74 (.bini .gtr (ux 73) c0),kM 75 74,yM 76 75 3,yF 77 75 0 7,yS 78 75 7 77,yI 79 75 1 76 78,yL 80 75 79,ky 81 75 (.bini .lss (ux 80) c0),yM 82 75 81,zM 83 82 8,zM 84 82 3,zF 85 82 0 7,zS 86 82 7 85,zI 87 82 1 84 86,zL 88 82 87,kz 89 82 (.bini .lss (ux 83) (ux 88)),ky 90 75 (.pick (ux 82) cT (ux 89)),kx 91 (.pick (ux 75) (ux 90) cF)]
 (.cond (ux 91)
 (.regN [1,3,6,7,8] [
 kM 92 3,kF 93 0 7,kS 94 7 93,kM 95 8,kI 96 1 92 94,kn (.st none 1 (ux 96) (ux 95)),kx 5 (.mv cT)])
 .skip))))))
 (.regN [1,3,5,6] [
 kM 32 6,kU 33 32,kM 6 33])))
def QT:AC:=(.seq (sr [1,3,5] [
 kM 26 5]
 (.cond (ux 26)
 .skip
 (.exit 2)))
 (.block 3
 (sr [1,3] [
 kx 5 (.mv cF)]
 (sr [1,3,5] [
 kZ 6]
 (.block 4
 (.loop [1,3,5,6] QS))))))
def Rp:AC:=(sr [0] [
 kB 1 4 0,kx 2 (.mv (.con .e0))]
 (.seq (sr [1] [
 kP 11 1 4 1,kC 12 24 11,kx 13 (.bini .neq (ux 12) c0)]
 (.cond (ux 13)
 (sr [] [
 kx 2 (.mv (.con .e0))]
 .ret)
 .skip))
 (sr [1] [
 kF 14 1 1,kS 15 1 14,kx 16 (.mks 1 8 [(.val (.int .i64 0))] (ux 15)),kM 3 16]
 (.seq (sr [1,3] [
 kZ 4]
 (.block 0
 (.loop [1,3,4] QQ)))
 (.seq (sr [1,3] [
 kx 5 (.mv cT)]
 (.block 2
 (.loop [1,3,5] QT)))
 (sr [3] [
 kM 97 3,kM 2 97]
 .ret))))))
def t21:AFn:=⟨1,Rp,
 [.tmp 2],true⟩
def QU:AC:=(.seq (sr [1,3,4,5,6] [
 kM 17 6,kF 18 3 1,kS 19 1 18,kN 20 19,kT 21 17 20]
 (.cond (ux 21)
 .skip
 (.exit 2)))
 (.seq (.block 3
 (sd [1,3,4,5,6] 0 [
 kP 24 1 4 1,kM 25 3,kM 26 4,kF 27 3 1,kS 28 1 27,kM 29 6,kI 30 2 28 29,kF 31 1 30,kL 32 31,kf 33 (.call 38 [(ux 24),(ux 25),(ux 26),(ux 32)]),kx 34 (.bini .add c1 (ux 33)),kM 7 34]
 (sr [1,3,4,5,6,7] [
 kM 35 7,kM 36 4,kF 37 3 1,kS 38 1 37,kM 39 6,kI 40 2 38 39,kF 41 0 40,kL 42 41,kI 43 1 36 42,kL 44 43,kx 45 (.bini .gtr (ux 35) (ux 44))]
 (.cond (ux 45)
 (.regN [1,3,4,6,7] [
 kM 46 4,kF 47 3 1,kS 48 1 47,kM 49 6,kI 50 2 48 49,kF 51 0 50,kL 52 51,kM 53 7,kI 54 1 46 52,kn (.st none 1 (ux 54) (ux 53)),kx 5 (.mv cT)])
 .skip))))
 (.regN [1,3,4,5,6] [
 kM 22 6,kU 23 22,kM 6 23])))
def QV:AC:=(.seq (sr [1,3,4,5] [
 kM 16 5]
 (.cond (ux 16)
 .skip
 (.exit 0)))
 (.block 1
 (sr [1,3,4] [
 kx 5 (.mv cF)]
 (sr [1,3,4,5] [
 kZ 6]
 (.block 2
 (.loop [1,3,4,5,6] QU))))))
def Rq:AC:=(sr [0] [
 kB 1 4 0,kx 2 (.mv (.con .e0))]
 (.seq (sr [1] [
 kP 8 1 4 1,kC 9 24 8,kx 10 (.bini .neq (ux 9) c0)]
 (.cond (ux 10)
 (sr [] [
 kx 2 (.mv (.con .e0))]
 .ret)
 .skip))
 (sr [1] [
 kP 11 1 4 1,kC 12 28 11,kM 3 12]
 (sr [1,3] [
 kF 13 1 1,kS 14 1 13,kx 15 (.mks 1 8 [(.val (.int .i64 0))] (ux 14)),kM 4 15]
 (.seq (sr [1,3,4] [
 kx 5 (.mv cT)]
 (.block 0
 (.loop [1,3,4,5] QV)))
 (sr [4] [
 kM 55 4,kM 2 55]
 .ret))))))
def t22:AFn:=⟨1,Rq,
 [.tmp 2],true⟩
def Rj:AC:=(.seq (sd [1,2,3,4,9,10] 0 [
 kM 12 10,kM 13 3,kN 14 13,kT 15 12 14,kM 16 15,yM 17 16 3,yM 18 16 10,yI 19 16 1 17 18,yL 20 16 19,yF 21 16 0 4,yS 22 16 4 21,ky 23 16 (.bini .geq (ux 20) (ux 22)),kx 24 (.pick (ux 16) (ux 23) cF)]
 (.cond (ux 24)
 .skip
 (.exit 0)))
 (.seq (.block 1
 (sd [1,2,3,4,9,10] 0 [
 kM 27 3,kM 28 10,kI 29 1 27 28,kL 30 29,kF 31 0 4,kS 32 4 31,kx 33 (.bini .sub (ux 30) (ux 32)),kM 11 33]
 (sr [1,2,3,4,9,10,11] [
 kM 34 9,kM 35 2,kM 36 11,kI 37 1 35 36,kL 38 37,kx 39 (.mm true [(ux 34),(ux 38)]),kM 9 39]
 (sr [1,2,3,4,9,10,11] [
 kM 40 1,kM 41 11,kI 42 1 40 41,kL 43 42,kx 44 (.not (ux 43))]
 (.cond (ux 44)
 (.exit 0)
 .skip)))))
 (.regN [1,2,3,4,9,10] [
 kM 25 10,kU 26 25,kM 10 26])))
def Rr:AC:=(sr [0,1,2,3] [
 kB 4 4 0,kZ 8]
 (sr [1,2,3,4] [
 kZ 9]
 (.seq (sr [1,2,3,4,9] [
 kZ 10]
 (.block 0
 (.loop [1,2,3,4,9,10] Rj)))
 (sr [9] [
 kM 45 9,kM 8 45]
 .ret))))
def t38:AFn:=⟨4,Rr,
 [.tmp 8],true⟩
def QW:AC:=(.seq (sr [2,3,5,6] [
 kM 34 6,kF 35 0 2,kS 36 2 35,kM 37 5,kI 38 1 36 37,kL 39 38,kN 40 39,kT 41 34 40]
 (.cond (ux 41)
 .skip
 (.exit 2)))
 (.seq (.block 3
 (sd [2,3,5,6] 0 [
 kF 44 0 2,kS 45 2 44,kM 46 5,kI 47 1 45 46,kL 48 47,kM 49 6,kI 50 1 48 49,kL 51 50,kF 52 0 3,kS 53 3 52,kM 54 5,kI 55 1 53 54,kL 56 55,kM 57 6,kI 58 1 56 57,kL 59 58,kx 60 (.bins .neq (ux 51) (ux 59))]
 (.cond (ux 60)
 (sr [] [
 kx 4 (.mv cF)]
 .ret)
 .skip)))
 (.regN [2,3,5,6] [
 kM 42 6,kU 43 42,kM 6 43])))
def QX:AC:=(.seq (sr [2,3,5] [
 kM 14 5,kF 15 0 2,kS 16 2 15,kN 17 16,kT 18 14 17]
 (.cond (ux 18)
 .skip
 (.exit 0)))
 (.seq (.block 1
 (.seq (sd [2,3,5] 0 [
 kF 21 0 2,kS 22 2 21,kM 23 5,kI 24 1 22 23,kL 25 24,kN 26 25,kF 27 0 3,kS 28 3 27,kM 29 5,kI 30 1 28 29,kL 31 30,kN 32 31,kx 33 (.bini .neq (ux 26) (ux 32))]
 (.cond (ux 33)
 (sr [] [
 kx 4 (.mv cF)]
 .ret)
 .skip))
 (sr [2,3,5] [
 kZ 6]
 (.block 2
 (.loop [2,3,5,6] QW)))))
 (.regN [2,3,5] [
 kM 19 5,kU 20 19,kM 5 20])))
def Rs:AC:=(sr [0,1] [
 kB 2 1 0,kB 3 1 1,kx 4 (.mv cF)]
 (.seq (sr [2,3] [
 kF 7 0 2,kS 8 2 7,kN 9 8,kF 10 0 3,kS 11 3 10,kN 12 11,kx 13 (.bini .neq (ux 9) (ux 12))]
 (.cond (ux 13)
 (sr [] [
 kx 4 (.mv cF)]
 .ret)
 .skip))
 (.seq (sr [2,3] [
 kZ 5]
 (.block 0
 (.loop [2,3,5] QX)))
 (sr [] [
 kx 4 (.mv cT)]
 .ret))))
def t54:AFn:=⟨2,Rs,
 [.tmp 4],true⟩
def Rt:AC:=(sr [0,1] [
 kx 4 (.mv (.con (.val (.string ⟨#[]⟩))))]
 (sr [0,1] [
 kM 5 0,kx 6 (.buildS 1 [(.val (.int .u8 0))] [(0,1,(.con (.val (.int .u8 255))))]),kx 7 (.b2s (ux 6)),kx 8 (.bins .add (ux 5) (ux 7)),kM 0 8]
 (sr [0,1] [
 kM 9 0,kM 10 1,kM 11 0,kx 12 (.len true (ux 11)),kx 13 (.mm false [(ux 10),(ux 12)]),kx 14 (.slS (ux 9) none (some (ux 13))),kM 4 14]
 .ret)))
def t56:AFn:=⟨2,Rt,
 [.tmp 4],true⟩
def QY:AC:=(.seq (sr [2,3,4,5,9] [
 kM 22 9,kF 23 3 4,kS 24 4 23,kN 25 24,kT 26 22 25]
 (.cond (ux 26)
 .skip
 (.exit 0)))
 (.seq (.block 1
 (sr [2,3,4,5,9] [
 kF 29 3 4,kS 30 4 29,kM 31 9,kI 32 2 30 31,kF 33 0 32,kL 34 33,kM 35 2,kx 36 (.bini .eql (ux 34) (ux 35)),kM 37 36,yF 38 37 0 5,yS 39 37 5 38,yM 40 37 9,yI 41 37 1 39 40,yL 42 37 41,yM 43 37 3,ky 44 37 (.call 69 [(ux 42),(ux 43)]),kx 45 (.pick (ux 37) (ux 44) cF)]
 (.cond (ux 45)
 (sr [9] [
 kM 46 9,kM 8 46]
 .ret)
 .skip)))
 (.regN [2,3,4,5,9] [
 kM 27 9,kU 28 27,kM 9 28])))
def Ru:AC:=(sr [0,1,2,3] [
 kB 4 4 0,kB 5 1 1,kZ 8]
 (.seq (sr [2,3,4,5] [
 kP 10 4 4 4,kC 11 39 10,kx 12 (.bini .neq (ux 11) c0),kM 13 12,zF 14 13 0 5,zS 15 13 5 14,zN 16 13 15,zF 17 13 3 4,zS 18 13 4 17,zN 19 13 18,kz 20 13 (.bini .neq (ux 16) (ux 19)),kO 21 13 20]
 (.cond (ux 21)
 (sr [] [
 kx 8 (.mv (.con (.val (.int .i64 (-1)))))]
 .ret)
 .skip))
 (.seq (sr [2,3,4,5] [
 kZ 9]
 (.block 0
 (.loop [2,3,4,5,9] QY)))
 (sr [] [
 kx 8 (.mv (.con (.val (.int .i64 (-1)))))]
 .ret))))
def t55:AFn:=⟨4,Ru,
 [.tmp 8],true⟩
def Rv:AC:=(sr [0,1,2] [
 kB 3 4 0,kB 4 1 1,kZ 6,kx 7 (.mv cF)]
 (sr [2,3,4] [
 kP 12 3 4 3,kP 13 4 1 4,kM 14 2,kx 15 (.call 37 [(ux 12),(ux 13),(ux 14)]),kM 11 15,kE 16 11 0,kE 17 11 1,kE 18 11 2,kM 8 16,kM 9 17,kM 10 18]
 (.seq (sr [9,10] [
 kM 19 10,kx 20 (.not (ux 19))]
 (.cond (ux 20)
 (sr [] [
 kZ 6,kx 7 (.mv cF)]
 .ret)
 .skip))
 (sr [9] [
 kM 21 9,kM 6 21,kx 7 (.mv cT)]
 .ret))))
def t20:AFn:=⟨3,Rv,
 [.tmp 6,.tmp 7],true⟩
def EU:AC:=(.seq (sr [0,1,4] [
 kM 7 0,kN 8 7,kx 9 (.bini .gtr (ux 8) c0),kM 10 9,yM 11 10 1,yN 12 10 11,ky 13 10 (.bini .gtr (ux 12) c0),kx 14 (.pick (ux 10) (ux 13) cF)]
 (.cond (ux 14)
 .skip
 (.exit 0)))
 (.block 1
 (sd [0,1,4] 0 [
 kM 15 0,kx 16 (.ixA 1 (ux 15) c0),kL 17 16,kM 18 1,kx 19 (.ixA 1 (ux 18) c0),kL 20 19,kf 21 (.call 114 [(ux 17),(ux 20)]),kM 6 21]
 (.block 2
 (sr [0,1,4,6] [
 kM 25 6,kx 26 (.bini .eql (ux 25) c0),kM 24 26]
 (.cond (ux 24)
 (sr [0] [
 kM 27 0,kx 28 (.ixA 1 (ux 27) c0),kL 29 28,kM 4 29,kx 5 (.mv cT)]
 .ret)
 (sr [0,1,4,6] [
 kM 31 6,kx 32 (.bini .lss (ux 31) c0),kM 30 32]
 (.cond (ux 30)
 (.regN [0,1,4] [
 kM 33 0,kx 34 (.slC 1 (ux 33) (some c1) none),kM 0 34])
 (.regN [0,1,4] [
 kM 22 1,kx 23 (.slC 1 (ux 22) (some c1) none),kM 1 23])))))))))
def Kp:AC:=(sr [0,1] [
 kx 4 (.mv (.con (.val (.string ⟨#[]⟩)))),kx 5 (.mv cF)]
 (.seq (.block 0
 (.loop [0,1,4] EU))
 (sr [4] [
 kM 35 4,kM 4 35,kx 5 (.mv cF)]
 .ret)))
def L2:AFn:=⟨2,Kp,
 [.tmp 4,.tmp 5],true⟩
def Kq:AC:=(sr [0,1] [
 kZ 4]
 (sr [0,1] [
 kM 7 0,kC 8 121 7,kM 5 8]
 (sr [0,1,5] [
 kM 9 1,kC 10 121 9,kM 6 10]
 (.seq (sr [0,1,5,6] [
 kM 11 5]
 (.cond (ux 11)
 (.seq (sr [6] [
 kM 12 6]
 (.cond (ux 12)
 (sr [] [
 kZ 4]
 .ret)
 .skip))
 (sr [] [
 kx 4 (.mv (.con (.val (.int .i64 (-1)))))]
 .ret))
 .skip))
 (.seq (sr [0,1,6] [
 kM 13 6]
 (.cond (ux 13)
 (sr [] [
 kx 4 (.mv c1)]
 .ret)
 .skip))
 (.seq (sr [0,1] [
 kM 14 0,kM 15 1,kx 16 (.bins .lss (ux 14) (ux 15))]
 (.cond (ux 16)
 (sr [] [
 kx 4 (.mv (.con (.val (.int .i64 (-1)))))]
 .ret)
 .skip))
 (.seq (sr [0,1] [
 kM 17 0,kM 18 1,kx 19 (.bins .gtr (ux 17) (ux 18))]
 (.cond (ux 19)
 (sr [] [
 kx 4 (.mv c1)]
 .ret)
 .skip))
 (sr [] [
 kZ 4]
 .ret))))))))
def L3:AFn:=⟨2,Kq,
 [.tmp 4],true⟩
def Kr:AC:=(sr [0] [
 kx 2 (.mv cF)]
 (sr [0] [
 kM 3 0,kM 4 0,kx 5 (.bins .neq (ux 3) (ux 4)),kM 2 5]
 .ret))
def L4:AFn:=⟨1,Kr,
 [.tmp 2],true⟩
end Go.Proofs.YtkllbcjanneppaaGreat
