/- The functions of a program, compiled: printed by wip/hm/tools/GenNf.lean. -/
import Derived.Test.YtnhennjliinplaaHmG10
import Derived.Test.YtnhennjliinplaaPr
import Derived.Test.YtnhennjliinplaaHmG12
import Derived.Test.YtnhennjliinplaaRows
namespace Go.Proofs.Ytnhennjliinplaa
open Go Go.Hm
abbrev kx (d:Nat)(o:AOp):AI:=⟨some d,none,o,0,false⟩
abbrev ky (d g:Nat)(o:AOp):AI:=⟨some d,some (g,true),o,0,false⟩
abbrev kz (d g:Nat)(o:AOp):AI:=⟨some d,some (g,false),o,0,false⟩
abbrev kn (o:AOp):AI:=⟨none,none,o,0,false⟩
abbrev kf (d:Nat)(o:AOp):AI:=⟨some d,none,o,0,true⟩
abbrev ux (n:Nat):AO:=.tmp n
abbrev um (n:Nat):AOp:=.mv (.tmp n)
abbrev c0:AO:=.con (.val (.int .i64 0))
abbrev c1:AO:=.con (.val (.int .i64 1))
abbrev cT:AO:=.con (.val (.bool true))
abbrev cF:AO:=.con (.val (.bool false))
abbrev kM (d x:Nat):=kx d (um x)
abbrev zM (d g x:Nat):=kz d g (um x)
abbrev yM (d g x:Nat):=ky d g (um x)
abbrev kL (d x:Nat):=kx d (.ld1 none (ux x))
abbrev zL (d g x:Nat):=kz d g (.ld1 none (ux x))
abbrev yL (d g x:Nat):=ky d g (.ld1 none (ux x))
abbrev kF (d n x:Nat):=kx d (.fldA n (ux x))
abbrev zF (d g n x:Nat):=kz d g (.fldA n (ux x))
abbrev yF (d g n x:Nat):=ky d g (.fldA n (ux x))
abbrev kI (d e x y:Nat):=kx d (.ixA e (ux x) (ux y))
abbrev zI (d g e x y:Nat):=kz d g (.ixA e (ux x) (ux y))
abbrev yI (d g e x y:Nat):=ky d g (.ixA e (ux x) (ux y))
abbrev kS (d b x:Nat):=kx d (.ld1 (some b) (ux x))
abbrev zS (d g b x:Nat):=kz d g (.ld1 (some b) (ux x))
abbrev yS (d g b x:Nat):=ky d g (.ld1 (some b) (ux x))
abbrev kN (d x:Nat):=kx d (.len false (ux x))
abbrev zN (d g x:Nat):=kz d g (.len false (ux x))
abbrev yN (d g x:Nat):=ky d g (.len false (ux x))
abbrev kP (d b n x:Nat):=kx d (.ldA (some b) n (ux x))
abbrev kT (d x y:Nat):=kx d (.bini .lss (ux x) (ux y))
abbrev kU (d x:Nat):=kx d (.bini .add (ux x) c1)
abbrev kO (d x y:Nat):=kx d (.pick (ux x) cT (ux y))
abbrev kZ (d:Nat):=kx d (.mv c0)
abbrev kB (d n x:Nat):=kx d (.boxR n (ux x))
abbrev kE (d x n:Nat):=kx d (.ext (ux x) n)
abbrev kC (d f x:Nat):=kx d (.call f [.tmp x])
attribute [simp] kx ky kz kn kf ux um c0 c1 cT cF kM zM yM kL zL yL kF zF yF kI zI yI kS zS yS kN zN yN kP kT kU kO kZ kB kE kC
def t61L1:AC:=(.seq (.regN [3,7,8,9] [
 kT 10 9 8])
 (.seq (.cond (ux 10)
 .skip
 (.exit 0))
 (.seq (.block 1
 (.seq (.regN [3,7,8,9] [
 kI 11 1 7 9,kL 12 11,kM 5 12])
 (.regN [3,5,7,8,9] [
 kM 13 3,kM 14 5,kx 15 (.call 72 [(ux 13),(ux 14)])])))
 (.regN [3,7,8,9] [
 kU 16 9,kM 9 16]))))
def t61B:AC:=(.seq (.regN [0] [
 kx 2 (.mv (.con (.val (.map none))))])
 (.seq (.regN [0] [
 kx 6 (.mkm),kM 3 6])
 (.seq (.seq (.regN [0,3] [
 kM 7 0,kN 8 7,kZ 9])
 (.block 0
 (.loop [3,7,8,9] t61L1)))
 (.seq (.regN [3] [
 kM 17 3,kM 2 17])
 .ret))))
def t61:AFn:=⟨1,t61B,
 [.tmp 2],false⟩
def t72R1:AC:=(.block 1
 (.seq (.regN [10,0,7] [
 kE 11 10 0,kE 12 10 1,kx 5 (.allocR []),kM 4 11,kn (.st (some 5) 0 (ux 5) (ux 12))])
 (.regN [0,4,5,7] [
 kM 13 0,kM 14 4,kP 15 5 0 5,kn (.mup false [1] (ux 13) (ux 14) (ux 15))])))
def t72B:AC:=(.seq (.regN [0,1] [
 kM 6 1])
 (.rangeM [0] (preN 72 7) (ux 6) 7 10 t72R1))
def t72:AFn:=⟨2,t72B,
 [],true⟩
def t7B:AC:=(.seq (.regN [0,1,2,3,4,5] [
 kB 7 3 1,kB 8 3 2,kx 12 (.mv cF)])
 (.seq (.seq (.regN [0,3,4,5,7,8] [
 kx 17 (.call 8 []),kx 18 (.not (ux 17))])
 (.cond (ux 18)
 (.seq (.regN [] [
 kx 12 (.mv cF)])
 .ret)
 .skip))
 (.seq (.seq (.regN [0,3,4,5,7,8] [
 kM 19 0,kC 20 24 19,kx 21 (.not (ux 20)),kM 22 21,kz 23 22 (.ldA (some 7) 3 (ux 7)),kz 24 22 (.call 16 [(ux 23),(.con (.val (.int .i64 40)))]),kz 25 22 (.not (ux 24)),kO 26 22 25,kM 27 26,kz 28 27 (.ldA (some 8) 3 (ux 8)),kz 29 27 (.call 16 [(ux 28),(.con (.val (.int .i64 40)))]),kz 30 27 (.not (ux 29)),kO 31 27 30,kM 32 31,zM 33 32 3,zN 34 32 33,kz 35 32 (.bini .gtr (ux 34) (.con (.val (.int .i64 40)))),kO 36 32 35,kM 37 36,zM 38 37 5,kz 39 37 (.len true (ux 38)),kz 40 37 (.bini .gtr (ux 39) (.con (.val (.int .i64 40)))),kO 41 37 40])
 (.cond (ux 41)
 (.seq (.regN [] [
 kx 12 (.mv cT)])
 .ret)
 .skip))
 (.seq (.regN [0,3,4,5,7,8] [
 kM 43 0,kC 44 13 43,kM 42 44,kE 45 42 0,kE 46 42 1,kx 13 (.allocR [.e0,.e0,.e0]),kn (.st (some 13) 3 (ux 13) (ux 45)),kM 14 46])
 (.seq (.regN [0,3,4,5,7,8,13,14] [
 kM 48 0,kC 49 25 48,kM 47 49,kE 50 47 0,kE 51 47 1,kx 15 (.allocR [.e0,.e0,.e0]),kn (.st (some 15) 3 (ux 15) (ux 50)),kM 16 51])
 (.seq (.regD [3,4,5,7,8,13,14,15,16] 0 [
 kP 52 13 3 13,kP 53 15 3 15,kf 54 (.call 26 [(ux 52),(ux 53)]),kM 55 54,yM 56 55 14,yM 57 55 16,ky 58 55 (.bini .eql (ux 56) (ux 57)),kx 59 (.pick (ux 55) (ux 58) cF),kM 60 59,ky 61 60 (.ldA (some 7) 3 (ux 7)),⟨some 62,some (60,true),.call 14 [.tmp 61],0,true⟩,ky 63 60 (.ldA (some 7) 3 (ux 7)),⟨some 64,some (60,true),.call 27 [.tmp 63],0,true⟩,ky 65 60 (.bini .eql (ux 62) (ux 64)),kx 66 (.pick (ux 60) (ux 65) cF),kM 67 66,ky 68 67 (.ldA (some 7) 3 (ux 7)),yM 69 67 3,yM 70 67 4,⟨some 71,some (67,true),.call 17 [(ux 68),(ux 69),(ux 70)],0,true⟩,ky 72 67 (.ldA (some 7) 3 (ux 7)),yM 73 67 3,yM 74 67 4,⟨some 75,some (67,true),.call 28 [(ux 72),(ux 73),(ux 74)],0,true⟩,⟨some 76,some (67,true),.call 22 [(ux 71),(ux 75)],0,true⟩,kx 77 (.pick (ux 67) (ux 76) cF),kM 78 77,ky 79 78 (.ldA (some 7) 3 (ux 7)),yM 80 78 3,⟨some 81,some (78,true),.call 20 [(ux 79),(ux 80)],0,true⟩,ky 82 78 (.ldA (some 7) 3 (ux 7)),yM 83 78 3,⟨some 84,some (78,true),.call 29 [(ux 82),(ux 83)],0,true⟩,ky 85 78 (.bini .eql (ux 81) (ux 84)),kx 86 (.pick (ux 78) (ux 85) cF),kM 87 86,ky 88 87 (.ldA (some 7) 3 (ux 7)),yM 89 87 5,⟨some 90,some (87,true),.call 15 [(ux 88),(ux 89)],0,true⟩,ky 91 87 (.ldA (some 7) 3 (ux 7)),yM 92 87 5,⟨some 93,some (87,true),.call 30 [(ux 91),(ux 92)],0,true⟩,ky 94 87 (.bini .eql (ux 90) (ux 93)),kx 95 (.pick (ux 87) (ux 94) cF),kM 96 95,ky 97 96 (.ldA (some 7) 3 (ux 7)),ky 98 96 (.ldA (some 8) 3 (ux 8)),⟨some 99,some (96,true),.call 23 [(ux 97),(ux 98)],0,true⟩,ky 100 96 (.ldA (some 7) 3 (ux 7)),ky 101 96 (.ldA (some 8) 3 (ux 8)),⟨some 102,some (96,true),.call 26 [(ux 100),(ux 101)],0,true⟩,ky 103 96 (.eqb false (ux 99) (ux 102)),kx 104 (.pick (ux 96) (ux 103) cF),kM 105 104,ky 106 105 (.ldA (some 7) 3 (ux 7)),ky 107 105 (.ldA (some 7) 3 (ux 7)),⟨some 108,some (105,true),.call 23 [(ux 106),(ux 107)],0,true⟩,kx 109 (.pick (ux 105) (ux 108) cF),kM 12 109])
 .ret))))))
def t7:AFn:=⟨6,t7B,
 [.tmp 12],true⟩
def t8B:AC:=(.seq (.regN [] [
 kx 0 (.mv cF)])
 (.seq (.regN [] [
 kx 4 (.buildS 2 [(.val (.string ⟨#[]⟩)),(.val (.string ⟨#[]⟩))] [(0,1,(.con (.val (.string ⟨#[97,98,42]⟩)))),(1,1,(.con (.val (.string ⟨#[97]⟩))))]),kC 5 21 4,kC 6 13 5,kM 3 6,kE 7 3 0,kE 8 3 1,kx 1 (.allocR [.e0,.e0,.e0]),kn (.st (some 1) 3 (ux 1) (ux 7)),kM 2 8])
 (.seq (.regD [1,2] 0 [
 kM 9 2,kx 10 (.bini .eql (ux 9) c0),kM 11 10,yF 12 11 1 1,yS 13 11 1 12,ky 14 11 (.buildS 2 [(.val (.int .i64 0)),(.val (.int .i64 0))] [(0,1,c1),(1,1,(.con (.val (.int .i64 3))))]),ky 15 11 (.buildS 1 [(.val (.int .i64 0))] [(0,1,(.con (.val (.int .i64 2))))]),ky 16 11 (.buildS 1 [(.val (.int .i64 0))] [(0,1,(.con (.val (.int .i64 2))))]),ky 17 11 (.buildS 0 [] []),ky 18 11 (.buildS 4 [.e0,.e0,.e0,.e0] [(0,1,(ux 14)),(1,1,(ux 15)),(2,1,(ux 16)),(3,1,(ux 17))]),ky 19 11 (.call 31 [(ux 13),(ux 18)]),kx 20 (.pick (ux 11) (ux 19) cF),kM 21 20,yF 22 21 2 1,yS 23 21 1 22,ky 24 21 (.buildS 4 [(.val (.int .i64 0)),(.val (.int .i64 0)),(.val (.int .i64 0)),(.val (.int .i64 0))] [(0,1,(.con (.val (.int .i64 (-1))))),(1,1,c0),(2,1,c0),(3,1,c1)]),ky 25 21 (.call 22 [(ux 23),(ux 24)]),kx 26 (.pick (ux 21) (ux 25) cF),kM 27 26,yF 28 27 0 1,yS 29 27 1 28,yN 30 27 29,ky 31 27 (.bini .eql (ux 30) (.con (.val (.int .i64 4)))),kx 32 (.pick (ux 27) (ux 31) cF),kM 33 32,yF 34 33 0 1,yS 35 33 1 34,ky 36 33 (.ixA 4 (ux 35) (.con (.val (.int .i64 3)))),ky 37 33 (.ldA none 4 (ux 36)),ky 38 33 (.call 32 [(.con (.val (.string ⟨#[97]⟩)))]),ky 39 33 (.eqa false [1,1,1,1] (ux 37) (ux 38)),kx 40 (.pick (ux 33) (ux 39) cF),kM 0 40])
 .ret)))
def t8:AFn:=⟨0,t8B,
 [.tmp 0],true⟩
def t21L1:AC:=(.seq (.seq (.regN [0,3,4] [
 kM 8 4,kM 9 0,kN 10 9,kT 11 8 10])
 (.cond (ux 11)
 .skip
 (.exit 0)))
 (.seq (.block 1
 (.seq (.regN [0,3,4] [
 kM 15 0,kM 16 4,kI 17 1 15 16,kL 18 17,kC 19 44 18,kM 14 19,kE 20 14 0,kE 21 14 1,kE 22 14 2,kM 5 20,kM 6 21,kM 7 22])
 (.regN [0,3,4,5] [
 kM 23 3,kM 24 5,kx 25 (.buildS 1 [.e0] [(0,1,(ux 24))]),kx 26 (.app 1 24 (ux 23) (ux 25)),kM 3 26])))
 (.regN [0,3,4] [
 kM 12 4,kU 13 12,kM 4 13])))
def t21B:AC:=(.seq (.regN [0] [
 kx 2 (.mv (.con .e0))])
 (.seq (.regN [0] [
 kx 3 (.mv (.con .e0))])
 (.seq (.seq (.regN [0,3] [
 kZ 4])
 (.block 0
 (.loop [0,3,4] t21L1)))
 (.seq (.regN [3] [
 kM 27 3,kM 2 27])
 .ret))))
def t21:AFn:=⟨1,t21B,
 [.tmp 2],true⟩
def t44B:AC:=(.seq (.regN [0] [
 kx 2 (.mv (.con .e0)),kZ 3,kZ 4])
 (.seq (.seq (.regN [0] [
 kM 6 0,kx 7 (.len true (ux 6)),kx 8 (.bini .gtr (ux 7) (.con (.val (.int .i64 256))))])
 (.cond (ux 8)
 (.seq (.regN [] [
 kx 2 (.mv (.con .e0)),kZ 3,kx 4 (.mv (.con (.val (.int .i64 3))))])
 .ret)
 .skip))
 (.seq (.regN [0] [
 kM 9 0,kx 10 (.build [(.val (.string ⟨#[]⟩)),(.val (.int .i64 0)),.e0,(.val (.int .i64 0))] [(0,1,(ux 9))]),kx 11 (.boxH 4 (ux 10)),kM 5 11])
 (.seq (.regN [0,5,11] [
 kM 12 5,kC 13 66 12])
 (.seq (.seq (.regN [0,5,11] [
 kM 14 5,kC 15 67 14])
 (.cond (ux 15)
 (.regN [0,5,11] [
 kM 16 5,kM 17 5,kx 18 (.nilc (ux 17)),kF 19 1 18,kL 20 19,kx 21 (.call 68 [(ux 16),(ux 20),(.con (.val (.int .i64 7)))])])
 .skip))
 (.seq (.seq (.regN [0,5,11] [
 kM 22 5,kx 23 (.nilc (ux 22)),kF 24 3 23,kL 25 24,kx 26 (.bini .neq (ux 25) c0)])
 (.cond (ux 26)
 (.seq (.regD [5,11] 0 [
 kM 27 5,kx 28 (.nilc (ux 27)),kF 29 1 28,kL 30 29,kM 31 5,kx 32 (.nilc (ux 31)),kF 33 3 32,kL 34 33,kx 2 (.mv (.con .e0)),kM 3 30,kM 4 34])
 .ret)
 .skip))
 (.seq (.regN [0,5,11] [
 kM 35 5,kx 36 (.nilc (ux 35)),kF 37 2 36,kL 38 37,kM 39 0,kx 40 (.len true (ux 39)),kM 2 38,kM 3 40,kZ 4])
 .ret)))))))
def t44:AFn:=⟨1,t44B,
 [.tmp 2,.tmp 3,.tmp 4],true⟩
def t66L1:AC:=(.seq (.seq (.regD [0,3] 0 [
 kM 7 0,kf 8 (.call 67 [.tmp 7]),kM 9 8,yM 10 9 0,ky 11 9 (.nilc (ux 10)),yF 12 9 0 11,yL 13 9 12,yM 14 9 0,ky 15 9 (.nilc (ux 14)),yF 16 9 1 15,yL 17 9 16,ky 18 9 (.ixS (ux 13) (ux 17)),ky 19 9 (.bini .eql (ux 18) (.con (.val (.int .u8 124)))),kx 20 (.pick (ux 9) (ux 19) cF)])
 (.cond (ux 20)
 .skip
 (.exit 0)))
 (.block 1
 (.seq (.regN [0,3] [
 kM 21 0,kx 22 (.nilc (ux 21)),kF 23 1 22,kL 24 23,kU 25 24,kx 26 (.nilc (ux 21)),kF 27 1 26,kn (.st none 1 (ux 27) (ux 25))])
 (.regN [0,3] [
 kM 28 3,kM 29 0,kC 30 76 29,kx 31 (.buildS 1 [(.val (.int .i64 0))] [(0,1,(ux 30))]),kx 32 (.app 1 8 (ux 28) (ux 31)),kM 3 32]))))
def t66B:AC:=(.seq (.regN [0] [
 kZ 2])
 (.seq (.regN [0] [
 kM 4 0,kC 5 76 4,kx 6 (.buildS 1 [(.val (.int .i64 0))] [(0,1,(ux 5))]),kM 3 6])
 (.seq (.block 0
 (.loop [0,3] t66L1))
 (.seq (.seq (.regN [0,3] [
 kM 33 3,kN 34 33,kx 35 (.bini .eql (ux 34) c1)])
 (.cond (ux 35)
 (.seq (.regN [3] [
 kM 36 3,kx 37 (.ixA 1 (ux 36) c0),kL 38 37,kM 2 38])
 .ret)
 .skip))
 (.seq (.regN [0,3] [
 kM 39 0,kx 40 (.build [(.val (.int .u64 0)),(.val (.int .u64 0)),(.val (.int .u64 0)),(.val (.int .u64 0))] []),kM 41 3,kx 42 (.call 77 [(ux 39),(.con (.val (.int .i64 4))),(ux 40),(ux 41)]),kM 2 42])
 .ret)))))
def t66:AFn:=⟨1,t66B,
 [.tmp 2],false⟩
def t76L1:AC:=(.seq (.seq (.regD [0,3] 0 [
 kM 4 0,kf 5 (.call 67 [.tmp 4]),kM 6 5,yM 7 6 0,ky 8 6 (.nilc (ux 7)),yF 9 6 0 8,yL 10 6 9,yM 11 6 0,ky 12 6 (.nilc (ux 11)),yF 13 6 1 12,yL 14 6 13,ky 15 6 (.ixS (ux 10) (ux 14)),ky 16 6 (.bini .neq (ux 15) (.con (.val (.int .u8 124)))),kx 17 (.pick (ux 6) (ux 16) cF),kM 18 17,yM 19 18 0,ky 20 18 (.nilc (ux 19)),yF 21 18 0 20,yL 22 18 21,yM 23 18 0,ky 24 18 (.nilc (ux 23)),yF 25 18 1 24,yL 26 18 25,ky 27 18 (.ixS (ux 22) (ux 26)),ky 28 18 (.bini .neq (ux 27) (.con (.val (.int .u8 41)))),kx 29 (.pick (ux 18) (ux 28) cF)])
 (.cond (ux 29)
 .skip
 (.exit 0)))
 (.block 1
 (.regN [0,3] [
 kM 30 3,kM 31 0,kC 32 89 31,kx 33 (.buildS 1 [(.val (.int .i64 0))] [(0,1,(ux 32))]),kx 34 (.app 1 8 (ux 30) (ux 33)),kM 3 34])))
def t76B:AC:=(.seq (.regN [0] [
 kZ 2])
 (.seq (.regN [0] [
 kx 3 (.mv (.con .e0))])
 (.seq (.block 0
 (.loop [0,3] t76L1))
 (.seq (.seq (.regN [0,3] [
 kM 35 3,kN 36 35])
 (.block 2
 (.seq (.regN [0,3,36] [
 kx 38 (.bini .eql (ux 36) c0),kM 37 38])
 (.cond (ux 37)
 (.seq (.regN [0] [
 kM 39 0,kx 40 (.build [(.val (.int .u64 0)),(.val (.int .u64 0)),(.val (.int .u64 0)),(.val (.int .u64 0))] []),kx 41 (.call 77 [(ux 39),c1,(ux 40),(.con .e0)]),kM 2 41])
 .ret)
 (.seq (.regN [0,3,36] [
 kx 43 (.bini .eql (ux 36) c1),kM 42 43])
 (.cond (ux 42)
 (.seq (.regN [3] [
 kM 44 3,kx 45 (.ixA 1 (ux 44) c0),kL 46 45,kM 2 46])
 .ret)
 .skip))))))
 (.seq (.regN [0,3] [
 kM 47 0,kx 48 (.build [(.val (.int .u64 0)),(.val (.int .u64 0)),(.val (.int .u64 0)),(.val (.int .u64 0))] []),kM 49 3,kx 50 (.call 77 [(ux 47),(.con (.val (.int .i64 3))),(ux 48),(ux 49)]),kM 2 50])
 .ret)))))
def t76:AFn:=⟨1,t76B,
 [.tmp 2],false⟩
def t67B:AC:=(.seq (.regN [0] [
 kx 2 (.mv cF)])
 (.seq (.regD [0] 0 [
 kM 3 0,kx 4 (.nilc (ux 3)),kF 5 3 4,kL 6 5,kx 7 (.bini .eql (ux 6) c0),kM 8 7,yM 9 8 0,ky 10 8 (.nilc (ux 9)),yF 11 8 1 10,yL 12 8 11,yM 13 8 0,ky 14 8 (.nilc (ux 13)),yF 15 8 0 14,yL 16 8 15,ky 17 8 (.len true (ux 16)),ky 18 8 (.bini .lss (ux 12) (ux 17)),kx 19 (.pick (ux 8) (ux 18) cF),kM 2 19])
 .ret))
def t67:AFn:=⟨1,t67B,
 [.tmp 2],false⟩
def t89L1:AC:=(.seq (.seq (.regN [0,3] [
 kM 7 0,kC 8 67 7])
 (.cond (ux 8)
 .skip
 (.exit 0)))
 (.block 1
 (.seq (.regN [0,3] [
 kZ 4])
 (.seq (.seq (.regD [0,3,4] 0 [
 kM 9 0,kx 10 (.nilc (ux 9)),kF 11 0 10,kL 12 11,kM 13 0,kx 14 (.nilc (ux 13)),kF 15 1 14,kL 16 15,kx 17 (.ixS (ux 12) (ux 16))])
 (.block 2
 (.seq (.regN [0,3,4,17] [
 kx 19 (.bini .eql (ux 17) (.con (.val (.int .u8 42)))),kM 18 19])
 (.cond (ux 18)
 (.regN [0,3] [
 kx 4 (.mv (.con (.val (.int .i64 5))))])
 (.seq (.regN [0,3,4,17] [
 kx 21 (.bini .eql (ux 17) (.con (.val (.int .u8 43)))),kM 20 21])
 (.cond (ux 20)
 (.regN [0,3] [
 kx 4 (.mv (.con (.val (.int .i64 6))))])
 (.seq (.regN [0,3,4,17] [
 kx 23 (.bini .eql (ux 17) (.con (.val (.int .u8 63)))),kM 22 23])
 (.cond (ux 22)
 (.regN [0,3] [
 kx 4 (.mv (.con (.val (.int .i64 7))))])
 .skip))))))))
 (.seq (.seq (.regN [0,3,4] [
 kM 24 4,kx 25 (.bini .eql (ux 24) c0)])
 (.cond (ux 25)
 (.seq (.regN [3] [
 kM 26 3,kM 2 26])
 .ret)
 .skip))
 (.seq (.regN [0,3,4] [
 kM 27 0,kx 28 (.nilc (ux 27)),kF 29 1 28,kL 30 29,kU 31 30,kx 32 (.nilc (ux 27)),kF 33 1 32,kn (.st none 1 (ux 33) (ux 31))])
 (.regN [0,3,4] [
 kM 34 0,kM 35 4,kx 36 (.build [(.val (.int .u64 0)),(.val (.int .u64 0)),(.val (.int .u64 0)),(.val (.int .u64 0))] []),kM 37 3,kx 38 (.buildS 1 [(.val (.int .i64 0))] [(0,1,(ux 37))]),kx 39 (.call 77 [(ux 34),(ux 35),(ux 36),(ux 38)]),kM 3 39])))))))
def t89B:AC:=(.seq (.regN [0] [
 kZ 2])
 (.seq (.regN [0] [
 kM 5 0,kC 6 96 5,kM 3 6])
 (.seq (.block 0
 (.loop [0,3] t89L1))
 (.seq (.regN [3] [
 kM 40 3,kM 2 40])
 .ret))))
def t89:AFn:=⟨1,t89B,
 [.tmp 2],false⟩
def t96B:AC:=(.seq (.regN [0] [
 kZ 2])
 (.seq (.regD [0] 0 [
 kM 7 0,kx 8 (.nilc (ux 7)),kF 9 0 8,kL 10 9,kM 11 0,kx 12 (.nilc (ux 11)),kF 13 1 12,kL 14 13,kx 15 (.ixS (ux 10) (ux 14)),kM 3 15])
 (.seq (.seq (.regN [0,3] [
 kM 16 3])
 (.block 0
 (.seq (.seq (.regN [0,3,16] [
 kx 18 (.bini .eql (ux 16) (.con (.val (.int .u8 41)))),kM 17 18])
 (.cond (ux 17)
 .skip
 (.seq (.regN [0,3,16] [
 kx 19 (.bini .eql (ux 16) (.con (.val (.int .u8 93)))),kM 17 19])
 (.cond (ux 17)
 .skip
 (.seq (.regN [0,3,16] [
 kx 20 (.bini .eql (ux 16) (.con (.val (.int .u8 124)))),kM 17 20])
 (.cond (ux 17)
 .skip
 (.seq (.regN [0,3,16] [
 kx 21 (.bini .eql (ux 16) (.con (.val (.int .u8 42)))),kM 17 21])
 (.cond (ux 17)
 .skip
 (.seq (.regN [0,3,16] [
 kx 22 (.bini .eql (ux 16) (.con (.val (.int .u8 43)))),kM 17 22])
 (.cond (ux 17)
 .skip
 (.regN [0,3,16] [
 kx 23 (.bini .eql (ux 16) (.con (.val (.int .u8 63)))),kM 17 23])))))))))))
 (.cond (ux 17)
 (.seq (.regN [0] [
 kM 24 0,kM 25 0,kx 26 (.nilc (ux 25)),kF 27 1 26,kL 28 27,kx 29 (.call 68 [(ux 24),(ux 28),(.con (.val (.int .i64 7)))]),kM 2 29])
 .ret)
 .skip))))
 (.seq (.regN [0,3] [
 kM 30 0,kx 31 (.nilc (ux 30)),kF 32 1 31,kL 33 32,kU 34 33,kx 35 (.nilc (ux 30)),kF 36 1 35,kn (.st none 1 (ux 36) (ux 34))])
 (.seq (.seq (.regN [0,3] [
 kM 37 3])
 (.block 1
 (.seq (.regN [0,3,37] [
 kx 39 (.bini .eql (ux 37) (.con (.val (.int .u8 40)))),kM 38 39])
 (.cond (ux 38)
 (.seq (.regN [0] [
 kM 40 0,kC 41 66 40,kM 4 41])
 (.seq (.seq (.regN [0,4] [
 kM 42 0,kC 43 67 42,kx 44 (.not (ux 43))])
 (.cond (ux 44)
 (.seq (.regN [0] [
 kM 45 0,kM 46 0,kx 47 (.nilc (ux 46)),kF 48 0 47,kL 49 48,kx 50 (.len true (ux 49)),kx 51 (.call 68 [(ux 45),(ux 50),(.con (.val (.int .i64 8)))]),kM 2 51])
 .ret)
 .skip))
 (.seq (.seq (.regD [0,4] 0 [
 kM 52 0,kx 53 (.nilc (ux 52)),kF 54 0 53,kL 55 54,kM 56 0,kx 57 (.nilc (ux 56)),kF 58 1 57,kL 59 58,kx 60 (.ixS (ux 55) (ux 59)),kx 61 (.bini .neq (ux 60) (.con (.val (.int .u8 41))))])
 (.cond (ux 61)
 (.seq (.regN [0] [
 kM 62 0,kM 63 0,kx 64 (.nilc (ux 63)),kF 65 1 64,kL 66 65,kx 67 (.call 68 [(ux 62),(ux 66),(.con (.val (.int .i64 7)))]),kM 2 67])
 .ret)
 .skip))
 (.seq (.regN [0,4] [
 kM 68 0,kx 69 (.nilc (ux 68)),kF 70 1 69,kL 71 70,kU 72 71,kx 73 (.nilc (ux 68)),kF 74 1 73,kn (.st none 1 (ux 74) (ux 72))])
 (.seq (.regN [4] [
 kM 75 4,kM 2 75])
 .ret)))))
 (.seq (.regN [0,3,37] [
 kx 77 (.bini .eql (ux 37) (.con (.val (.int .u8 91)))),kM 76 77])
 (.cond (ux 76)
 (.seq (.regN [0] [
 kM 78 0,kC 79 98 78,kx 5 (.allocR [(.val (.int .u64 0)),(.val (.int .u64 0)),(.val (.int .u64 0)),(.val (.int .u64 0))]),kn (.st (some 5) 4 (ux 5) (ux 79))])
 (.seq (.regN [0,5] [
 kM 80 0,kP 81 5 4 5,kx 82 (.call 77 [(ux 80),(.con (.val (.int .i64 2))),(ux 81),(.con .e0)]),kM 2 82])
 .ret))
 (.seq (.regN [0,3,37] [
 kx 84 (.bini .eql (ux 37) (.con (.val (.int .u8 46)))),kM 83 84])
 (.cond (ux 83)
 (.seq (.regN [0] [
 kM 85 0,kx 86 (.call 32 [(.con (.val (.string ⟨#[10]⟩)))]),kC 87 99 86,kx 88 (.call 77 [(ux 85),(.con (.val (.int .i64 2))),(ux 87),(.con .e0)]),kM 2 88])
 .ret)
 (.seq (.regN [0,3,37] [
 kx 90 (.bini .eql (ux 37) (.con (.val (.int .u8 92)))),kM 89 90])
 (.cond (ux 89)
 (.seq (.regN [0] [
 kM 91 0,kC 92 100 91,kM 6 92])
 (.seq (.regN [0,6] [
 kM 93 0,kM 94 6,kx 95 (.buildS 1 [(.val (.int .u8 0))] [(0,1,(ux 94))]),kx 96 (.b2s (ux 95)),kC 97 32 96,kx 98 (.call 77 [(ux 93),(.con (.val (.int .i64 2))),(ux 97),(.con .e0)]),kM 2 98])
 .ret))
 .skip))))))))))
 (.seq (.regN [0,3] [
 kM 99 0,kM 100 3,kx 101 (.buildS 1 [(.val (.int .u8 0))] [(0,1,(ux 100))]),kx 102 (.b2s (ux 101)),kC 103 32 102,kx 104 (.call 77 [(ux 99),(.con (.val (.int .i64 2))),(ux 103),(.con .e0)]),kM 2 104])
 .ret))))))
def t96:AFn:=⟨1,t96B,
 [.tmp 2],false⟩
def t68B:AC:=(.seq (.regN [0,1,2] [
 kZ 6])
 (.seq (.seq (.regN [0,1,2] [
 kM 7 0,kx 8 (.nilc (ux 7)),kF 9 3 8,kL 10 9,kx 11 (.bini .eql (ux 10) c0)])
 (.cond (ux 11)
 (.regN [0,1,2] [
 kM 12 0,kM 13 0,kM 14 2,kM 15 1,kx 16 (.nilc (ux 12)),kF 17 3 16,kn (.st none 1 (ux 17) (ux 14)),kx 18 (.nilc (ux 13)),kF 19 1 18,kn (.st none 1 (ux 19) (ux 15))])
 .skip))
 (.seq (.regN [] [
 kZ 6])
 .ret)))
def t68:AFn:=⟨3,t68B,
 [.tmp 6],false⟩
def t98L1:AC:=(.seq (.seq (.regD [0,2,3,4] 0 [
 kM 31 0,kf 32 (.call 67 [.tmp 31]),kM 33 32,yM 34 33 0,ky 35 33 (.nilc (ux 34)),yF 36 33 0 35,yL 37 33 36,yM 38 33 0,ky 39 33 (.nilc (ux 38)),yF 40 33 1 39,yL 41 33 40,ky 42 33 (.ixS (ux 37) (ux 41)),ky 43 33 (.bini .neq (ux 42) (.con (.val (.int .u8 93)))),kx 44 (.pick (ux 33) (ux 43) cF)])
 (.cond (ux 44)
 .skip
 (.exit 0)))
 (.block 1
 (.seq (.regN [0,2,3,4] [
 kM 45 0,kC 46 101 45,kM 5 46])
 (.seq (.regN [0,2,3,4,5] [
 kM 47 5,kM 6 47])
 (.seq (.seq (.regD [0,2,3,4,5,6] 0 [
 kM 48 0,kx 49 (.nilc (ux 48)),kF 50 3 49,kL 51 50,kx 52 (.bini .eql (ux 51) c0),kM 53 52,yM 54 53 0,ky 55 53 (.nilc (ux 54)),yF 56 53 1 55,yL 57 53 56,ky 58 53 (.bini .add (ux 57) c1),yM 59 53 0,ky 60 53 (.nilc (ux 59)),yF 61 53 0 60,yL 62 53 61,ky 63 53 (.len true (ux 62)),ky 64 53 (.bini .lss (ux 58) (ux 63)),kx 65 (.pick (ux 53) (ux 64) cF),kM 66 65,yM 67 66 0,ky 68 66 (.nilc (ux 67)),yF 69 66 0 68,yL 70 66 69,yM 71 66 0,ky 72 66 (.nilc (ux 71)),yF 73 66 1 72,yL 74 66 73,ky 75 66 (.ixS (ux 70) (ux 74)),ky 76 66 (.bini .eql (ux 75) (.con (.val (.int .u8 45)))),kx 77 (.pick (ux 66) (ux 76) cF),kM 78 77,yM 79 78 0,ky 80 78 (.nilc (ux 79)),yF 81 78 0 80,yL 82 78 81,yM 83 78 0,ky 84 78 (.nilc (ux 83)),yF 85 78 1 84,yL 86 78 85,ky 87 78 (.bini .add (ux 86) c1),ky 88 78 (.ixS (ux 82) (ux 87)),ky 89 78 (.bini .neq (ux 88) (.con (.val (.int .u8 93)))),kx 90 (.pick (ux 78) (ux 89) cF)])
 (.cond (ux 90)
 (.seq (.regN [0,2,3,4,5] [
 kM 91 0,kx 92 (.nilc (ux 91)),kF 93 1 92,kL 94 93,kU 95 94,kx 96 (.nilc (ux 91)),kF 97 1 96,kn (.st none 1 (ux 97) (ux 95))])
 (.seq (.regN [0,2,3,4,5] [
 kM 98 0,kx 99 (.nilc (ux 98)),kF 100 1 99,kL 101 100,kM 7 101])
 (.seq (.regN [0,2,3,4,5,7] [
 kM 102 0,kC 103 101 102,kM 6 103])
 (.seq (.regN [0,2,3,4,5,6,7] [
 kM 104 0,kx 105 (.nilc (ux 104)),kF 106 3 105,kL 107 106,kx 108 (.bini .eql (ux 107) c0),kM 109 108,yM 110 109 6,yM 111 109 5,ky 112 109 (.bini .lss (ux 110) (ux 111)),kx 113 (.pick (ux 109) (ux 112) cF)])
 (.cond (ux 113)
 (.regN [0,2,3,4,5,6,7] [
 kM 114 0,kM 115 7,kx 116 (.call 68 [(ux 114),(ux 115),(.con (.val (.int .i64 7)))])])
 .skip)))))
 .skip))
 (.regD [0,2,3,4,5,6] 0 [
 kP 117 3 4 3,kM 118 5,kM 119 6,kf 120 (.call 103 [(ux 118),(ux 119)]),kf 121 (.call 102 [(ux 117),(ux 120)]),kn (.st (some 3) 4 (ux 3) (ux 121))]))))))
def t98B:AC:=(.seq (.regN [0] [
 kx 2 (.allocR [(.val (.int .u64 0)),(.val (.int .u64 0)),(.val (.int .u64 0)),(.val (.int .u64 0))])])
 (.seq (.regN [0,2] [
 kx 8 (.build [(.val (.int .u64 0)),(.val (.int .u64 0)),(.val (.int .u64 0)),(.val (.int .u64 0))] []),kx 3 (.allocR [(.val (.int .u64 0)),(.val (.int .u64 0)),(.val (.int .u64 0)),(.val (.int .u64 0))]),kn (.st (some 3) 4 (ux 3) (ux 8))])
 (.seq (.regD [0,2,3] 0 [
 kM 9 0,kf 10 (.call 67 [.tmp 9]),kM 11 10,yM 12 11 0,ky 13 11 (.nilc (ux 12)),yF 14 11 0 13,yL 15 11 14,yM 16 11 0,ky 17 11 (.nilc (ux 16)),yF 18 11 1 17,yL 19 11 18,ky 20 11 (.ixS (ux 15) (ux 19)),ky 21 11 (.bini .eql (ux 20) (.con (.val (.int .u8 94)))),kx 22 (.pick (ux 11) (ux 21) cF),kM 4 22])
 (.seq (.seq (.regN [0,2,3,4] [
 kM 23 4])
 (.cond (ux 23)
 (.regN [0,2,3,4] [
 kM 24 0,kx 25 (.nilc (ux 24)),kF 26 1 25,kL 27 26,kU 28 27,kx 29 (.nilc (ux 24)),kF 30 1 29,kn (.st none 1 (ux 30) (ux 28))])
 .skip))
 (.seq (.block 0
 (.loop [0,2,3,4] t98L1))
 (.seq (.seq (.regN [0,2,3,4] [
 kM 122 0,kC 123 67 122,kx 124 (.not (ux 123))])
 (.cond (ux 124)
 (.seq (.regN [0,2,3] [
 kM 125 0,kM 126 0,kx 127 (.nilc (ux 126)),kF 128 0 127,kL 129 128,kx 130 (.len true (ux 129)),kx 131 (.call 68 [(ux 125),(ux 130),(.con (.val (.int .i64 8)))])])
 (.seq (.regN [2,3] [
 kP 132 3 4 3,kn (.st (some 2) 4 (ux 2) (ux 132))])
 .ret))
 .skip))
 (.seq (.regN [0,2,3,4] [
 kM 133 0,kx 134 (.nilc (ux 133)),kF 135 1 134,kL 136 135,kU 137 136,kx 138 (.nilc (ux 133)),kF 139 1 138,kn (.st none 1 (ux 139) (ux 137))])
 (.seq (.seq (.regN [2,3,4] [
 kM 140 4])
 (.cond (ux 140)
 (.seq (.regN [2,3] [
 kP 141 3 4 3,kC 142 99 141,kn (.st (some 2) 4 (ux 2) (ux 142))])
 .ret)
 .skip))
 (.seq (.regN [2,3] [
 kP 143 3 4 3,kn (.st (some 2) 4 (ux 2) (ux 143))])
 .ret)))))))))
def t98:AFn:=⟨1,t98B,
 [.cell 2 4 true],false⟩
def t101B:AC:=(.seq (.regN [0] [
 kx 2 (.mv (.con (.val (.int .u8 0))))])
 (.seq (.regD [0] 0 [
 kM 4 0,kx 5 (.nilc (ux 4)),kF 6 0 5,kL 7 6,kM 8 0,kx 9 (.nilc (ux 8)),kF 10 1 9,kL 11 10,kx 12 (.ixS (ux 7) (ux 11)),kM 3 12])
 (.seq (.regN [0,3] [
 kM 13 0,kx 14 (.nilc (ux 13)),kF 15 1 14,kL 16 15,kU 17 16,kx 18 (.nilc (ux 13)),kF 19 1 18,kn (.st none 1 (ux 19) (ux 17))])
 (.seq (.seq (.regN [0,3] [
 kM 20 3,kx 21 (.bini .eql (ux 20) (.con (.val (.int .u8 92))))])
 (.cond (ux 21)
 (.seq (.regN [0] [
 kM 22 0,kC 23 100 22,kM 2 23])
 .ret)
 .skip))
 (.seq (.regN [3] [
 kM 24 3,kM 2 24])
 .ret)))))
def t101:AFn:=⟨1,t101B,
 [.tmp 2],false⟩
def t100L1:AC:=(.seq (.seq (.regN [0,4,5] [
 kM 38 5,kx 39 (.bini .leq (ux 38) (.con (.val (.int .i64 2))))])
 (.cond (ux 39)
 .skip
 (.exit 1)))
 (.seq (.block 2
 (.seq (.seq (.regD [0,4,5] 0 [
 kM 42 0,kx 43 (.nilc (ux 42)),kF 44 1 43,kL 45 44,kM 46 5,kx 47 (.bini .add (ux 45) (ux 46)),kM 48 0,kx 49 (.nilc (ux 48)),kF 50 0 49,kL 51 50,kx 52 (.len true (ux 51)),kx 53 (.bini .geq (ux 47) (ux 52))])
 (.cond (ux 53)
 (.seq (.regN [0] [
 kM 54 0,kM 55 0,kx 56 (.nilc (ux 55)),kF 57 0 56,kL 58 57,kx 59 (.len true (ux 58)),kx 60 (.call 68 [(ux 54),(ux 59),(.con (.val (.int .i64 8)))])])
 (.seq (.regN [] [
 kx 2 (.mv (.con (.val (.int .u8 0))))])
 .ret))
 .skip))
 (.seq (.regD [0,4,5] 0 [
 kM 61 0,kx 62 (.nilc (ux 61)),kF 63 0 62,kL 64 63,kM 65 0,kx 66 (.nilc (ux 65)),kF 67 1 66,kL 68 67,kM 69 5,kx 70 (.bini .add (ux 68) (ux 69)),kx 71 (.ixS (ux 64) (ux 70)),kf 72 (.call 104 [.tmp 71]),kM 6 72])
 (.seq (.seq (.regN [0,4,5,6] [
 kM 73 6,kx 74 (.bini .lss (ux 73) c0)])
 (.cond (ux 74)
 (.seq (.regN [0,5] [
 kM 75 0,kM 76 0,kx 77 (.nilc (ux 76)),kF 78 1 77,kL 79 78,kM 80 5,kx 81 (.bini .add (ux 79) (ux 80)),kx 82 (.call 68 [(ux 75),(ux 81),(.con (.val (.int .i64 7)))])])
 (.seq (.regN [] [
 kx 2 (.mv (.con (.val (.int .u8 0))))])
 .ret))
 .skip))
 (.regN [0,4,5,6] [
 kM 83 4,kx 84 (.bini .mul (.con (.val (.int .i64 16))) (ux 83)),kM 85 6,kx 86 (.bini .add (ux 84) (ux 85)),kM 4 86])))))
 (.regN [0,4,5] [
 kM 40 5,kU 41 40,kM 5 41])))
def t100B:AC:=(.seq (.regN [0] [
 kx 2 (.mv (.con (.val (.int .u8 0))))])
 (.seq (.seq (.regN [0] [
 kM 7 0,kC 8 67 7,kx 9 (.not (ux 8))])
 (.cond (ux 9)
 (.seq (.regN [0] [
 kM 10 0,kM 11 0,kx 12 (.nilc (ux 11)),kF 13 0 12,kL 14 13,kx 15 (.len true (ux 14)),kx 16 (.call 68 [(ux 10),(ux 15),(.con (.val (.int .i64 8)))])])
 (.seq (.regN [] [
 kx 2 (.mv (.con (.val (.int .u8 0))))])
 .ret))
 .skip))
 (.seq (.regD [0] 0 [
 kM 17 0,kx 18 (.nilc (ux 17)),kF 19 0 18,kL 20 19,kM 21 0,kx 22 (.nilc (ux 21)),kF 23 1 22,kL 24 23,kx 25 (.ixS (ux 20) (ux 24)),kM 3 25])
 (.seq (.block 0
 (.seq (.regN [0,3] [
 kM 27 3,kx 28 (.bini .eql (ux 27) (.con (.val (.int .u8 110)))),kM 26 28])
 (.cond (ux 26)
 (.regN [0] [
 kx 3 (.mv (.con (.val (.int .u8 10))))])
 (.seq (.regN [0,3] [
 kM 30 3,kx 31 (.bini .eql (ux 30) (.con (.val (.int .u8 116)))),kM 29 31])
 (.cond (ux 29)
 (.regN [0] [
 kx 3 (.mv (.con (.val (.int .u8 9))))])
 (.seq (.regN [0,3] [
 kM 33 3,kx 34 (.bini .eql (ux 33) (.con (.val (.int .u8 114)))),kM 32 34])
 (.cond (ux 32)
 (.regN [0] [
 kx 3 (.mv (.con (.val (.int .u8 13))))])
 (.seq (.regN [0,3] [
 kM 36 3,kx 37 (.bini .eql (ux 36) (.con (.val (.int .u8 120)))),kM 35 37])
 (.cond (ux 35)
 (.seq (.regN [0] [
 kZ 4])
 (.seq (.seq (.regN [0,4] [
 kx 5 (.mv c1)])
 (.block 1
 (.loop [0,4,5] t100L1)))
 (.seq (.regN [0,4] [
 kM 87 0,kM 88 0,kx 89 (.nilc (ux 88)),kF 90 1 89,kL 91 90,kx 92 (.bini .add (ux 91) (.con (.val (.int .i64 2)))),kx 93 (.nilc (ux 87)),kF 94 1 93,kn (.st none 1 (ux 94) (ux 92))])
 (.regN [0,4] [
 kM 95 4,kx 96 (.cvi .u8 (ux 95)),kM 3 96]))))
 (.seq (.regN [0,3] [
 kM 98 3,kC 99 105 98,kM 97 99])
 (.cond (ux 97)
 (.seq (.regN [0] [
 kM 100 0,kM 101 0,kx 102 (.nilc (ux 101)),kF 103 1 102,kL 104 103,kx 105 (.call 68 [(ux 100),(ux 104),(.con (.val (.int .i64 7)))])])
 (.seq (.regN [] [
 kx 2 (.mv (.con (.val (.int .u8 0))))])
 .ret))
 .skip)))))))))))
 (.seq (.regN [0,3] [
 kM 106 0,kx 107 (.nilc (ux 106)),kF 108 1 107,kL 109 108,kU 110 109,kx 111 (.nilc (ux 106)),kF 112 1 111,kn (.st none 1 (ux 112) (ux 110))])
 (.seq (.regN [3] [
 kM 113 3,kM 2 113])
 .ret))))))
def t100:AFn:=⟨1,t100B,
 [.tmp 2],false⟩
def t104B:AC:=(.seq (.regN [0] [
 kZ 2])
 (.seq (.block 0
 (.seq (.regN [0] [
 kM 4 0,kx 5 (.bini .geq (ux 4) (.con (.val (.int .u8 48)))),kM 6 5,yM 7 6 0,ky 8 6 (.bini .leq (ux 7) (.con (.val (.int .u8 57)))),kx 9 (.pick (ux 6) (ux 8) cF),kM 3 9])
 (.cond (ux 3)
 (.seq (.regN [0] [
 kM 10 0,kx 11 (.bini .sub (ux 10) (.con (.val (.int .u8 48)))),kx 12 (.cvi .i64 (ux 11)),kM 2 12])
 .ret)
 (.seq (.regN [0] [
 kM 14 0,kx 15 (.bini .geq (ux 14) (.con (.val (.int .u8 97)))),kM 16 15,yM 17 16 0,ky 18 16 (.bini .leq (ux 17) (.con (.val (.int .u8 102)))),kx 19 (.pick (ux 16) (ux 18) cF),kM 13 19])
 (.cond (ux 13)
 (.seq (.regN [0] [
 kM 20 0,kx 21 (.bini .sub (ux 20) (.con (.val (.int .u8 97)))),kx 22 (.cvi .i64 (ux 21)),kx 23 (.bini .add (ux 22) (.con (.val (.int .i64 10)))),kM 2 23])
 .ret)
 (.seq (.regN [0] [
 kM 25 0,kx 26 (.bini .geq (ux 25) (.con (.val (.int .u8 65)))),kM 27 26,yM 28 27 0,ky 29 27 (.bini .leq (ux 28) (.con (.val (.int .u8 70)))),kx 30 (.pick (ux 27) (ux 29) cF),kM 24 30])
 (.cond (ux 24)
 (.seq (.regN [0] [
 kM 31 0,kx 32 (.bini .sub (ux 31) (.con (.val (.int .u8 65)))),kx 33 (.cvi .i64 (ux 32)),kx 34 (.bini .add (ux 33) (.con (.val (.int .i64 10)))),kM 2 34])
 .ret)
 .skip)))))))
 (.seq (.regN [] [
 kx 2 (.mv (.con (.val (.int .i64 (-1)))))])
 .ret)))
def t104:AFn:=⟨1,t104B,
 [.tmp 2],true⟩
def t105B:AC:=(.seq (.regN [0] [
 kx 2 (.mv cF)])
 (.seq (.regN [0] [
 kM 3 0,kx 4 (.bini .geq (ux 3) (.con (.val (.int .u8 48)))),kM 5 4,yM 6 5 0,ky 7 5 (.bini .leq (ux 6) (.con (.val (.int .u8 57)))),kx 8 (.pick (ux 5) (ux 7) cF),kM 9 8,zM 10 9 0,kz 11 9 (.bini .geq (ux 10) (.con (.val (.int .u8 97)))),zM 12 9 11,yM 13 12 0,ky 14 12 (.bini .leq (ux 13) (.con (.val (.int .u8 122)))),kz 15 9 (.pick (ux 12) (ux 14) cF),kO 16 9 15,kM 17 16,zM 18 17 0,kz 19 17 (.bini .geq (ux 18) (.con (.val (.int .u8 65)))),zM 20 17 19,yM 21 20 0,ky 22 20 (.bini .leq (ux 21) (.con (.val (.int .u8 90)))),kz 23 17 (.pick (ux 20) (ux 22) cF),kO 24 17 23,kM 2 24])
 .ret))
def t105:AFn:=⟨1,t105B,
 [.tmp 2],true⟩
def t103L1:AC:=(.seq (.seq (.regN [1,4,5,6] [
 kM 10 6,kM 11 1,kx 12 (.cvi .i64 (ux 11)),kx 13 (.bini .leq (ux 10) (ux 12))])
 (.cond (ux 13)
 .skip
 (.exit 0)))
 (.seq (.block 1
 (.regN [1,4,5,6] [
 kP 16 5 4 5,kM 17 6,kx 18 (.cvi .u8 (ux 17)),kx 19 (.call 52 [(ux 16),(ux 18)]),kn (.st (some 5) 4 (ux 5) (ux 19))]))
 (.regN [1,4,5,6] [
 kM 14 6,kU 15 14,kM 6 15])))
def t103B:AC:=(.seq (.regN [0,1] [
 kx 4 (.allocR [(.val (.int .u64 0)),(.val (.int .u64 0)),(.val (.int .u64 0)),(.val (.int .u64 0))])])
 (.seq (.regN [0,1,4] [
 kx 7 (.build [(.val (.int .u64 0)),(.val (.int .u64 0)),(.val (.int .u64 0)),(.val (.int .u64 0))] []),kx 5 (.allocR [(.val (.int .u64 0)),(.val (.int .u64 0)),(.val (.int .u64 0)),(.val (.int .u64 0))]),kn (.st (some 5) 4 (ux 5) (ux 7))])
 (.seq (.seq (.regN [0,1,4,5] [
 kM 8 0,kx 9 (.cvi .i64 (ux 8)),kM 6 9])
 (.block 0
 (.loop [1,4,5,6] t103L1)))
 (.seq (.regN [4,5] [
 kP 20 5 4 5,kn (.st (some 4) 4 (ux 4) (ux 20))])
 .ret))))
def t103:AFn:=⟨2,t103B,
 [.cell 4 4 true],true⟩
def t52B:AC:=(.seq (.regN [0,1] [
 kB 2 4 0,kx 4 (.allocR [(.val (.int .u64 0)),(.val (.int .u64 0)),(.val (.int .u64 0)),(.val (.int .u64 0))])])
 (.seq (.regN [1,2,4] [
 kM 5 1,kx 6 (.bini .quo (ux 5) (.con (.val (.int .u8 64)))),kM 7 1,kx 8 (.bini .quo (ux 7) (.con (.val (.int .u8 64)))),kx 9 (.ixR 4 1 (ux 2) (ux 8)),kS 10 2 9,kM 11 1,kx 12 (.bini .rem (ux 11) (.con (.val (.int .u8 64)))),kx 13 (.cvi .u64 (ux 12)),kx 14 (.bini .shl (.con (.val (.int .u64 1))) (ux 13)),kx 15 (.bini .or (ux 10) (ux 14)),kx 16 (.ixR 4 1 (ux 2) (ux 6)),kn (.st (some 2) 1 (ux 16) (ux 15))])
 (.seq (.regN [2,4] [
 kP 17 2 4 2,kn (.st (some 4) 4 (ux 4) (ux 17))])
 .ret)))
def t52:AFn:=⟨2,t52B,
 [.cell 4 4 true],true⟩
def t102B:AC:=(.seq (.regN [0,1] [
 kB 2 4 0,kB 3 4 1,kx 4 (.allocR [(.val (.int .u64 0)),(.val (.int .u64 0)),(.val (.int .u64 0)),(.val (.int .u64 0))])])
 (.seq (.regN [2,3,4] [
 kx 5 (.ixR 4 1 (ux 2) c0),kS 6 2 5,kx 7 (.ixR 4 1 (ux 3) c0),kS 8 3 7,kx 9 (.bini .or (ux 6) (ux 8)),kx 10 (.ixR 4 1 (ux 2) c1),kS 11 2 10,kx 12 (.ixR 4 1 (ux 3) c1),kS 13 3 12,kx 14 (.bini .or (ux 11) (ux 13)),kx 15 (.ixR 4 1 (ux 2) (.con (.val (.int .i64 2)))),kS 16 2 15,kx 17 (.ixR 4 1 (ux 3) (.con (.val (.int .i64 2)))),kS 18 3 17,kx 19 (.bini .or (ux 16) (ux 18)),kx 20 (.ixR 4 1 (ux 2) (.con (.val (.int .i64 3)))),kS 21 2 20,kx 22 (.ixR 4 1 (ux 3) (.con (.val (.int .i64 3)))),kS 23 3 22,kx 24 (.bini .or (ux 21) (ux 23)),kx 25 (.build [(.val (.int .u64 0)),(.val (.int .u64 0)),(.val (.int .u64 0)),(.val (.int .u64 0))] [(0,1,(ux 9)),(1,1,(ux 14)),(2,1,(ux 19)),(3,1,(ux 24))]),kn (.st (some 4) 4 (ux 4) (ux 25))])
 .ret))
def t102:AFn:=⟨2,t102B,
 [.cell 4 4 true],true⟩
def t99B:AC:=(.seq (.regN [0] [
 kB 1 4 0,kx 2 (.allocR [(.val (.int .u64 0)),(.val (.int .u64 0)),(.val (.int .u64 0)),(.val (.int .u64 0))])])
 (.seq (.regN [1,2] [
 kx 3 (.ixR 4 1 (ux 1) c0),kS 4 1 3,kx 5 (.xori (ux 4)),kx 6 (.ixR 4 1 (ux 1) c1),kS 7 1 6,kx 8 (.xori (ux 7)),kx 9 (.ixR 4 1 (ux 1) (.con (.val (.int .i64 2)))),kS 10 1 9,kx 11 (.xori (ux 10)),kx 12 (.ixR 4 1 (ux 1) (.con (.val (.int .i64 3)))),kS 13 1 12,kx 14 (.xori (ux 13)),kx 15 (.build [(.val (.int .u64 0)),(.val (.int .u64 0)),(.val (.int .u64 0)),(.val (.int .u64 0))] [(0,1,(ux 5)),(1,1,(ux 8)),(2,1,(ux 11)),(3,1,(ux 14))]),kn (.st (some 2) 4 (ux 2) (ux 15))])
 .ret))
def t99:AFn:=⟨1,t99B,
 [.cell 2 4 true],true⟩
def t77B:AC:=(.seq (.regN [0,1,2,3] [
 kB 6 4 2,kZ 8])
 (.seq (.regD [0,1,3,6] 0 [
 kM 9 0,kM 10 0,kx 11 (.nilc (ux 10)),kF 12 2 11,kL 13 12,kM 14 1,kP 15 6 4 6,kM 16 3,kx 17 (.build [(.val (.int .i64 0)),(.val (.int .u64 0)),(.val (.int .u64 0)),(.val (.int .u64 0)),(.val (.int .u64 0)),.e0] [(0,1,(ux 14)),(1,4,(ux 15)),(5,1,(ux 16))]),kx 18 (.buildS 1 [(.val (.int .i64 0)),(.val (.int .u64 0)),(.val (.int .u64 0)),(.val (.int .u64 0)),(.val (.int .u64 0)),.e0] [(0,6,(ux 17))]),kx 19 (.app 6 64 (ux 13) (ux 18)),kx 20 (.nilc (ux 9)),kF 21 2 20,kn (.st none 1 (ux 21) (ux 19))])
 (.seq (.regN [0] [
 kM 22 0,kx 23 (.nilc (ux 22)),kF 24 2 23,kL 25 24,kN 26 25,kx 27 (.bini .sub (ux 26) c1),kM 8 27])
 .ret)))
def t77:AFn:=⟨4,t77B,
 [.tmp 8],false⟩
def t32L1:AC:=(.seq (.seq (.regN [0,2,3,4] [
 kM 6 4,kM 7 0,kx 8 (.len true (ux 7)),kT 9 6 8])
 (.cond (ux 9)
 .skip
 (.exit 0)))
 (.seq (.block 1
 (.regD [0,2,3,4] 0 [
 kP 12 3 4 3,kM 13 0,kM 14 4,kx 15 (.ixS (ux 13) (ux 14)),kf 16 (.call 52 [(ux 12),(ux 15)]),kn (.st (some 3) 4 (ux 3) (ux 16))]))
 (.regN [0,2,3,4] [
 kM 10 4,kU 11 10,kM 4 11])))
def t32B:AC:=(.seq (.regN [0] [
 kx 2 (.allocR [(.val (.int .u64 0)),(.val (.int .u64 0)),(.val (.int .u64 0)),(.val (.int .u64 0))])])
 (.seq (.regN [0,2] [
 kx 5 (.build [(.val (.int .u64 0)),(.val (.int .u64 0)),(.val (.int .u64 0)),(.val (.int .u64 0))] []),kx 3 (.allocR [(.val (.int .u64 0)),(.val (.int .u64 0)),(.val (.int .u64 0)),(.val (.int .u64 0))]),kn (.st (some 3) 4 (ux 3) (ux 5))])
 (.seq (.seq (.regN [0,2,3] [
 kZ 4])
 (.block 0
 (.loop [0,2,3,4] t32L1)))
 (.seq (.regN [2,3] [
 kP 17 3 4 3,kn (.st (some 2) 4 (ux 2) (ux 17))])
 .ret))))
def t32:AFn:=⟨1,t32B,
 [.cell 2 4 true],true⟩
def t13R1:AC:=(.block 5
 (.seq (.regN [60,2,7,8,9,11,33,37,38,39,57] [
 kE 61 60 0,kM 12 61])
 (.regN [2,7,8,9,11,12,33,37,38,39,57] [
 kM 62 7,kx 63 (.nilc (ux 62)),kF 64 0 63,kF 65 2 64,kL 66 65,kM 67 12,kM 68 9,kI 69 1 66 67,kn (.st none 1 (ux 69) (ux 68))])))
def t13L2:AC:=(.seq (.regN [0,2,19,20,21] [
 kT 22 21 20])
 (.seq (.cond (ux 22)
 .skip
 (.exit 0))
 (.seq (.block 1
 (.seq (.regN [0,2,19,20,21] [
 kI 23 1 19 21,kL 24 23,kM 5 24])
 (.seq (.regN [0,2,5,19,20,21] [
 kM 25 5,kC 26 36 25,kM 6 26])
 (.seq (.regN [0,2,6,19,20,21] [
 kM 27 6,kx 28 (.bini .neq (ux 27) c0)])
 (.cond (ux 28)
 (.seq (.regN [2,6] [
 kx 29 (.build [.e0,.e0,.e0] []),kM 30 6,kn (.st none 3 (ux 2) (ux 29)),kM 3 30])
 .ret)
 .skip)))))
 (.regN [0,2,19,20,21] [
 kU 31 21,kM 21 31]))))
def t13L3:AC:=(.seq (.regN [2,7,8,33,37,38,39] [
 kT 40 39 38])
 (.seq (.cond (ux 40)
 .skip
 (.exit 2))
 (.seq (.block 3
 (.seq (.regN [2,7,8,33,37,38,39] [
 kM 41 39,kI 42 1 37 39,kL 43 42,kM 9 41,kM 10 43])
 (.seq (.regN [2,7,8,9,10,33,37,38,39] [
 kM 44 7,kM 45 10,kM 46 10,kN 47 46,kx 48 (.bini .sub (ux 47) c1),kx 49 (.call 38 [(ux 44),(ux 45),(ux 48)]),kx 11 (.allocH [(.val (.bool false)),(.val (.map none)),(.val (.map none))]),kn (.st none 3 (ux 11) (ux 49))])
 (.seq (.regN [2,7,8,9,11,33,37,38,39] [
 kM 50 7,kM 51 8,kF 52 1 11,kL 53 52,kx 54 (.call 39 [(ux 50),(ux 51),(ux 53)])])
 (.seq (.seq (.regN [2,7,8,9,11,33,37,38,39] [
 kF 55 2 11,kL 56 55])
 (.rangeM [2,7,8,9,11,33,37,38,39] (preN 13 57) (ux 56) 57 60 t13R1))
 (.seq (.regN [2,7,8,9,11,33,37,38,39] [
 kF 70 0 11,kL 71 70,kM 72 71,yM 73 72 7,ky 74 72 (.nilc (ux 73)),yF 75 72 0 74,yF 76 72 2 75,yL 77 72 76,ky 78 72 (.ixA 1 (ux 77) c0),yL 79 72 78,ky 80 72 (.bini .lss (ux 79) c0),kx 81 (.pick (ux 72) (ux 80) cF)])
 (.cond (ux 81)
 (.regN [2,7,8,9,33,37,38,39] [
 kM 82 7,kx 83 (.nilc (ux 82)),kF 84 0 83,kF 85 2 84,kL 86 85,kM 87 9,kx 88 (.ixA 1 (ux 86) c0),kn (.st none 1 (ux 88) (ux 87))])
 .skip)))))))
 (.regN [2,7,8,33,37,38,39] [
 kU 89 39,kM 39 89]))))
def t13L4:AC:=(.seq (.regN [2,7,33,100,101,102] [
 kT 103 102 101])
 (.seq (.cond (ux 103)
 .skip
 (.exit 6))
 (.seq (.block 7
 (.seq (.regN [2,7,33,100,101,102] [
 kI 104 1 100 102,kL 105 104,kM 14 105])
 (.regD [2,7,14,33,100,101,102] 0 [
 kM 106 7,kM 107 7,kx 108 (.nilc (ux 107)),kF 109 0 108,kF 110 1 109,kL 111 110,kM 112 14,kC 113 41 112,kC 114 40 113,kx 115 (.buildS 1 [.e0] [(0,1,(ux 114))]),kx 116 (.app 1 24 (ux 111) (ux 115)),kx 117 (.nilc (ux 106)),kF 118 0 117,kF 119 1 118,kn (.st none 1 (ux 119) (ux 116))])))
 (.regN [2,7,33,100,101,102] [
 kU 120 102,kM 102 120]))))
def t13B:AC:=(.seq (.regN [0] [
 kx 2 (.allocH [.e0,.e0,.e0]),kZ 3])
 (.seq (.seq (.regN [0,2] [
 kM 15 0,kN 16 15,kx 17 (.bini .gtr (ux 16) (.con (.val (.int .i64 16))))])
 (.cond (ux 17)
 (.seq (.regN [2] [
 kx 18 (.build [.e0,.e0,.e0] []),kn (.st none 3 (ux 2) (ux 18)),kx 3 (.mv (.con (.val (.int .i64 3))))])
 .ret)
 .skip))
 (.seq (.seq (.regN [0,2] [
 kM 19 0,kN 20 19,kZ 21])
 (.block 0
 (.loop [0,2,19,20,21] t13L2)))
 (.seq (.regN [0,2] [
 kx 32 (.build [.e0,.e0,.e0,.e0] []),kx 33 (.boxH 4 (ux 32)),kM 7 33])
 (.seq (.regN [0,2,7,33] [
 kM 34 7,kx 35 (.build [(.val (.int .u64 0)),(.val (.int .u64 0)),(.val (.int .u64 0)),(.val (.int .u64 0))] []),kx 36 (.call 37 [(ux 34),(ux 35)]),kM 8 36])
 (.seq (.seq (.regN [0,2,7,8,33] [
 kM 37 0,kN 38 37,kZ 39])
 (.block 2
 (.loop [2,7,8,33,37,38,39] t13L3)))
 (.seq (.seq (.regN [2,7,33] [
 kM 90 7,kx 91 (.nilc (ux 90)),kF 92 3 91,kL 93 92,kN 94 93,kx 95 (.bini .gtr (ux 94) (.con (.val (.int .i64 1024))))])
 (.cond (ux 95)
 (.seq (.regN [2] [
 kx 96 (.build [.e0,.e0,.e0] []),kn (.st none 3 (ux 2) (ux 96)),kx 3 (.mv (.con (.val (.int .i64 10))))])
 .ret)
 .skip))
 (.seq (.seq (.regN [2,7,33] [
 kM 97 7,kx 98 (.nilc (ux 97)),kF 99 3 98,kL 100 99,kN 101 100,kZ 102])
 (.block 6
 (.loop [2,7,33,100,101,102] t13L4)))
 (.seq (.regN [2,7,33] [
 kM 121 7,kx 122 (.nilc (ux 121)),kF 123 0 122,kx 124 (.ldA none 3 (ux 123)),kn (.st none 3 (ux 2) (ux 124)),kZ 3])
 .ret)))))))))
def t13:AFn:=⟨1,t13B,
 [.cell 2 3 true,.tmp 3],true⟩
def t36L1:AC:=(.seq (.regN [0,3,4,22,23,24,64,65,66] [
 kT 67 66 65])
 (.seq (.cond (ux 67)
 .skip
 (.exit 2))
 (.seq (.block 3
 (.seq (.regN [0,3,4,22,23,24,64,65,66] [
 kI 68 1 64 66,kL 69 68,kM 10 69])
 (.seq (.seq (.regN [0,3,4,10,22,23,24,64,65,66] [
 kM 70 10,kx 71 (.bini .lss (ux 70) c0),kM 72 71,zM 73 72 10,zM 74 72 4,kz 75 72 (.bini .geq (ux 73) (ux 74)),kO 76 72 75])
 (.cond (ux 76)
 (.seq (.regN [] [
 kx 2 (.mv (.con (.val (.int .i64 2))))])
 .ret)
 .skip))
 (.regN [0,3,4,10,22,23,24,64,65,66] [
 kM 77 3,kM 78 10,kI 79 1 77 78,kL 80 79,kU 81 80,kI 82 1 77 78,kn (.st none 1 (ux 82) (ux 81))]))))
 (.regN [0,3,4,22,23,24,64,65,66] [
 kU 83 66,kM 66 83]))))
def t36L2:AC:=(.seq (.regN [0,3,22,23,24] [
 kT 25 24 23])
 (.seq (.cond (ux 25)
 .skip
 (.exit 0))
 (.seq (.block 1
 (.seq (.regN [0,3,22,23,24] [
 kM 26 24,kI 27 6 22 24,kx 28 (.ldA none 6 (ux 27)),kx 5 (.allocR [(.val (.int .i64 0)),(.val (.int .u64 0)),(.val (.int .u64 0)),(.val (.int .u64 0)),(.val (.int .u64 0)),.e0]),kM 4 26,kn (.st (some 5) 6 (ux 5) (ux 28))])
 (.seq (.regN [0,3,4,5,22,23,24] [
 kF 30 0 5,kS 31 5 30,kC 32 57 31,kM 29 32,kE 33 29 0,kE 34 29 1,kE 35 29 2,kM 6 33,kM 7 34,kM 8 35])
 (.seq (.seq (.regN [0,3,4,5,6,7,8,22,23,24] [
 kM 36 8,kx 37 (.not (ux 36)),kM 38 37,zF 39 38 5 5,zS 40 38 5 39,zN 41 38 40,zM 42 38 6,kz 43 38 (.bini .lss (ux 41) (ux 42)),kO 44 38 43,kM 45 44,zF 46 45 5 5,zS 47 45 5 46,zN 48 45 47,zM 49 45 7,kz 50 45 (.bini .gtr (ux 48) (ux 49)),kO 51 45 50,kM 52 51,zF 53 52 0 5,zS 54 52 5 53,kz 55 52 (.bini .neq (ux 54) (.con (.val (.int .i64 2)))),zM 56 52 55,yF 57 56 1 5,ky 58 56 (.ldA (some 5) 4 (ux 57)),ky 59 56 (.build [(.val (.int .u64 0)),(.val (.int .u64 0)),(.val (.int .u64 0)),(.val (.int .u64 0))] []),ky 60 56 (.eqa true [1,1,1,1] (ux 58) (ux 59)),kz 61 52 (.pick (ux 56) (ux 60) cF),kO 62 52 61])
 (.cond (ux 62)
 (.seq (.regN [] [
 kx 2 (.mv (.con (.val (.int .i64 2))))])
 .ret)
 .skip))
 (.seq (.regN [0,3,4,5,22,23,24] [
 kF 63 5 5,kS 64 5 63,kN 65 64,kZ 66])
 (.block 2
 (.loop [0,3,4,22,23,24,64,65,66] t36L1)))))))
 (.regN [0,3,22,23,24] [
 kU 84 24,kM 24 84]))))
def t36B:AC:=(.seq (.regN [0] [
 kZ 2])
 (.seq (.seq (.regN [0] [
 kM 11 0,kN 12 11,kx 13 (.bini .lss (ux 12) c1),kM 14 13,zM 15 14 0,zN 16 14 15,kz 17 14 (.bini .gtr (ux 16) (.con (.val (.int .i64 512)))),kO 18 14 17])
 (.cond (ux 18)
 (.seq (.regN [] [
 kx 2 (.mv (.con (.val (.int .i64 2))))])
 .ret)
 .skip))
 (.seq (.regN [0] [
 kM 19 0,kN 20 19,kx 21 (.mks 1 8 [(.val (.int .i64 0))] (ux 20)),kM 3 21])
 (.seq (.seq (.regN [0,3] [
 kM 22 0,kN 23 22,kZ 24])
 (.block 0
 (.loop [0,3,22,23,24] t36L2)))
 (.seq (.seq (.regN [0,3] [
 kM 85 3,kM 86 0,kN 87 86,kx 88 (.bini .sub (ux 87) c1),kx 89 (.slC 1 (ux 85) none (some (ux 88))),kx 90 (.call 58 [(ux 89),(.con (.fn 59 []))])])
 (.cond (ux 90)
 (.seq (.regN [] [
 kx 2 (.mv (.con (.val (.int .i64 2))))])
 .ret)
 .skip))
 (.seq (.regN [] [
 kZ 2])
 .ret))))))
def t36:AFn:=⟨1,t36B,
 [.tmp 2],true⟩
def t57B:AC:=(.seq (.regN [0] [
 kZ 2,kZ 3,kx 4 (.mv cF)])
 (.seq (.seq (.regN [0] [
 kM 5 0])
 (.block 0
 (.seq (.seq (.regN [5] [
 kx 7 (.bini .eql (ux 5) c1),kM 6 7])
 (.cond (ux 6)
 .skip
 (.regN [5] [
 kx 8 (.bini .eql (ux 5) (.con (.val (.int .i64 2)))),kM 6 8])))
 (.cond (ux 6)
 (.seq (.regN [] [
 kZ 2,kZ 3,kx 4 (.mv cT)])
 .ret)
 (.seq (.seq (.regN [5] [
 kx 10 (.bini .eql (ux 5) (.con (.val (.int .i64 3)))),kM 9 10])
 (.cond (ux 9)
 .skip
 (.regN [5] [
 kx 11 (.bini .eql (ux 5) (.con (.val (.int .i64 4)))),kM 9 11])))
 (.cond (ux 9)
 (.seq (.regN [] [
 kx 2 (.mv (.con (.val (.int .i64 2)))),kx 3 (.mv (.con (.val (.int .i64 512)))),kx 4 (.mv cT)])
 .ret)
 (.seq (.seq (.regN [5] [
 kx 13 (.bini .eql (ux 5) (.con (.val (.int .i64 5)))),kM 12 13])
 (.cond (ux 12)
 .skip
 (.seq (.regN [5] [
 kx 14 (.bini .eql (ux 5) (.con (.val (.int .i64 6)))),kM 12 14])
 (.cond (ux 12)
 .skip
 (.regN [5] [
 kx 15 (.bini .eql (ux 5) (.con (.val (.int .i64 7)))),kM 12 15])))))
 (.cond (ux 12)
 (.seq (.regN [] [
 kx 2 (.mv c1),kx 3 (.mv c1),kx 4 (.mv cT)])
 .ret)
 .skip))))))))
 (.seq (.regN [] [
 kZ 2,kZ 3,kx 4 (.mv cF)])
 .ret)))
def t57:AFn:=⟨1,t57B,
 [.tmp 2,.tmp 3,.tmp 4],true⟩
def t58B:AC:=(.seq (.regN [0,1] [
 kx 4 (.mv cF)])
 (.seq (.regN [0,1] [
 kM 5 0,kM 6 1,kx 7 (.call 71 [(ux 5),(ux 6)]),kx 8 (.bini .geq (ux 7) c0),kM 4 8])
 .ret))
def t58:AFn:=⟨2,t58B,
 [.tmp 4],true⟩
def t71L1:AC:=(.seq (.regN [0,1,7,8] [
 kT 9 8 7])
 (.seq (.cond (ux 9)
 .skip
 (.exit 0))
 (.seq (.block 1
 (.seq (.regN [0,1,7,8] [
 kM 10 8,kM 5 10])
 (.seq (.regN [0,1,5,7,8] [
 kM 11 1,kM 12 0,kM 13 5,kI 14 1 12 13,kL 15 14,kx 16 (.callv (ux 11) [.tmp 15])])
 (.cond (ux 16)
 (.seq (.regN [5] [
 kM 17 5,kM 4 17])
 .ret)
 .skip))))
 (.regN [0,1,7,8] [
 kU 18 8,kM 8 18]))))
def t71B:AC:=(.seq (.regN [0,1] [
 kZ 4])
 (.seq (.seq (.regN [0,1] [
 kM 6 0,kN 7 6,kZ 8])
 (.block 0
 (.loop [0,1,7,8] t71L1)))
 (.seq (.regN [] [
 kx 4 (.mv (.con (.val (.int .i64 (-1)))))])
 .ret)))
def t71:AFn:=⟨2,t71B,
 [.tmp 4],true⟩
def t59B:AC:=(.seq (.regN [0] [
 kx 2 (.mv cF)])
 (.seq (.regN [0] [
 kM 3 0,kx 4 (.bini .neq (ux 3) c1),kM 2 4])
 .ret))
def t59:AFn:=⟨1,t59B,
 [.tmp 2],true⟩
def t37B:AC:=(.seq (.regN [0,1] [
 kB 3 4 1,kx 4 (.mv (.con (.val (.map none))))])
 (.seq (.regN [0,3] [
 kM 6 0,kx 7 (.nilc (ux 6)),kF 8 3 7,kL 9 8,kN 10 9,kM 5 10])
 (.seq (.regD [0,3,5] 1 [
 kM 11 0,kM 12 0,kM 13 0,kM 14 0,kx 15 (.nilc (ux 14)),kF 16 0 15,kF 17 0 16,kL 18 17,kP 19 3 4 3,kx 20 (.buildS 1 [(.val (.int .u64 0)),(.val (.int .u64 0)),(.val (.int .u64 0)),(.val (.int .u64 0))] [(0,4,(ux 19))]),kf 21 (.app 4 32 (ux 18) (ux 20)),kM 22 0,kx 23 (.nilc (ux 22)),kF 24 0 23,kF 25 2 24,kL 26 25,kx 27 (.buildS 1 [(.val (.int .i64 0))] [(0,1,(.con (.val (.int .i64 (-1)))))]),kf 28 (.app 1 8 (ux 26) (ux 27)),kM 29 0,kx 30 (.nilc (ux 29)),kF 31 3 30,kL 32 31,kx 33 (.mkm),kx 34 (.buildS 1 [(.val (.map none))] [(0,1,(ux 33))]),kx 35 (.app 1 8 (ux 32) (ux 34)),kx 36 (.nilc (ux 11)),kF 37 0 36,kF 38 0 37,kn (.st none 1 (ux 38) (ux 21)),kx 39 (.nilc (ux 12)),kF 40 0 39,kF 41 2 40,kn (.st none 1 (ux 41) (ux 28)),kx 42 (.nilc (ux 13)),kF 43 3 42,kn (.st none 1 (ux 43) (ux 35))])
 (.seq (.regN [5] [
 kx 44 (.mkm),kM 45 5,kx 46 (.build [] []),kn (.mup false [1] (ux 44) (ux 45) (ux 46)),kM 47 44,kM 4 47])
 .ret))))
def t37:AFn:=⟨2,t37B,
 [.tmp 4],false⟩
def t38L1:AC:=(.seq (.regN [0,1,6,9,48,49,50] [
 kT 51 50 49])
 (.seq (.cond (ux 51)
 .skip
 (.exit 1))
 (.seq (.block 2
 (.seq (.regN [0,1,6,9,48,49,50] [
 kI 52 1 48 50,kL 53 52,kM 11 53])
 (.regD [0,1,6,9,11,48,49,50] 0 [
 kM 54 0,kP 55 9 3 9,kM 56 0,kM 57 1,kM 58 11,kf 59 (.call 38 [(ux 56),(ux 57),(ux 58)]),kf 60 (.call 60 [(ux 54),(ux 55),(ux 59)]),kn (.st (some 9) 3 (ux 9) (ux 60))])))
 (.regN [0,1,6,9,48,49,50] [
 kU 61 50,kM 50 61]))))
def t38L2:AC:=(.seq (.regN [0,1,6,12,69,70,71] [
 kT 72 71 70])
 (.seq (.cond (ux 72)
 .skip
 (.exit 3))
 (.seq (.block 4
 (.seq (.regN [0,1,6,12,69,70,71] [
 kI 73 1 69 71,kL 74 73,kM 14 74])
 (.seq (.regN [0,1,6,12,14,69,70,71] [
 kM 75 0,kM 76 1,kM 77 14,kx 78 (.call 38 [(ux 75),(ux 76),(ux 77)]),kx 15 (.allocR [(.val (.bool false)),(.val (.map none)),(.val (.map none))]),kn (.st (some 15) 3 (ux 15) (ux 78))])
 (.regD [0,1,6,12,15,69,70,71] 0 [
 kF 79 0 12,kS 80 12 79,kM 81 80,zF 82 81 0 15,zS 83 81 15 82,kO 84 81 83,kF 85 1 12,kS 86 12 85,kF 87 1 15,kS 88 15 87,kx 89 (.buildS 2 [(.val (.map none)),(.val (.map none))] [(0,1,(ux 86)),(1,1,(ux 88))]),kf 90 (.call 61 [.tmp 89]),kF 91 2 12,kS 92 12 91,kF 93 2 15,kS 94 15 93,kx 95 (.buildS 2 [(.val (.map none)),(.val (.map none))] [(0,1,(ux 92)),(1,1,(ux 94))]),kf 96 (.call 61 [.tmp 95]),kx 97 (.build [(.val (.bool false)),(.val (.map none)),(.val (.map none))] [(0,1,(ux 84)),(1,1,(ux 90)),(2,1,(ux 96))]),kn (.st (some 12) 3 (ux 12) (ux 97))]))))
 (.regN [0,1,6,12,69,70,71] [
 kU 98 71,kM 71 98]))))
def t38B:AC:=(.seq (.regN [0,1,2] [
 kx 6 (.allocR [(.val (.bool false)),(.val (.map none)),(.val (.map none))])])
 (.seq (.regN [0,1,2,6] [
 kM 17 1,kM 18 2,kI 19 6 17 18,kx 20 (.ldA none 6 (ux 19)),kx 7 (.allocR [(.val (.int .i64 0)),(.val (.int .u64 0)),(.val (.int .u64 0)),(.val (.int .u64 0)),(.val (.int .u64 0)),.e0]),kn (.st (some 7) 6 (ux 7) (ux 20))])
 (.seq (.seq (.regN [0,1,6,7] [
 kF 21 0 7,kS 22 7 21])
 (.block 0
 (.seq (.regN [0,1,6,7,22] [
 kx 24 (.bini .eql (ux 22) c1),kM 23 24])
 (.cond (ux 23)
 (.seq (.regN [6] [
 kx 25 (.mkm),kx 26 (.mkm),kx 27 (.build [(.val (.bool false)),(.val (.map none)),(.val (.map none))] [(0,1,cT),(1,1,(ux 25)),(2,1,(ux 26))]),kn (.st (some 6) 3 (ux 6) (ux 27))])
 .ret)
 (.seq (.regN [0,1,6,7,22] [
 kx 29 (.bini .eql (ux 22) (.con (.val (.int .i64 2)))),kM 28 29])
 (.cond (ux 28)
 (.seq (.regN [0,6,7] [
 kM 30 0,kF 31 1 7,kP 32 7 4 31,kx 33 (.call 37 [(ux 30),(ux 32)]),kM 8 33])
 (.seq (.regN [6,8] [
 kM 34 8,kM 35 8,kx 36 (.build [(.val (.bool false)),(.val (.map none)),(.val (.map none))] [(0,1,cF),(1,1,(ux 34)),(2,1,(ux 35))]),kn (.st (some 6) 3 (ux 6) (ux 36))])
 .ret))
 (.seq (.regN [0,1,6,7,22] [
 kx 38 (.bini .eql (ux 22) (.con (.val (.int .i64 3)))),kM 37 38])
 (.cond (ux 37)
 (.seq (.regN [0,1,6,7] [
 kM 39 0,kM 40 1,kF 41 5 7,kS 42 7 41,kx 43 (.ixA 1 (ux 42) c0),kL 44 43,kx 45 (.call 38 [(ux 39),(ux 40),(ux 44)]),kx 9 (.allocR [(.val (.bool false)),(.val (.map none)),(.val (.map none))]),kn (.st (some 9) 3 (ux 9) (ux 45))])
 (.seq (.seq (.regN [0,1,6,7,9] [
 kF 46 5 7,kS 47 7 46,kx 48 (.slC 1 (ux 47) (some c1) none),kN 49 48,kZ 50])
 (.block 1
 (.loop [0,1,6,9,48,49,50] t38L1)))
 (.seq (.regN [6,9] [
 kP 62 9 3 9,kn (.st (some 6) 3 (ux 6) (ux 62))])
 .ret)))
 (.seq (.regN [0,1,6,7,22] [
 kx 64 (.bini .eql (ux 22) (.con (.val (.int .i64 4)))),kM 63 64])
 (.cond (ux 63)
 (.seq (.regN [0,1,6,7] [
 kx 65 (.mkm),kx 66 (.mkm),kx 67 (.build [(.val (.bool false)),(.val (.map none)),(.val (.map none))] [(0,1,cF),(1,1,(ux 65)),(2,1,(ux 66))]),kx 12 (.allocR [(.val (.bool false)),(.val (.map none)),(.val (.map none))]),kn (.st (some 12) 3 (ux 12) (ux 67))])
 (.seq (.seq (.regN [0,1,6,7,12] [
 kF 68 5 7,kS 69 7 68,kN 70 69,kZ 71])
 (.block 3
 (.loop [0,1,6,12,69,70,71] t38L2)))
 (.seq (.regN [6,12] [
 kP 99 12 3 12,kn (.st (some 6) 3 (ux 6) (ux 99))])
 .ret)))
 .skip))))))))))
 (.seq (.regN [0,1,6,7] [
 kM 100 0,kM 101 1,kF 102 5 7,kS 103 7 102,kx 104 (.ixA 1 (ux 103) c0),kL 105 104,kx 106 (.call 38 [(ux 100),(ux 101),(ux 105)]),kx 16 (.allocR [(.val (.bool false)),(.val (.map none)),(.val (.map none))]),kn (.st (some 16) 3 (ux 16) (ux 106))])
 (.seq (.seq (.regN [0,6,7,16] [
 kF 107 0 7,kS 108 7 107,kx 109 (.bini .neq (ux 108) (.con (.val (.int .i64 7))))])
 (.cond (ux 109)
 (.regN [0,6,7,16] [
 kM 110 0,kF 111 2 16,kS 112 16 111,kF 113 1 16,kS 114 16 113,kx 115 (.call 39 [(ux 110),(ux 112),(ux 114)])])
 .skip))
 (.seq (.regN [6,7,16] [
 kF 116 0 16,kS 117 16 116,kM 118 117,zF 119 118 0 7,zS 120 118 7 119,kz 121 118 (.bini .neq (ux 120) (.con (.val (.int .i64 6)))),kO 122 118 121,kF 123 0 16,kn (.st (some 16) 1 (ux 123) (ux 122))])
 (.seq (.regN [6,16] [
 kP 124 16 3 16,kn (.st (some 6) 3 (ux 6) (ux 124))])
 .ret)))))))
def t38:AFn:=⟨3,t38B,
 [.cell 6 3 true],false⟩
def t60B:AC:=(.seq (.regN [0,1,2] [
 kB 4 3 1,kB 5 3 2,kx 6 (.allocR [(.val (.bool false)),(.val (.map none)),(.val (.map none))])])
 (.seq (.regN [0,4,5,6] [
 kM 8 0,kF 9 2 4,kS 10 4 9,kF 11 1 5,kS 12 5 11,kx 13 (.call 39 [(ux 8),(ux 10),(ux 12)])])
 (.seq (.regN [4,5,6] [
 kF 14 0 4,kS 15 4 14,kM 16 15,yF 17 16 0 5,yS 18 16 5 17,kx 19 (.pick (ux 16) (ux 18) cF),kF 20 1 4,kS 21 4 20,kF 22 2 5,kS 23 5 22,kx 24 (.build [(.val (.bool false)),(.val (.map none)),(.val (.map none))] [(0,1,(ux 19)),(1,1,(ux 21)),(2,1,(ux 23))]),kx 7 (.allocR [(.val (.bool false)),(.val (.map none)),(.val (.map none))]),kn (.st (some 7) 3 (ux 7) (ux 24))])
 (.seq (.seq (.regN [4,5,6,7] [
 kF 25 0 4,kS 26 4 25])
 (.cond (ux 26)
 (.regN [4,5,6,7] [
 kF 27 1 4,kS 28 4 27,kF 29 1 5,kS 30 5 29,kx 31 (.buildS 2 [(.val (.map none)),(.val (.map none))] [(0,1,(ux 28)),(1,1,(ux 30))]),kC 32 61 31,kF 33 1 7,kn (.st (some 7) 1 (ux 33) (ux 32))])
 .skip))
 (.seq (.seq (.regN [4,5,6,7] [
 kF 34 0 5,kS 35 5 34])
 (.cond (ux 35)
 (.regN [4,5,6,7] [
 kF 36 2 4,kS 37 4 36,kF 38 2 5,kS 39 5 38,kx 40 (.buildS 2 [(.val (.map none)),(.val (.map none))] [(0,1,(ux 37)),(1,1,(ux 39))]),kC 41 61 40,kF 42 2 7,kn (.st (some 7) 1 (ux 42) (ux 41))])
 .skip))
 (.seq (.regN [6,7] [
 kP 43 7 3 7,kn (.st (some 6) 3 (ux 6) (ux 43))])
 .ret))))))
def t60:AFn:=⟨3,t60B,
 [.cell 6 3 true],false⟩
def t39R1:AC:=(.block 1
 (.seq (.regN [11,0,2,8] [
 kE 12 11 0,kM 6 12])
 (.regD [0,2,6,8] 0 [
 kM 13 0,kx 14 (.nilc (ux 13)),kF 15 3 14,kL 16 15,kM 17 6,kM 18 0,kx 19 (.nilc (ux 18)),kF 20 3 19,kL 21 20,kM 22 6,kI 23 1 21 22,kL 24 23,kM 25 2,kx 26 (.buildS 2 [(.val (.map none)),(.val (.map none))] [(0,1,(ux 24)),(1,1,(ux 25))]),kC 27 61 26,kI 28 1 16 17,kn (.st none 1 (ux 28) (ux 27))])))
def t39B:AC:=(.seq (.regN [0,1,2] [
 kM 7 1])
 (.rangeM [0,2] (preN 39 8) (ux 7) 8 11 t39R1))
def t39:AFn:=⟨3,t39B,
 [],false⟩
def t41B:AC:=(.seq (.regN [0] [
 kx 1 (.boxH 1 (ux 0)),kx 2 (.mv (.con (.val .nilFunc)))])
 (.seq (.regN [1] [
 kx 3 (.mkf 64 [.tmp 1]),kM 2 3])
 .ret))
def t41:AFn:=⟨1,t41B,
 [.tmp 2],true⟩
def t31L1:AC:=(.seq (.seq (.regN [0,1,5] [
 kM 11 5,kM 12 0,kN 13 12,kT 14 11 13])
 (.cond (ux 14)
 .skip
 (.exit 0)))
 (.seq (.block 1
 (.seq (.regD [0,1,5] 0 [
 kM 17 0,kM 18 5,kI 19 1 17 18,kL 20 19,kM 21 1,kM 22 5,kI 23 1 21 22,kL 24 23,kf 25 (.call 22 [(ux 20),(ux 24)]),kx 26 (.not (ux 25))])
 (.cond (ux 26)
 (.seq (.regN [] [
 kx 4 (.mv cF)])
 .ret)
 .skip)))
 (.regN [0,1,5] [
 kM 15 5,kU 16 15,kM 5 16])))
def t31B:AC:=(.seq (.regN [0,1] [
 kx 4 (.mv cF)])
 (.seq (.seq (.regN [0,1] [
 kM 6 0,kN 7 6,kM 8 1,kN 9 8,kx 10 (.bini .neq (ux 7) (ux 9))])
 (.cond (ux 10)
 (.seq (.regN [] [
 kx 4 (.mv cF)])
 .ret)
 .skip))
 (.seq (.seq (.regN [0,1] [
 kZ 5])
 (.block 0
 (.loop [0,1,5] t31L1)))
 (.seq (.regN [] [
 kx 4 (.mv cT)])
 .ret))))
def t31:AFn:=⟨2,t31B,
 [.tmp 4],true⟩
def t22L1:AC:=(.seq (.seq (.regN [0,1,5] [
 kM 11 5,kM 12 0,kN 13 12,kT 14 11 13])
 (.cond (ux 14)
 .skip
 (.exit 0)))
 (.seq (.block 1
 (.seq (.regD [0,1,5] 0 [
 kM 17 0,kM 18 5,kI 19 1 17 18,kL 20 19,kM 21 1,kM 22 5,kI 23 1 21 22,kL 24 23,kx 25 (.bini .neq (ux 20) (ux 24))])
 (.cond (ux 25)
 (.seq (.regN [] [
 kx 4 (.mv cF)])
 .ret)
 .skip)))
 (.regN [0,1,5] [
 kM 15 5,kU 16 15,kM 5 16])))
def t22B:AC:=(.seq (.regN [0,1] [
 kx 4 (.mv cF)])
 (.seq (.seq (.regN [0,1] [
 kM 6 0,kN 7 6,kM 8 1,kN 9 8,kx 10 (.bini .neq (ux 7) (ux 9))])
 (.cond (ux 10)
 (.seq (.regN [] [
 kx 4 (.mv cF)])
 .ret)
 .skip))
 (.seq (.seq (.regN [0,1] [
 kZ 5])
 (.block 0
 (.loop [0,1,5] t22L1)))
 (.seq (.regN [] [
 kx 4 (.mv cT)])
 .ret))))
def t22:AFn:=⟨2,t22B,
 [.tmp 4],true⟩
def t24L1:AC:=(.seq (.seq (.regN [0,3] [
 kM 4 3,kM 5 0,kN 6 5,kT 7 4 6])
 (.cond (ux 7)
 .skip
 (.exit 0)))
 (.seq (.block 1
 (.seq (.regN [0,3] [
 kM 10 0,kM 11 3,kI 12 1 10 11,kL 13 12,kx 14 (.call 9 [(ux 13),(.con (.val (.int .i64 40)))]),kx 15 (.not (ux 14))])
 (.cond (ux 15)
 (.seq (.regN [] [
 kx 2 (.mv cF)])
 .ret)
 .skip)))
 (.regN [0,3] [
 kM 8 3,kU 9 8,kM 3 9])))
def t24B:AC:=(.seq (.regN [0] [
 kx 2 (.mv cF)])
 (.seq (.seq (.regN [0] [
 kZ 3])
 (.block 0
 (.loop [0,3] t24L1)))
 (.seq (.regN [0] [
 kM 16 0,kN 17 16,kx 18 (.bini .leq (ux 17) (.con (.val (.int .i64 20)))),kM 2 18])
 .ret)))
def t24:AFn:=⟨1,t24B,
 [.tmp 2],true⟩
def t9L1:AC:=(.seq (.seq (.regN [0,1,5,6] [
 kM 7 6,kM 8 0,kN 9 8,kT 10 7 9,kM 11 10,yM 12 11 6,yM 13 11 1,ky 14 11 (.bini .leq (ux 12) (ux 13)),kx 15 (.pick (ux 11) (ux 14) cF)])
 (.cond (ux 15)
 .skip
 (.exit 0)))
 (.seq (.block 1
 (.regN [0,1,5,6] [
 kM 18 5,kM 19 0,kM 20 6,kI 21 6 19 20,kF 22 5 21,kL 23 22,kN 24 23,kx 25 (.bini .add (ux 18) (ux 24)),kM 5 25]))
 (.regN [0,1,5,6] [
 kM 16 6,kU 17 16,kM 6 17])))
def t9B:AC:=(.seq (.regN [0,1] [
 kx 4 (.mv cF)])
 (.seq (.regN [0,1] [
 kZ 5])
 (.seq (.seq (.regN [0,1,5] [
 kZ 6])
 (.block 0
 (.loop [0,1,5,6] t9L1)))
 (.seq (.regN [0,1,5] [
 kM 26 0,kN 27 26,kM 28 1,kx 29 (.bini .leq (ux 27) (ux 28)),kM 30 29,yM 31 30 5,yM 32 30 1,ky 33 30 (.bini .mul (.con (.val (.int .i64 2))) (ux 32)),ky 34 30 (.bini .leq (ux 31) (ux 33)),kx 35 (.pick (ux 30) (ux 34) cF),kM 4 35])
 .ret))))
def t9:AFn:=⟨2,t9B,
 [.tmp 4],true⟩
def t16L1:AC:=(.seq (.seq (.regN [1,2,5,6] [
 kM 7 6,kF 8 1 2,kS 9 2 8,kN 10 9,kT 11 7 10,kM 12 11,yM 13 12 6,yM 14 12 1,ky 15 12 (.bini .leq (ux 13) (ux 14)),kx 16 (.pick (ux 12) (ux 15) cF)])
 (.cond (ux 16)
 .skip
 (.exit 0)))
 (.seq (.block 1
 (.regN [1,2,5,6] [
 kM 19 5,kF 20 1 2,kS 21 2 20,kM 22 6,kI 23 1 21 22,kL 24 23,kN 25 24,kx 26 (.bini .add (ux 19) (ux 25)),kM 5 26]))
 (.regN [1,2,5,6] [
 kM 17 6,kU 18 17,kM 6 18])))
def t16B:AC:=(.seq (.regN [0,1] [
 kB 2 3 0,kx 4 (.mv cF)])
 (.seq (.regN [1,2] [
 kZ 5])
 (.seq (.seq (.regN [1,2,5] [
 kZ 6])
 (.block 0
 (.loop [1,2,5,6] t16L1)))
 (.seq (.regN [1,2,5] [
 kF 27 0 2,kS 28 2 27,kN 29 28,kM 30 1,kx 31 (.bini .leq (ux 29) (ux 30)),kM 32 31,yF 33 32 1 2,yS 34 32 2 33,yN 35 32 34,yM 36 32 1,ky 37 32 (.bini .leq (ux 35) (ux 36)),kx 38 (.pick (ux 32) (ux 37) cF),kM 39 38,yF 40 39 2 2,yS 41 39 2 40,yN 42 39 41,yM 43 39 1,ky 44 39 (.bini .leq (ux 42) (ux 43)),kx 45 (.pick (ux 39) (ux 44) cF),kM 46 45,yM 47 46 5,yM 48 46 1,yM 49 46 1,ky 50 46 (.bini .mul (ux 48) (ux 49)),ky 51 46 (.bini .leq (ux 47) (ux 50)),kx 52 (.pick (ux 46) (ux 51) cF),kM 4 52])
 .ret))))
def t16:AFn:=⟨2,t16B,
 [.tmp 4],true⟩
def t25L1:AC:=(.seq (.seq (.regN [0,2,4,5] [
 kM 19 5,kM 20 0,kN 21 20,kT 22 19 21])
 (.cond (ux 22)
 .skip
 (.exit 0)))
 (.seq (.block 1
 (.seq (.regN [0,2,4,5] [
 kM 25 0,kM 26 5,kI 27 1 25 26,kL 28 27,kC 29 10 28,kM 6 29])
 (.seq (.regN [0,2,4,5,6] [
 kM 30 6,kx 31 (.bini .neq (ux 30) c0)])
 (.cond (ux 31)
 (.seq (.regN [2,6] [
 kx 32 (.build [.e0,.e0,.e0] []),kM 33 6,kn (.st (some 2) 3 (ux 2) (ux 32)),kM 3 33])
 .ret)
 .skip))))
 (.regN [0,2,4,5] [
 kM 23 5,kU 24 23,kM 5 24])))
def t25L2:AC:=(.seq (.seq (.regN [0,2,4,7,8,9] [
 kM 61 9,kF 62 2 8,kS 63 8 62,kN 64 63,kT 65 61 64])
 (.cond (ux 65)
 .skip
 (.exit 4)))
 (.seq (.block 5
 (.regD [0,2,4,7,8,9] 0 [
 kF 68 2 4,kL 69 68,kF 70 2 8,kS 71 8 70,kM 72 9,kI 73 1 71 72,kL 74 73,kM 75 7,kI 76 1 69 74,kn (.st none 1 (ux 76) (ux 75))]))
 (.regN [0,2,4,7,8,9] [
 kM 66 9,kU 67 66,kM 9 67])))
def t25L3:AC:=(.seq (.seq (.regN [0,2,4,7] [
 kM 34 7,kM 35 0,kN 36 35,kT 37 34 36])
 (.cond (ux 37)
 .skip
 (.exit 2)))
 (.seq (.block 3
 (.seq (.regD [0,2,4,7] 0 [
 kM 40 0,kM 41 7,kI 42 1 40 41,kL 43 42,kM 44 0,kM 45 7,kI 46 1 44 45,kL 47 46,kN 48 47,kx 49 (.bini .sub (ux 48) c1),kf 50 (.call 48 [(ux 4),(ux 43),(ux 49)]),kx 8 (.allocR [(.val (.bool false)),.e0,.e0]),kn (.st (some 8) 3 (ux 8) (ux 50))])
 (.seq (.regD [0,2,4,7,8] 0 [
 kF 51 1 4,kL 52 51,kF 53 1 4,kL 54 53,kx 55 (.ixA 1 (ux 54) c0),kL 56 55,kF 57 1 8,kS 58 8 57,kx 59 (.call 49 [(ux 56),(ux 58)]),kx 60 (.ixA 1 (ux 52) c0),kn (.st none 1 (ux 60) (ux 59))])
 (.seq (.seq (.regN [0,2,4,7,8] [
 kZ 9])
 (.block 4
 (.loop [0,2,4,7,8,9] t25L2)))
 (.seq (.regN [0,2,4,7,8] [
 kF 77 0 8,kS 78 8 77,kM 79 78,yF 80 79 2 4,yL 81 79 80,ky 82 79 (.ixA 1 (ux 81) c0),yL 83 79 82,ky 84 79 (.bini .lss (ux 83) c0),kx 85 (.pick (ux 79) (ux 84) cF)])
 (.cond (ux 85)
 (.regN [0,2,4,7] [
 kF 86 2 4,kL 87 86,kM 88 7,kx 89 (.ixA 1 (ux 87) c0),kn (.st none 1 (ux 89) (ux 88))])
 .skip))))))
 (.regN [0,2,4,7] [
 kM 38 7,kU 39 38,kM 7 39])))
def t25B:AC:=(.seq (.regN [0] [
 kx 2 (.allocR [.e0,.e0,.e0]),kZ 3])
 (.seq (.seq (.regN [0,2] [
 kM 10 0,kN 11 10,kx 12 (.bini .gtr (ux 11) (.con (.val (.int .i64 16))))])
 (.cond (ux 12)
 (.seq (.regN [2] [
 kx 13 (.build [.e0,.e0,.e0] []),kn (.st (some 2) 3 (ux 2) (ux 13)),kx 3 (.mv (.con (.val (.int .i64 3))))])
 .ret)
 .skip))
 (.seq (.regN [0,2] [
 kx 14 (.build [(.val (.int .u64 0)),(.val (.int .u64 0)),(.val (.int .u64 0)),(.val (.int .u64 0))] []),kx 15 (.buildH 1 4 [(.val (.int .u64 0)),(.val (.int .u64 0)),(.val (.int .u64 0)),(.val (.int .u64 0))] [(0,4,(ux 14))]),kx 16 (.buildH 1 1 [.e0] [(0,1,(.con .e0))]),kx 17 (.buildH 1 1 [(.val (.int .i64 0))] [(0,1,(.con (.val (.int .i64 (-1)))))]),kx 18 (.build [.e0,.e0,.e0] [(0,1,(ux 15)),(1,1,(ux 16)),(2,1,(ux 17))]),kx 4 (.allocH [.e0,.e0,.e0]),kn (.st none 3 (ux 4) (ux 18))])
 (.seq (.seq (.regN [0,2,4] [
 kZ 5])
 (.block 0
 (.loop [0,2,4,5] t25L1)))
 (.seq (.seq (.regN [0,2,4] [
 kZ 7])
 (.block 2
 (.loop [0,2,4,7] t25L3)))
 (.seq (.seq (.regN [2,4] [
 kF 90 0 4,kL 91 90,kN 92 91,kx 93 (.bini .gtr (ux 92) (.con (.val (.int .i64 1024))))])
 (.cond (ux 93)
 (.seq (.regN [2] [
 kx 94 (.build [.e0,.e0,.e0] []),kn (.st (some 2) 3 (ux 2) (ux 94)),kx 3 (.mv (.con (.val (.int .i64 10))))])
 .ret)
 .skip))
 (.seq (.regN [2,4] [
 kx 95 (.ldA none 3 (ux 4)),kn (.st (some 2) 3 (ux 2) (ux 95)),kZ 3])
 .ret)))))))
def t25:AFn:=⟨1,t25B,
 [.cell 2 3 true,.tmp 3],true⟩
def t10L1:AC:=(.seq (.seq (.regN [0,3,4,7] [
 kM 75 7,kM 76 0,kM 77 4,kI 78 6 76 77,kF 79 5 78,kL 80 79,kN 81 80,kT 82 75 81])
 (.cond (ux 82)
 .skip
 (.exit 2)))
 (.seq (.block 3
 (.seq (.regN [0,3,4,7] [
 kM 85 0,kM 86 4,kI 87 6 85 86,kF 88 5 87,kL 89 88,kM 90 7,kI 91 1 89 90,kL 92 91,kM 8 92])
 (.seq (.seq (.regN [0,3,4,7,8] [
 kM 93 8,kx 94 (.bini .lss (ux 93) c0),kM 95 94,zM 96 95 8,zM 97 95 4,kz 98 95 (.bini .geq (ux 96) (ux 97)),kO 99 95 98])
 (.cond (ux 99)
 (.seq (.regN [] [
 kx 2 (.mv (.con (.val (.int .i64 2))))])
 .ret)
 .skip))
 (.regN [0,3,4,7,8] [
 kM 100 3,kM 101 8,kI 102 1 100 101,kL 103 102,kU 104 103,kI 105 1 100 101,kn (.st none 1 (ux 105) (ux 104))]))))
 (.regN [0,3,4,7] [
 kM 83 7,kU 84 83,kM 7 84])))
def t10L2:AC:=(.seq (.seq (.regN [0,3,4] [
 kM 21 4,kM 22 0,kN 23 22,kT 24 21 23])
 (.cond (ux 24)
 .skip
 (.exit 0)))
 (.seq (.block 1
 (.seq (.regN [0,3,4] [
 kM 28 0,kM 29 4,kI 30 6 28 29,kF 31 0 30,kL 32 31,kC 33 33 32,kM 27 33,kE 34 27 0,kE 35 27 1,kM 5 34,kM 6 35])
 (.seq (.seq (.regN [0,3,4,5,6] [
 kM 36 5,kx 37 (.bini .lss (ux 36) c0),kM 38 37,zM 39 38 0,zM 40 38 4,zI 41 38 6 39 40,zF 42 38 5 41,zL 43 38 42,zN 44 38 43,zM 45 38 5,kz 46 38 (.bini .lss (ux 44) (ux 45)),kO 47 38 46,kM 48 47,zM 49 48 0,zM 50 48 4,zI 51 48 6 49 50,zF 52 48 5 51,zL 53 48 52,zN 54 48 53,zM 55 48 6,kz 56 48 (.bini .gtr (ux 54) (ux 55)),kO 57 48 56,kM 58 57,zM 59 58 0,zM 60 58 4,zI 61 58 6 59 60,zF 62 58 0 61,zL 63 58 62,kz 64 58 (.bini .neq (ux 63) (.con (.val (.int .i64 2)))),zM 65 58 64,yM 66 65 0,yM 67 65 4,yI 68 65 6 66 67,yF 69 65 1 68,ky 70 65 (.ldA none 4 (ux 69)),ky 71 65 (.build [(.val (.int .u64 0)),(.val (.int .u64 0)),(.val (.int .u64 0)),(.val (.int .u64 0))] []),ky 72 65 (.eqa true [1,1,1,1] (ux 70) (ux 71)),kz 73 58 (.pick (ux 65) (ux 72) cF),kO 74 58 73])
 (.cond (ux 74)
 (.seq (.regN [] [
 kx 2 (.mv (.con (.val (.int .i64 2))))])
 .ret)
 .skip))
 (.seq (.regN [0,3,4] [
 kZ 7])
 (.block 2
 (.loop [0,3,4,7] t10L1))))))
 (.regN [0,3,4] [
 kM 25 4,kU 26 25,kM 4 26])))
def t10L3:AC:=(.seq (.seq (.regN [0,3,9] [
 kM 106 9,kM 107 0,kN 108 107,kT 109 106 108])
 (.cond (ux 109)
 .skip
 (.exit 4)))
 (.seq (.block 5
 (.seq (.regN [0,3,9] [
 kM 112 9,kM 113 0,kN 114 113,kx 115 (.bini .sub (ux 114) c1),kT 116 112 115,kM 117 116,yM 118 117 3,yM 119 117 9,yI 120 117 1 118 119,yL 121 117 120,ky 122 117 (.bini .neq (ux 121) c1),kx 123 (.pick (ux 117) (ux 122) cF)])
 (.cond (ux 123)
 (.seq (.regN [] [
 kx 2 (.mv (.con (.val (.int .i64 2))))])
 .ret)
 .skip)))
 (.regN [0,3,9] [
 kM 110 9,kU 111 110,kM 9 111])))
def t10B:AC:=(.seq (.regN [0] [
 kZ 2])
 (.seq (.seq (.regN [0] [
 kM 10 0,kN 11 10,kx 12 (.bini .lss (ux 11) c1),kM 13 12,zM 14 13 0,zN 15 13 14,kz 16 13 (.bini .gtr (ux 15) (.con (.val (.int .i64 512)))),kO 17 13 16])
 (.cond (ux 17)
 (.seq (.regN [] [
 kx 2 (.mv (.con (.val (.int .i64 2))))])
 .ret)
 .skip))
 (.seq (.regN [0] [
 kM 18 0,kN 19 18,kx 20 (.mks 1 8 [(.val (.int .i64 0))] (ux 19)),kM 3 20])
 (.seq (.seq (.regN [0,3] [
 kZ 4])
 (.block 0
 (.loop [0,3,4] t10L2)))
 (.seq (.seq (.regN [0,3] [
 kZ 9])
 (.block 4
 (.loop [0,3,9] t10L3)))
 (.seq (.regN [] [
 kZ 2])
 .ret))))))
def t10:AFn:=⟨1,t10B,
 [.tmp 2],true⟩
def t33B:AC:=(.seq (.regN [0] [
 kZ 2,kZ 3])
 (.seq (.seq (.regN [0] [
 kM 4 0])
 (.block 0
 (.seq (.seq (.regN [4] [
 kx 6 (.bini .eql (ux 4) c1),kM 5 6])
 (.cond (ux 5)
 .skip
 (.regN [4] [
 kx 7 (.bini .eql (ux 4) (.con (.val (.int .i64 2)))),kM 5 7])))
 (.cond (ux 5)
 (.seq (.regN [] [
 kZ 2,kZ 3])
 .ret)
 (.seq (.seq (.regN [4] [
 kx 9 (.bini .eql (ux 4) (.con (.val (.int .i64 3)))),kM 8 9])
 (.cond (ux 8)
 .skip
 (.regN [4] [
 kx 10 (.bini .eql (ux 4) (.con (.val (.int .i64 4)))),kM 8 10])))
 (.cond (ux 8)
 (.seq (.regN [] [
 kx 2 (.mv (.con (.val (.int .i64 2)))),kx 3 (.mv (.con (.val (.int .i64 512))))])
 .ret)
 (.seq (.seq (.regN [4] [
 kx 12 (.bini .eql (ux 4) (.con (.val (.int .i64 5)))),kM 11 12])
 (.cond (ux 11)
 .skip
 (.seq (.regN [4] [
 kx 13 (.bini .eql (ux 4) (.con (.val (.int .i64 6)))),kM 11 13])
 (.cond (ux 11)
 .skip
 (.regN [4] [
 kx 14 (.bini .eql (ux 4) (.con (.val (.int .i64 7)))),kM 11 14])))))
 (.cond (ux 11)
 (.seq (.regN [] [
 kx 2 (.mv c1),kx 3 (.mv c1)])
 .ret)
 .skip))))))))
 (.seq (.regN [] [
 kx 2 (.mv (.con (.val (.int .i64 (-1))))),kx 3 (.mv (.con (.val (.int .i64 (-1)))))])
 .ret)))
def t33:AFn:=⟨1,t33B,
 [.tmp 2,.tmp 3],true⟩
def t48L1:AC:=(.seq (.seq (.regN [0,1,6,7,9,10] [
 kM 75 10,kF 76 5 7,kS 77 7 76,kN 78 77,kT 79 75 78])
 (.cond (ux 79)
 .skip
 (.exit 1)))
 (.seq (.block 2
 (.seq (.regN [0,1,6,7,9,10] [
 kM 82 0,kM 83 1,kF 84 5 7,kS 85 7 84,kM 86 10,kI 87 1 85 86,kL 88 87,kx 89 (.call 48 [(ux 82),(ux 83),(ux 88)]),kx 11 (.allocR [(.val (.bool false)),.e0,.e0]),kn (.st (some 11) 3 (ux 11) (ux 89))])
 (.seq (.regN [0,1,6,7,9,10,11] [
 kM 90 0,kF 91 2 9,kS 92 9 91,kF 93 1 11,kS 94 11 93,kx 95 (.call 69 [(ux 90),(ux 92),(ux 94)])])
 (.seq (.seq (.regN [0,1,6,7,9,10,11] [
 kF 96 0 9,kS 97 9 96])
 (.cond (ux 97)
 (.regN [0,1,6,7,9,10,11] [
 kF 98 1 9,kS 99 9 98,kF 100 1 11,kS 101 11 100,kx 102 (.call 49 [(ux 99),(ux 101)]),kF 103 1 9,kn (.st (some 9) 1 (ux 103) (ux 102))])
 .skip))
 (.seq (.seq (.regN [0,1,6,7,9,10,11] [
 kF 104 0 11,kS 105 11 104])
 (.cond (ux 105)
 (.regN [0,1,6,7,9,10,11] [
 kF 106 2 9,kS 107 9 106,kF 108 2 11,kS 109 11 108,kx 110 (.call 49 [(ux 107),(ux 109)]),kF 111 2 11,kn (.st (some 11) 1 (ux 111) (ux 110))])
 .skip))
 (.regN [0,1,6,7,9,10,11] [
 kF 112 0 9,kS 113 9 112,kM 114 113,yF 115 114 0 11,yS 116 114 11 115,kx 117 (.pick (ux 114) (ux 116) cF),kF 118 1 9,kS 119 9 118,kF 120 2 11,kS 121 11 120,kx 122 (.build [(.val (.bool false)),.e0,.e0] [(0,1,(ux 117)),(1,1,(ux 119)),(2,1,(ux 121))]),kn (.st (some 9) 3 (ux 9) (ux 122))]))))))
 (.regN [0,1,6,7,9,10] [
 kM 80 10,kU 81 80,kM 10 81])))
def t48L2:AC:=(.seq (.seq (.regN [0,1,6,7,12,13] [
 kM 127 13,kF 128 5 7,kS 129 7 128,kN 130 129,kT 131 127 130])
 (.cond (ux 131)
 .skip
 (.exit 3)))
 (.seq (.block 4
 (.seq (.regN [0,1,6,7,12,13] [
 kM 134 0,kM 135 1,kF 136 5 7,kS 137 7 136,kM 138 13,kI 139 1 137 138,kL 140 139,kx 141 (.call 48 [(ux 134),(ux 135),(ux 140)]),kx 14 (.allocR [(.val (.bool false)),.e0,.e0]),kn (.st (some 14) 3 (ux 14) (ux 141))])
 (.regD [0,1,6,7,12,13,14] 0 [
 kF 142 0 12,kS 143 12 142,kM 144 143,zF 145 144 0 14,zS 146 144 14 145,kO 147 144 146,kF 148 1 12,kS 149 12 148,kF 150 1 14,kS 151 14 150,kf 152 (.call 49 [(ux 149),(ux 151)]),kF 153 2 12,kS 154 12 153,kF 155 2 14,kS 156 14 155,kf 157 (.call 49 [(ux 154),(ux 156)]),kx 158 (.build [(.val (.bool false)),.e0,.e0] [(0,1,(ux 147)),(1,1,(ux 152)),(2,1,(ux 157))]),kn (.st (some 12) 3 (ux 12) (ux 158))])))
 (.regN [0,1,6,7,12,13] [
 kM 132 13,kU 133 132,kM 13 133])))
def t48B:AC:=(.seq (.regN [0,1,2] [
 kx 6 (.allocR [(.val (.bool false)),.e0,.e0])])
 (.seq (.regN [0,1,2,6] [
 kM 16 1,kM 17 2,kI 18 6 16 17,kx 19 (.ldA none 6 (ux 18)),kx 7 (.allocR [(.val (.int .i64 0)),(.val (.int .u64 0)),(.val (.int .u64 0)),(.val (.int .u64 0)),(.val (.int .u64 0)),.e0]),kn (.st (some 7) 6 (ux 7) (ux 19))])
 (.seq (.seq (.regN [0,1,6,7] [
 kF 20 0 7,kS 21 7 20])
 (.block 0
 (.seq (.regN [0,1,6,7,21] [
 kx 23 (.bini .eql (ux 21) c1),kM 22 23])
 (.cond (ux 22)
 (.seq (.regN [6] [
 kx 24 (.build [(.val (.bool false)),.e0,.e0] [(0,1,cT)]),kn (.st (some 6) 3 (ux 6) (ux 24))])
 .ret)
 (.seq (.regN [0,1,6,7,21] [
 kx 26 (.bini .eql (ux 21) (.con (.val (.int .i64 2)))),kM 25 26])
 (.cond (ux 25)
 (.seq (.regN [0,6,7] [
 kM 27 0,kx 28 (.nilc (ux 27)),kF 29 0 28,kL 30 29,kN 31 30,kM 8 31])
 (.seq (.regD [0,6,7,8] 0 [
 kM 32 0,kM 33 0,kM 34 0,kM 35 0,kx 36 (.nilc (ux 35)),kF 37 0 36,kL 38 37,kF 39 1 7,kP 40 7 4 39,kx 41 (.buildS 1 [(.val (.int .u64 0)),(.val (.int .u64 0)),(.val (.int .u64 0)),(.val (.int .u64 0))] [(0,4,(ux 40))]),kf 42 (.app 4 32 (ux 38) (ux 41)),kM 43 0,kx 44 (.nilc (ux 43)),kF 45 1 44,kL 46 45,kx 47 (.buildS 1 [.e0] [(0,1,(.con .e0))]),kf 48 (.app 1 24 (ux 46) (ux 47)),kM 49 0,kx 50 (.nilc (ux 49)),kF 51 2 50,kL 52 51,kx 53 (.buildS 1 [(.val (.int .i64 0))] [(0,1,(.con (.val (.int .i64 (-1)))))]),kx 54 (.app 1 8 (ux 52) (ux 53)),kx 55 (.nilc (ux 32)),kF 56 0 55,kn (.st none 1 (ux 56) (ux 42)),kx 57 (.nilc (ux 33)),kF 58 1 57,kn (.st none 1 (ux 58) (ux 48)),kx 59 (.nilc (ux 34)),kF 60 2 59,kn (.st none 1 (ux 60) (ux 54))])
 (.seq (.regN [6,8] [
 kM 61 8,kx 62 (.buildS 1 [(.val (.int .i64 0))] [(0,1,(ux 61))]),kM 63 8,kx 64 (.buildS 1 [(.val (.int .i64 0))] [(0,1,(ux 63))]),kx 65 (.build [(.val (.bool false)),.e0,.e0] [(1,1,(ux 62)),(2,1,(ux 64))]),kn (.st (some 6) 3 (ux 6) (ux 65))])
 .ret)))
 (.seq (.regN [0,1,6,7,21] [
 kx 67 (.bini .eql (ux 21) (.con (.val (.int .i64 3)))),kM 66 67])
 (.cond (ux 66)
 (.seq (.regN [0,1,6,7] [
 kM 68 0,kM 69 1,kF 70 5 7,kS 71 7 70,kx 72 (.ixA 1 (ux 71) c0),kL 73 72,kx 74 (.call 48 [(ux 68),(ux 69),(ux 73)]),kx 9 (.allocR [(.val (.bool false)),.e0,.e0]),kn (.st (some 9) 3 (ux 9) (ux 74))])
 (.seq (.seq (.regN [0,1,6,7,9] [
 kx 10 (.mv c1)])
 (.block 1
 (.loop [0,1,6,7,9,10] t48L1)))
 (.seq (.regN [6,9] [
 kP 123 9 3 9,kn (.st (some 6) 3 (ux 6) (ux 123))])
 .ret)))
 (.seq (.regN [0,1,6,7,21] [
 kx 125 (.bini .eql (ux 21) (.con (.val (.int .i64 4)))),kM 124 125])
 (.cond (ux 124)
 (.seq (.regN [0,1,6,7] [
 kx 126 (.build [(.val (.bool false)),.e0,.e0] []),kx 12 (.allocR [(.val (.bool false)),.e0,.e0]),kn (.st (some 12) 3 (ux 12) (ux 126))])
 (.seq (.seq (.regN [0,1,6,7,12] [
 kZ 13])
 (.block 3
 (.loop [0,1,6,7,12,13] t48L2)))
 (.seq (.regN [6,12] [
 kP 159 12 3 12,kn (.st (some 6) 3 (ux 6) (ux 159))])
 .ret)))
 .skip))))))))))
 (.seq (.regN [0,1,6,7] [
 kM 160 0,kM 161 1,kF 162 5 7,kS 163 7 162,kx 164 (.ixA 1 (ux 163) c0),kL 165 164,kx 166 (.call 48 [(ux 160),(ux 161),(ux 165)]),kx 15 (.allocR [(.val (.bool false)),.e0,.e0]),kn (.st (some 15) 3 (ux 15) (ux 166))])
 (.seq (.seq (.regN [0,6,7,15] [
 kF 167 0 7,kS 168 7 167,kx 169 (.bini .neq (ux 168) (.con (.val (.int .i64 7))))])
 (.cond (ux 169)
 (.regN [0,6,7,15] [
 kM 170 0,kF 171 2 15,kS 172 15 171,kF 173 1 15,kS 174 15 173,kx 175 (.call 69 [(ux 170),(ux 172),(ux 174)])])
 .skip))
 (.seq (.seq (.regN [6,7,15] [
 kF 176 0 7,kS 177 7 176,kx 178 (.bini .neq (ux 177) (.con (.val (.int .i64 6))))])
 (.cond (ux 178)
 (.regN [6,15] [
 kF 179 0 15,kn (.st (some 15) 1 (ux 179) cT)])
 .skip))
 (.seq (.regN [6,15] [
 kP 180 15 3 15,kn (.st (some 6) 3 (ux 6) (ux 180))])
 .ret)))))))
def t48:AFn:=⟨3,t48B,
 [.cell 6 3 true],false⟩
def t69L1:AC:=(.seq (.seq (.regN [0,1,2,6] [
 kM 7 6,kM 8 1,kN 9 8,kT 10 7 9])
 (.cond (ux 10)
 .skip
 (.exit 0)))
 (.seq (.block 1
 (.regD [0,1,2,6] 0 [
 kM 13 0,kx 14 (.nilc (ux 13)),kF 15 1 14,kL 16 15,kM 17 1,kM 18 6,kI 19 1 17 18,kL 20 19,kM 21 0,kx 22 (.nilc (ux 21)),kF 23 1 22,kL 24 23,kM 25 1,kM 26 6,kI 27 1 25 26,kL 28 27,kI 29 1 24 28,kL 30 29,kM 31 2,kx 32 (.call 49 [(ux 30),(ux 31)]),kI 33 1 16 20,kn (.st none 1 (ux 33) (ux 32))]))
 (.regN [0,1,2,6] [
 kM 11 6,kU 12 11,kM 6 12])))
def t69B:AC:=(.seq (.regN [0,1,2] [
 kZ 6])
 (.block 0
 (.loop [0,1,2,6] t69L1)))
def t69:AFn:=⟨3,t69B,
 [],false⟩
def t49L1:AC:=(.seq (.seq (.regN [1,5,6] [
 kM 12 6,kM 13 1,kN 14 13,kT 15 12 14])
 (.cond (ux 15)
 .skip
 (.exit 0)))
 (.seq (.block 1
 (.seq (.regN [1,5,6] [
 kM 18 5,kM 19 1,kM 20 6,kI 21 1 19 20,kL 22 21,kx 23 (.call 70 [(ux 18),(ux 22)]),kx 24 (.not (ux 23))])
 (.cond (ux 24)
 (.regN [1,5,6] [
 kM 25 5,kM 26 1,kM 27 6,kI 28 1 26 27,kL 29 28,kx 30 (.buildS 1 [(.val (.int .i64 0))] [(0,1,(ux 29))]),kx 31 (.app 1 8 (ux 25) (ux 30)),kM 5 31])
 .skip)))
 (.regN [1,5,6] [
 kM 16 6,kU 17 16,kM 6 17])))
def t49L2:AC:=(.seq (.seq (.regD [5,7,8] 0 [
 kM 39 8,kx 40 (.bini .gtr (ux 39) c0),kM 41 40,yM 42 41 5,yM 43 41 8,ky 44 41 (.bini .sub (ux 43) c1),yI 45 41 1 42 44,yL 46 41 45,yM 47 41 5,yM 48 41 8,yI 49 41 1 47 48,yL 50 41 49,ky 51 41 (.bini .gtr (ux 46) (ux 50)),kx 52 (.pick (ux 41) (ux 51) cF)])
 (.cond (ux 52)
 .skip
 (.exit 4)))
 (.seq (.block 5
 (.regD [5,7,8] 0 [
 kM 55 5,kM 56 8,kx 57 (.bini .sub (ux 56) c1),kM 58 5,kM 59 8,kM 60 5,kM 61 8,kI 62 1 60 61,kL 63 62,kM 64 5,kM 65 8,kx 66 (.bini .sub (ux 65) c1),kI 67 1 64 66,kL 68 67,kI 69 1 55 57,kn (.st none 1 (ux 69) (ux 63)),kI 70 1 58 59,kn (.st none 1 (ux 70) (ux 68))]))
 (.regN [5,7,8] [
 kM 53 8,kx 54 (.bini .sub (ux 53) c1),kM 8 54])))
def t49L3:AC:=(.seq (.seq (.regN [5,7] [
 kM 32 7,kM 33 5,kN 34 33,kT 35 32 34])
 (.cond (ux 35)
 .skip
 (.exit 2)))
 (.seq (.block 3
 (.seq (.regN [5,7] [
 kM 38 7,kM 8 38])
 (.block 4
 (.loop [5,7,8] t49L2))))
 (.regN [5,7] [
 kM 36 7,kU 37 36,kM 7 37])))
def t49B:AC:=(.seq (.regN [0,1] [
 kx 4 (.mv (.con .e0))])
 (.seq (.regN [0,1] [
 kx 9 (.buildS 0 [] []),kM 10 0,kx 11 (.app 1 8 (ux 9) (ux 10)),kM 5 11])
 (.seq (.seq (.regN [1,5] [
 kZ 6])
 (.block 0
 (.loop [1,5,6] t49L1)))
 (.seq (.seq (.regN [5] [
 kx 7 (.mv c1)])
 (.block 2
 (.loop [5,7] t49L3)))
 (.seq (.regN [5] [
 kM 71 5,kM 4 71])
 .ret)))))
def t49:AFn:=⟨2,t49B,
 [.tmp 4],true⟩
def t70L1:AC:=(.seq (.seq (.regN [0,1,5] [
 kM 6 5,kM 7 0,kN 8 7,kT 9 6 8])
 (.cond (ux 9)
 .skip
 (.exit 0)))
 (.seq (.block 1
 (.seq (.regN [0,1,5] [
 kM 12 0,kM 13 5,kI 14 1 12 13,kL 15 14,kM 16 1,kx 17 (.bini .eql (ux 15) (ux 16))])
 (.cond (ux 17)
 (.seq (.regN [] [
 kx 4 (.mv cT)])
 .ret)
 .skip)))
 (.regN [0,1,5] [
 kM 10 5,kU 11 10,kM 5 11])))
def t70B:AC:=(.seq (.regN [0,1] [
 kx 4 (.mv cF)])
 (.seq (.seq (.regN [0,1] [
 kZ 5])
 (.block 0
 (.loop [0,1,5] t70L1)))
 (.seq (.regN [] [
 kx 4 (.mv cF)])
 .ret)))
def t70:AFn:=⟨2,t70B,
 [.tmp 4],true⟩
def t26L1:AC:=(.seq (.seq (.regN [2,3,5] [
 kM 34 5,kF 35 0 2,kS 36 2 35,kN 37 36,kT 38 34 37])
 (.cond (ux 38)
 .skip
 (.exit 0)))
 (.seq (.block 1
 (.seq (.regD [2,3,5] 0 [
 kF 41 0 2,kS 42 2 41,kM 43 5,kI 44 4 42 43,kx 45 (.ldA none 4 (ux 44)),kF 46 0 3,kS 47 3 46,kM 48 5,kI 49 4 47 48,kx 50 (.ldA none 4 (ux 49)),kx 51 (.eqa true [1,1,1,1] (ux 45) (ux 50))])
 (.cond (ux 51)
 (.seq (.regN [] [
 kx 4 (.mv cF)])
 .ret)
 .skip)))
 (.regN [2,3,5] [
 kM 39 5,kU 40 39,kM 5 40])))
def t26L2:AC:=(.seq (.seq (.regN [2,3,6] [
 kM 52 6,kF 53 2 2,kS 54 2 53,kN 55 54,kT 56 52 55])
 (.cond (ux 56)
 .skip
 (.exit 2)))
 (.seq (.block 3
 (.seq (.regD [2,3,6] 0 [
 kF 59 2 2,kS 60 2 59,kM 61 6,kI 62 1 60 61,kL 63 62,kF 64 2 3,kS 65 3 64,kM 66 6,kI 67 1 65 66,kL 68 67,kx 69 (.bini .neq (ux 63) (ux 68))])
 (.cond (ux 69)
 (.seq (.regN [] [
 kx 4 (.mv cF)])
 .ret)
 .skip)))
 (.regN [2,3,6] [
 kM 57 6,kU 58 57,kM 6 58])))
def t26L3:AC:=(.seq (.seq (.regN [2,3,7,8] [
 kM 90 8,kF 91 1 2,kS 92 2 91,kM 93 7,kI 94 1 92 93,kL 95 94,kN 96 95,kT 97 90 96])
 (.cond (ux 97)
 .skip
 (.exit 6)))
 (.seq (.block 7
 (.seq (.regD [2,3,7,8] 0 [
 kF 100 1 2,kS 101 2 100,kM 102 7,kI 103 1 101 102,kL 104 103,kM 105 8,kI 106 1 104 105,kL 107 106,kF 108 1 3,kS 109 3 108,kM 110 7,kI 111 1 109 110,kL 112 111,kM 113 8,kI 114 1 112 113,kL 115 114,kx 116 (.bini .neq (ux 107) (ux 115))])
 (.cond (ux 116)
 (.seq (.regN [] [
 kx 4 (.mv cF)])
 .ret)
 .skip)))
 (.regN [2,3,7,8] [
 kM 98 8,kU 99 98,kM 8 99])))
def t26L4:AC:=(.seq (.seq (.regN [2,3,7] [
 kM 70 7,kF 71 1 2,kS 72 2 71,kN 73 72,kT 74 70 73])
 (.cond (ux 74)
 .skip
 (.exit 4)))
 (.seq (.block 5
 (.seq (.seq (.regD [2,3,7] 0 [
 kF 77 1 2,kS 78 2 77,kM 79 7,kI 80 1 78 79,kL 81 80,kN 82 81,kF 83 1 3,kS 84 3 83,kM 85 7,kI 86 1 84 85,kL 87 86,kN 88 87,kx 89 (.bini .neq (ux 82) (ux 88))])
 (.cond (ux 89)
 (.seq (.regN [] [
 kx 4 (.mv cF)])
 .ret)
 .skip))
 (.seq (.regN [2,3,7] [
 kZ 8])
 (.block 6
 (.loop [2,3,7,8] t26L3)))))
 (.regN [2,3,7] [
 kM 75 7,kU 76 75,kM 7 76])))
def t26B:AC:=(.seq (.regN [0,1] [
 kB 2 3 0,kB 3 3 1,kx 4 (.mv cF)])
 (.seq (.seq (.regN [2,3] [
 kF 9 0 2,kS 10 2 9,kN 11 10,kF 12 0 3,kS 13 3 12,kN 14 13,kx 15 (.bini .neq (ux 11) (ux 14)),kM 16 15,zF 17 16 1 2,zS 18 16 2 17,zN 19 16 18,zF 20 16 1 3,zS 21 16 3 20,zN 22 16 21,kz 23 16 (.bini .neq (ux 19) (ux 22)),kO 24 16 23,kM 25 24,zF 26 25 2 2,zS 27 25 2 26,zN 28 25 27,zF 29 25 2 3,zS 30 25 3 29,zN 31 25 30,kz 32 25 (.bini .neq (ux 28) (ux 31)),kO 33 25 32])
 (.cond (ux 33)
 (.seq (.regN [] [
 kx 4 (.mv cF)])
 .ret)
 .skip))
 (.seq (.seq (.regN [2,3] [
 kZ 5])
 (.block 0
 (.loop [2,3,5] t26L1)))
 (.seq (.seq (.regN [2,3] [
 kZ 6])
 (.block 2
 (.loop [2,3,6] t26L2)))
 (.seq (.seq (.regN [2,3] [
 kZ 7])
 (.block 4
 (.loop [2,3,7] t26L4)))
 (.seq (.regN [] [
 kx 4 (.mv cT)])
 .ret))))))
def t26:AFn:=⟨2,t26B,
 [.tmp 4],true⟩
def t14L1:AC:=(.seq (.regN [1,3,4,6,41,42,43,48,49,50] [
 kT 51 50 49])
 (.seq (.cond (ux 51)
 .skip
 (.exit 2))
 (.seq (.block 3
 (.seq (.regN [1,3,4,6,41,42,43,48,49,50] [
 kI 52 1 48 50,kL 53 52,kM 8 53])
 (.seq (.seq (.regN [1,3,4,6,8,41,42,43,48,49,50] [
 kM 54 8,kM 55 6,kx 56 (.bini .leq (ux 54) (ux 55)),kM 57 56,zM 58 57 8,zM 59 57 3,kz 60 57 (.bini .geq (ux 58) (ux 59)),kO 61 57 60])
 (.cond (ux 61)
 (.seq (.regN [] [
 kx 2 (.mv (.con (.val (.int .i64 2))))])
 .ret)
 .skip))
 (.regN [1,3,4,8,41,42,43,48,49,50] [
 kM 62 8,kM 6 62]))))
 (.regN [1,3,4,6,41,42,43,48,49,50] [
 kU 63 50,kM 50 63]))))
def t14L2:AC:=(.seq (.regN [1,3,41,42,43] [
 kT 44 43 42])
 (.seq (.cond (ux 44)
 .skip
 (.exit 0))
 (.seq (.block 1
 (.seq (.regN [1,3,41,42,43] [
 kM 45 43,kI 46 1 41 43,kL 47 46,kM 4 45,kM 5 47])
 (.seq (.regN [1,3,4,5,41,42,43] [
 kZ 6])
 (.seq (.seq (.regN [1,3,4,5,6,41,42,43] [
 kM 48 5,kN 49 48,kZ 50])
 (.block 2
 (.loop [1,3,4,6,41,42,43,48,49,50] t14L1)))
 (.seq (.regN [1,3,4,41,42,43] [
 kF 64 2 1,kS 65 1 64,kM 66 4,kI 67 1 65 66,kL 68 67,kx 69 (.bini .lss (ux 68) (.con (.val (.int .i64 (-1))))),kM 70 69,zF 71 70 2 1,zS 72 70 1 71,zM 73 70 4,zI 74 70 1 72 73,zL 75 70 74,kz 76 70 (.bini .geq (ux 75) (.con (.val (.int .i64 16)))),kO 77 70 76])
 (.cond (ux 77)
 (.seq (.regN [] [
 kx 2 (.mv (.con (.val (.int .i64 2))))])
 .ret)
 .skip))))))
 (.regN [1,3,41,42,43] [
 kU 78 43,kM 43 78]))))
def t14B:AC:=(.seq (.regN [0] [
 kB 1 3 0,kZ 2])
 (.seq (.regN [1] [
 kF 9 0 1,kS 10 1 9,kN 11 10,kM 3 11])
 (.seq (.seq (.regN [1,3] [
 kM 12 3,kx 13 (.bini .lss (ux 12) c1),kM 14 13,zM 15 14 3,kz 16 14 (.bini .gtr (ux 15) (.con (.val (.int .i64 1024)))),kO 17 14 16,kM 18 17,zF 19 18 1 1,zS 20 18 1 19,zN 21 18 20,zM 22 18 3,kz 23 18 (.bini .neq (ux 21) (ux 22)),kO 24 18 23,kM 25 24,zF 26 25 2 1,zS 27 25 1 26,zN 28 25 27,zM 29 25 3,kz 30 25 (.bini .neq (ux 28) (ux 29)),kO 31 25 30,kM 32 31,zF 33 32 0 1,zS 34 32 1 33,kz 35 32 (.ixA 4 (ux 34) c0),kz 36 32 (.ldA none 4 (ux 35)),kz 37 32 (.build [(.val (.int .u64 0)),(.val (.int .u64 0)),(.val (.int .u64 0)),(.val (.int .u64 0))] []),kz 38 32 (.eqa true [1,1,1,1] (ux 36) (ux 37)),kO 39 32 38])
 (.cond (ux 39)
 (.seq (.regN [] [
 kx 2 (.mv (.con (.val (.int .i64 2))))])
 .ret)
 .skip))
 (.seq (.seq (.regN [1,3] [
 kF 40 1 1,kS 41 1 40,kN 42 41,kZ 43])
 (.block 0
 (.loop [1,3,41,42,43] t14L2)))
 (.seq (.regN [] [
 kZ 2])
 .ret)))))
def t14:AFn:=⟨1,t14B,
 [.tmp 2],true⟩
def t27L1:AC:=(.seq (.seq (.regN [1,3,4,5] [
 kM 56 5,kF 57 1 1,kS 58 1 57,kM 59 4,kI 60 1 58 59,kL 61 60,kN 62 61,kT 63 56 62])
 (.cond (ux 63)
 .skip
 (.exit 2)))
 (.seq (.block 3
 (.seq (.regD [1,3,4,5] 0 [
 kF 66 1 1,kS 67 1 66,kM 68 4,kI 69 1 67 68,kL 70 69,kM 71 5,kI 72 1 70 71,kL 73 72,kx 74 (.bini .lss (ux 73) c1),kM 75 74,zF 76 75 1 1,zS 77 75 1 76,zM 78 75 4,zI 79 75 1 77 78,zL 80 75 79,zM 81 75 5,zI 82 75 1 80 81,zL 83 75 82,zM 84 75 3,kz 85 75 (.bini .geq (ux 83) (ux 84)),kO 86 75 85,kM 87 86,zM 88 87 5,kz 89 87 (.bini .gtr (ux 88) c0),zM 90 87 89,yF 91 90 1 1,yS 92 90 1 91,yM 93 90 4,yI 94 90 1 92 93,yL 95 90 94,yM 96 90 5,ky 97 90 (.bini .sub (ux 96) c1),yI 98 90 1 95 97,yL 99 90 98,yF 100 90 1 1,yS 101 90 1 100,yM 102 90 4,yI 103 90 1 101 102,yL 104 90 103,yM 105 90 5,yI 106 90 1 104 105,yL 107 90 106,ky 108 90 (.bini .geq (ux 99) (ux 107)),kz 109 87 (.pick (ux 90) (ux 108) cF),kO 110 87 109])
 (.cond (ux 110)
 (.seq (.regN [] [
 kx 2 (.mv (.con (.val (.int .i64 2))))])
 .ret)
 .skip)))
 (.regN [1,3,4,5] [
 kM 64 5,kU 65 64,kM 5 65])))
def t27L2:AC:=(.seq (.seq (.regN [1,3,4] [
 kM 37 4,kM 38 3,kT 39 37 38])
 (.cond (ux 39)
 .skip
 (.exit 0)))
 (.seq (.block 1
 (.seq (.seq (.regN [1,3,4] [
 kF 42 2 1,kS 43 1 42,kM 44 4,kI 45 1 43 44,kL 46 45,kx 47 (.bini .lss (ux 46) (.con (.val (.int .i64 (-1))))),kM 48 47,zF 49 48 2 1,zS 50 48 1 49,zM 51 48 4,zI 52 48 1 50 51,zL 53 48 52,kz 54 48 (.bini .geq (ux 53) (.con (.val (.int .i64 16)))),kO 55 48 54])
 (.cond (ux 55)
 (.seq (.regN [] [
 kx 2 (.mv (.con (.val (.int .i64 2))))])
 .ret)
 .skip))
 (.seq (.regN [1,3,4] [
 kZ 5])
 (.block 2
 (.loop [1,3,4,5] t27L1)))))
 (.regN [1,3,4] [
 kM 40 4,kU 41 40,kM 4 41])))
def t27B:AC:=(.seq (.regN [0] [
 kB 1 3 0,kZ 2])
 (.seq (.regN [1] [
 kF 6 0 1,kS 7 1 6,kN 8 7,kM 3 8])
 (.seq (.seq (.regN [1,3] [
 kM 9 3,kx 10 (.bini .lss (ux 9) c1),kM 11 10,zM 12 11 3,kz 13 11 (.bini .gtr (ux 12) (.con (.val (.int .i64 1024)))),kO 14 11 13,kM 15 14,zF 16 15 1 1,zS 17 15 1 16,zN 18 15 17,zM 19 15 3,kz 20 15 (.bini .neq (ux 18) (ux 19)),kO 21 15 20,kM 22 21,zF 23 22 2 1,zS 24 22 1 23,zN 25 22 24,zM 26 22 3,kz 27 22 (.bini .neq (ux 25) (ux 26)),kO 28 22 27,kM 29 28,zF 30 29 0 1,zS 31 29 1 30,kz 32 29 (.ixA 4 (ux 31) c0),kz 33 29 (.ldA none 4 (ux 32)),kz 34 29 (.build [(.val (.int .u64 0)),(.val (.int .u64 0)),(.val (.int .u64 0)),(.val (.int .u64 0))] []),kz 35 29 (.eqa true [1,1,1,1] (ux 33) (ux 34)),kO 36 29 35])
 (.cond (ux 36)
 (.seq (.regN [] [
 kx 2 (.mv (.con (.val (.int .i64 2))))])
 .ret)
 .skip))
 (.seq (.seq (.regN [1,3] [
 kZ 4])
 (.block 0
 (.loop [1,3,4] t27L2)))
 (.seq (.regN [] [
 kZ 2])
 .ret)))))
def t27:AFn:=⟨1,t27B,
 [.tmp 2],true⟩
def t17B:AC:=(.seq (.regN [0,1,2] [
 kB 3 3 0,kx 6 (.mv (.con .e0))])
 (.seq (.seq (.regN [1,2,3] [
 kP 7 3 3 3,kC 8 14 7,kx 9 (.bini .neq (ux 8) c0)])
 (.cond (ux 9)
 (.seq (.regN [] [
 kx 6 (.mv (.con .e0))])
 .ret)
 .skip))
 (.seq (.regN [1,2,3] [
 kP 10 3 3 3,kM 11 1,kM 12 2,kx 13 (.call 42 [(ux 10),(ux 11),(ux 12)]),kM 6 13])
 .ret)))
def t17:AFn:=⟨3,t17B,
 [.tmp 6],true⟩
def t42L1:AC:=(.seq (.regN [2,3,7,13,14,15,32,33,34] [
 kT 35 34 33])
 (.seq (.cond (ux 35)
 .skip
 (.exit 2))
 (.seq (.block 3
 (.seq (.regN [2,3,7,13,14,15,32,33,34] [
 kI 36 1 32 34,kL 37 36,kM 11 37])
 (.seq (.regN [2,3,7,11,13,14,15,32,33,34] [
 kF 38 0 3,kS 39 3 38,kM 40 11,kI 41 4 39 40,kx 42 (.ldA none 4 (ux 41)),kM 43 2,kx 44 (.call 65 [(ux 42),(ux 43)])])
 (.cond (ux 44)
 (.regN [2,3,7,11,13,14,15,32,33,34] [
 kM 45 7,kM 46 11,kx 47 (.build [] []),kn (.mup false [1] (ux 45) (ux 46) (ux 47))])
 .skip))))
 (.regN [2,3,7,13,14,15,32,33,34] [
 kU 48 34,kM 34 48]))))
def t42L2:AC:=(.seq (.regN [2,3,7,13,14,15] [
 kT 16 15 14])
 (.seq (.cond (ux 16)
 .skip
 (.exit 0))
 (.seq (.block 1
 (.seq (.regN [2,3,7,13,14,15] [
 kI 17 1 13 15,kL 18 17,kM 9 18])
 (.seq (.seq (.regN [2,3,7,9,13,14,15] [
 kM 19 9,kx 20 (.bini .lss (ux 19) c0),kM 21 20,zM 22 21 9,zF 23 21 1 3,zS 24 21 3 23,zN 25 21 24,kz 26 21 (.bini .geq (ux 22) (ux 25)),kO 27 21 26])
 (.cond (ux 27)
 (.exit 1)
 .skip))
 (.seq (.regN [2,3,7,9,13,14,15] [
 kF 28 1 3,kS 29 3 28,kM 30 9,kI 31 1 29 30,kL 32 31,kN 33 32,kZ 34])
 (.block 2
 (.loop [2,3,7,13,14,15,32,33,34] t42L1))))))
 (.regN [2,3,7,13,14,15] [
 kU 49 15,kM 15 49]))))
def t42B:AC:=(.seq (.regN [0,1,2] [
 kB 3 3 0,kx 6 (.mv (.con .e0))])
 (.seq (.regN [1,2,3] [
 kx 12 (.mkm),kM 7 12])
 (.seq (.seq (.regN [1,2,3,7] [
 kM 13 1,kN 14 13,kZ 15])
 (.block 0
 (.loop [2,3,7,13,14,15] t42L2)))
 (.seq (.regN [7] [
 kM 50 7,kC 51 41 50,kC 52 40 51,kM 6 52])
 .ret))))
def t42:AFn:=⟨3,t42B,
 [.tmp 6],true⟩
def t65B:AC:=(.seq (.regN [0,1] [
 kB 2 4 0,kx 4 (.mv cF)])
 (.seq (.regN [1,2] [
 kM 5 1,kx 6 (.bini .quo (ux 5) (.con (.val (.int .u8 64)))),kx 7 (.ixR 4 1 (ux 2) (ux 6)),kS 8 2 7,kM 9 1,kx 10 (.bini .rem (ux 9) (.con (.val (.int .u8 64)))),kx 11 (.bini .shl (.con (.val (.int .u64 1))) (ux 10)),kx 12 (.bini .and (ux 8) (ux 11)),kx 13 (.bini .neq (ux 12) (.con (.val (.int .u64 0)))),kM 4 13])
 .ret))
def t65:AFn:=⟨2,t65B,
 [.tmp 4],true⟩
def t28B:AC:=(.seq (.regN [0,1,2] [
 kB 3 3 0,kx 6 (.mv (.con .e0))])
 (.seq (.seq (.regN [1,2,3] [
 kP 7 3 3 3,kC 8 27 7,kx 9 (.bini .neq (ux 8) c0)])
 (.cond (ux 9)
 (.seq (.regN [] [
 kx 6 (.mv (.con .e0))])
 .ret)
 .skip))
 (.seq (.regN [1,2,3] [
 kP 10 3 3 3,kM 11 1,kM 12 2,kx 13 (.call 50 [(ux 10),(ux 11),(ux 12)]),kM 6 13])
 .ret)))
def t28:AFn:=⟨3,t28B,
 [.tmp 6],true⟩
def t50L1:AC:=(.seq (.seq (.regN [1,2,3,7,8,9,10] [
 kM 46 10,kM 47 9,kN 48 47,kT 49 46 48])
 (.cond (ux 49)
 .skip
 (.exit 2)))
 (.seq (.block 3
 (.seq (.regD [1,2,3,7,8,9,10] 0 [
 kF 52 0 3,kS 53 3 52,kM 54 9,kM 55 10,kI 56 1 54 55,kL 57 56,kI 58 4 53 57,kx 59 (.ldA none 4 (ux 58)),kM 60 2,kf 61 (.call 19 [(ux 59),(ux 60)])])
 (.cond (ux 61)
 (.regN [1,2,3,7,8,9,10] [
 kM 62 7,kM 63 9,kM 64 10,kI 65 1 63 64,kL 66 65,kI 67 1 62 66,kn (.st none 1 (ux 67) cT)])
 .skip)))
 (.regN [1,2,3,7,8,9,10] [
 kM 50 10,kU 51 50,kM 10 51])))
def t50L2:AC:=(.seq (.seq (.regN [1,2,3,7,8] [
 kM 17 8,kM 18 1,kN 19 18,kT 20 17 19])
 (.cond (ux 20)
 .skip
 (.exit 0)))
 (.seq (.block 1
 (.seq (.seq (.regD [1,2,3,7,8] 0 [
 kM 23 1,kM 24 8,kI 25 1 23 24,kL 26 25,kx 27 (.bini .lss (ux 26) c0),kM 28 27,zM 29 28 1,zM 30 28 8,zI 31 28 1 29 30,zL 32 28 31,zF 33 28 0 3,zS 34 28 3 33,zN 35 28 34,kz 36 28 (.bini .geq (ux 32) (ux 35)),kO 37 28 36])
 (.cond (ux 37)
 (.exit 1)
 .skip))
 (.seq (.regD [1,2,3,7,8] 0 [
 kF 38 1 3,kS 39 3 38,kM 40 1,kM 41 8,kI 42 1 40 41,kL 43 42,kI 44 1 39 43,kL 45 44,kM 9 45])
 (.seq (.regN [1,2,3,7,8,9] [
 kZ 10])
 (.block 2
 (.loop [1,2,3,7,8,9,10] t50L1))))))
 (.regN [1,2,3,7,8] [
 kM 21 8,kU 22 21,kM 8 22])))
def t50L3:AC:=(.seq (.seq (.regN [7,11,12] [
 kM 68 12,kM 69 7,kN 70 69,kT 71 68 70])
 (.cond (ux 71)
 .skip
 (.exit 4)))
 (.seq (.block 5
 (.seq (.regN [7,11,12] [
 kM 74 7,kM 75 12,kI 76 1 74 75,kL 77 76])
 (.cond (ux 77)
 (.regN [7,11,12] [
 kM 78 11,kM 79 12,kx 80 (.buildS 1 [(.val (.int .i64 0))] [(0,1,(ux 79))]),kx 81 (.app 1 8 (ux 78) (ux 80)),kM 11 81])
 .skip)))
 (.regN [7,11,12] [
 kM 72 12,kU 73 72,kM 12 73])))
def t50B:AC:=(.seq (.regN [0,1,2] [
 kB 3 3 0,kx 6 (.mv (.con .e0))])
 (.seq (.regN [1,2,3] [
 kF 13 0 3,kS 14 3 13,kN 15 14,kx 16 (.mks 1 1 [(.val (.bool false))] (ux 15)),kM 7 16])
 (.seq (.seq (.regN [1,2,3,7] [
 kZ 8])
 (.block 0
 (.loop [1,2,3,7,8] t50L2)))
 (.seq (.regN [7] [
 kx 11 (.mv (.con .e0))])
 (.seq (.seq (.regN [7,11] [
 kZ 12])
 (.block 4
 (.loop [7,11,12] t50L3)))
 (.seq (.regN [11] [
 kM 82 11,kM 6 82])
 .ret))))))
def t50:AFn:=⟨3,t50B,
 [.tmp 6],true⟩
def t19B:AC:=(.seq (.regN [0,1] [
 kB 2 4 0,kx 4 (.mv cF)])
 (.seq (.regN [1,2] [
 kM 5 1,kx 6 (.bini .quo (ux 5) (.con (.val (.int .u8 64)))),kx 7 (.ixR 4 1 (ux 2) (ux 6)),kS 8 2 7,kM 9 1,kx 10 (.bini .rem (ux 9) (.con (.val (.int .u8 64)))),kx 11 (.cvi .u64 (ux 10)),kx 12 (.bini .shr (ux 8) (ux 11)),kx 13 (.bini .and (ux 12) (.con (.val (.int .u64 1)))),kx 14 (.bini .eql (ux 13) (.con (.val (.int .u64 1)))),kM 4 14])
 .ret))
def t19:AFn:=⟨2,t19B,
 [.tmp 4],true⟩
def t20B:AC:=(.seq (.regN [0,1] [
 kB 2 3 0,kZ 4])
 (.seq (.seq (.regN [1,2] [
 kP 5 2 3 2,kC 6 14 5,kx 7 (.bini .neq (ux 6) c0)])
 (.cond (ux 7)
 (.seq (.regN [] [
 kx 4 (.mv (.con (.val (.int .i64 (-1)))))])
 .ret)
 .skip))
 (.seq (.regN [1,2] [
 kP 8 2 3 2,kM 9 1,kx 10 (.call 43 [(ux 8),(ux 9)]),kM 4 10])
 .ret)))
def t20:AFn:=⟨2,t20B,
 [.tmp 4],true⟩
def t43L1:AC:=(.seq (.regN [2,5,9,10,11] [
 kT 12 11 10])
 (.seq (.cond (ux 12)
 .skip
 (.exit 0))
 (.seq (.block 1
 (.seq (.regN [2,5,9,10,11] [
 kI 13 1 9 11,kL 14 13,kM 7 14])
 (.seq (.seq (.regN [2,5,7,9,10,11] [
 kM 15 7,kx 16 (.bini .lss (ux 15) c0),kM 17 16,zM 18 17 7,zF 19 17 2 2,zS 20 17 2 19,zN 21 17 20,kz 22 17 (.bini .geq (ux 18) (ux 21)),kO 23 17 22])
 (.cond (ux 23)
 (.exit 1)
 .skip))
 (.seq (.regN [2,5,7,9,10,11] [
 kF 24 2 2,kS 25 2 24,kM 26 7,kI 27 1 25 26,kL 28 27,kM 8 28])
 (.seq (.regN [2,5,8,9,10,11] [
 kM 29 8,kx 30 (.bini .geq (ux 29) c0),kM 31 30,yM 32 31 5,ky 33 31 (.bini .lss (ux 32) c0),yM 34 31 33,zM 35 34 8,zM 36 34 5,kz 37 34 (.bini .lss (ux 35) (ux 36)),ky 38 31 (.pick (ux 34) cT (ux 37)),kx 39 (.pick (ux 31) (ux 38) cF)])
 (.cond (ux 39)
 (.regN [2,8,9,10,11] [
 kM 40 8,kM 5 40])
 .skip))))))
 (.regN [2,5,9,10,11] [
 kU 41 11,kM 11 41]))))
def t43B:AC:=(.seq (.regN [0,1] [
 kB 2 3 0,kZ 4])
 (.seq (.regN [1,2] [
 kx 5 (.mv (.con (.val (.int .i64 (-1)))))])
 (.seq (.seq (.regN [1,2,5] [
 kM 9 1,kN 10 9,kZ 11])
 (.block 0
 (.loop [2,5,9,10,11] t43L1)))
 (.seq (.regN [5] [
 kM 42 5,kM 4 42])
 .ret))))
def t43:AFn:=⟨2,t43B,
 [.tmp 4],true⟩
def t29B:AC:=(.seq (.regN [0,1] [
 kB 2 3 0,kZ 4])
 (.seq (.seq (.regN [1,2] [
 kP 5 2 3 2,kC 6 27 5,kx 7 (.bini .neq (ux 6) c0)])
 (.cond (ux 7)
 (.seq (.regN [] [
 kx 4 (.mv (.con (.val (.int .i64 (-1)))))])
 .ret)
 .skip))
 (.seq (.regN [1,2] [
 kP 8 2 3 2,kM 9 1,kx 10 (.call 51 [(ux 8),(ux 9)]),kM 4 10])
 .ret)))
def t29:AFn:=⟨2,t29B,
 [.tmp 4],true⟩
def t51L1:AC:=(.seq (.seq (.regN [1,2,5,6] [
 kM 8 6,kM 9 1,kN 10 9,kT 11 8 10])
 (.cond (ux 11)
 .skip
 (.exit 0)))
 (.seq (.block 1
 (.seq (.regD [1,2,5,6] 0 [
 kM 14 1,kM 15 6,kI 16 1 14 15,kL 17 16,kx 18 (.bini .geq (ux 17) c0),kM 19 18,yM 20 19 1,yM 21 19 6,yI 22 19 1 20 21,yL 23 19 22,yF 24 19 2 2,yS 25 19 2 24,yN 26 19 25,ky 27 19 (.bini .lss (ux 23) (ux 26)),kx 28 (.pick (ux 19) (ux 27) cF)])
 (.cond (ux 28)
 (.seq (.regD [1,2,5,6] 0 [
 kF 29 2 2,kS 30 2 29,kM 31 1,kM 32 6,kI 33 1 31 32,kL 34 33,kI 35 1 30 34,kL 36 35,kM 7 36])
 (.seq (.regN [1,2,5,6,7] [
 kM 37 7,kx 38 (.bini .geq (ux 37) c0),kM 39 38,yM 40 39 5,ky 41 39 (.bini .lss (ux 40) c0),yM 42 39 41,zM 43 42 7,zM 44 42 5,kz 45 42 (.bini .lss (ux 43) (ux 44)),ky 46 39 (.pick (ux 42) cT (ux 45)),kx 47 (.pick (ux 39) (ux 46) cF)])
 (.cond (ux 47)
 (.regN [1,2,6,7] [
 kM 48 7,kM 5 48])
 .skip)))
 .skip)))
 (.regN [1,2,5,6] [
 kM 12 6,kU 13 12,kM 6 13])))
def t51B:AC:=(.seq (.regN [0,1] [
 kB 2 3 0,kZ 4])
 (.seq (.regN [1,2] [
 kx 5 (.mv (.con (.val (.int .i64 (-1)))))])
 (.seq (.seq (.regN [1,2,5] [
 kZ 6])
 (.block 0
 (.loop [1,2,5,6] t51L1)))
 (.seq (.regN [5] [
 kM 49 5,kM 4 49])
 .ret))))
def t51:AFn:=⟨2,t51B,
 [.tmp 4],true⟩
def t15L1:AC:=(.seq (.regN [2,5,13,14,15] [
 kT 16 15 14])
 (.seq (.cond (ux 16)
 .skip
 (.exit 0))
 (.seq (.block 1
 (.seq (.regN [2,5,13,14,15] [
 kI 17 1 13 15,kL 18 17,kM 7 18])
 (.regN [2,5,7,13,14,15] [
 kP 19 2 3 2,kM 20 5,kM 21 7,kx 22 (.call 42 [(ux 19),(ux 20),(ux 21)]),kM 5 22])))
 (.regN [2,5,13,14,15] [
 kU 23 15,kM 15 23]))))
def t15B:AC:=(.seq (.regN [0,1] [
 kB 2 3 0,kZ 4])
 (.seq (.seq (.regN [1,2] [
 kP 8 2 3 2,kC 9 14 8,kx 10 (.bini .neq (ux 9) c0)])
 (.cond (ux 10)
 (.seq (.regN [] [
 kx 4 (.mv (.con (.val (.int .i64 (-1)))))])
 .ret)
 .skip))
 (.seq (.regN [1,2] [
 kx 11 (.buildS 1 [(.val (.int .i64 0))] [(0,1,c0)]),kM 5 11])
 (.seq (.seq (.regN [1,2,5] [
 kM 12 1,kx 13 (.s2b (ux 12)),kN 14 13,kZ 15])
 (.block 0
 (.loop [2,5,13,14,15] t15L1)))
 (.seq (.regN [2,5] [
 kP 24 2 3 2,kM 25 5,kx 26 (.call 43 [(ux 24),(ux 25)]),kM 4 26])
 .ret)))))
def t15:AFn:=⟨2,t15B,
 [.tmp 4],true⟩
def t30L1:AC:=(.seq (.seq (.regN [1,2,5,6] [
 kM 11 6,kM 12 1,kx 13 (.len true (ux 12)),kT 14 11 13])
 (.cond (ux 14)
 .skip
 (.exit 0)))
 (.seq (.block 1
 (.regD [1,2,5,6] 0 [
 kP 17 2 3 2,kM 18 5,kM 19 1,kM 20 6,kx 21 (.ixS (ux 19) (ux 20)),kf 22 (.call 50 [(ux 17),(ux 18),(ux 21)]),kM 5 22]))
 (.regN [1,2,5,6] [
 kM 15 6,kU 16 15,kM 6 16])))
def t30B:AC:=(.seq (.regN [0,1] [
 kB 2 3 0,kZ 4])
 (.seq (.seq (.regN [1,2] [
 kP 7 2 3 2,kC 8 27 7,kx 9 (.bini .neq (ux 8) c0)])
 (.cond (ux 9)
 (.seq (.regN [] [
 kx 4 (.mv (.con (.val (.int .i64 (-1)))))])
 .ret)
 .skip))
 (.seq (.regN [1,2] [
 kx 10 (.buildS 1 [(.val (.int .i64 0))] [(0,1,c0)]),kM 5 10])
 (.seq (.seq (.regN [1,2,5] [
 kZ 6])
 (.block 0
 (.loop [1,2,5,6] t30L1)))
 (.seq (.regN [2,5] [
 kP 23 2 3 2,kM 24 5,kx 25 (.call 51 [(ux 23),(ux 24)]),kM 4 25])
 .ret)))))
def t30:AFn:=⟨2,t30B,
 [.tmp 4],true⟩
def t23B:AC:=(.seq (.regN [0,1] [
 kB 2 3 0,kB 3 3 1,kx 4 (.mv cF)])
 (.seq (.regN [2,3] [
 kF 5 0 2,kS 6 2 5,kF 7 0 3,kS 8 3 7,kx 9 (.call 45 [(ux 6),(ux 8)]),kM 10 9,yF 11 10 2 2,yS 12 10 2 11,yF 13 10 2 3,yS 14 10 3 13,ky 15 10 (.call 46 [(ux 12),(ux 14)]),kx 16 (.pick (ux 10) (ux 15) cF),kM 17 16,yF 18 17 1 2,yS 19 17 2 18,yF 20 17 1 3,yS 21 17 3 20,ky 22 17 (.call 47 [(ux 19),(ux 21),(.con (.fn 46 []))]),kx 23 (.pick (ux 17) (ux 22) cF),kM 4 23])
 .ret))
def t23:AFn:=⟨2,t23B,
 [.tmp 4],true⟩
def t45L1:AC:=(.seq (.regN [0,1,12,13] [
 kT 14 13 12])
 (.seq (.cond (ux 14)
 .skip
 (.exit 0))
 (.seq (.block 1
 (.seq (.regN [0,1,12,13] [
 kM 15 13,kM 5 15])
 (.seq (.regD [0,1,5,12,13] 0 [
 kM 16 0,kM 17 5,kI 18 4 16 17,kx 19 (.ldA none 4 (ux 18)),kM 20 1,kM 21 5,kI 22 4 20 21,kx 23 (.ldA none 4 (ux 22)),kx 24 (.eqa true [1,1,1,1] (ux 19) (ux 23))])
 (.cond (ux 24)
 (.seq (.regN [] [
 kx 4 (.mv cF)])
 .ret)
 .skip))))
 (.regN [0,1,12,13] [
 kU 25 13,kM 13 25]))))
def t45B:AC:=(.seq (.regN [0,1] [
 kx 4 (.mv cF)])
 (.seq (.seq (.regN [0,1] [
 kM 6 0,kN 7 6,kM 8 1,kN 9 8,kx 10 (.bini .neq (ux 7) (ux 9))])
 (.cond (ux 10)
 (.seq (.regN [] [
 kx 4 (.mv cF)])
 .ret)
 .skip))
 (.seq (.seq (.regN [0,1] [
 kM 11 0,kN 12 11,kZ 13])
 (.block 0
 (.loop [0,1,12,13] t45L1)))
 (.seq (.regN [] [
 kx 4 (.mv cT)])
 .ret))))
def t45:AFn:=⟨2,t45B,
 [.tmp 4],true⟩
def t46L1:AC:=(.seq (.regN [0,1,12,13] [
 kT 14 13 12])
 (.seq (.cond (ux 14)
 .skip
 (.exit 0))
 (.seq (.block 1
 (.seq (.regN [0,1,12,13] [
 kM 15 13,kM 5 15])
 (.seq (.regD [0,1,5,12,13] 0 [
 kM 16 0,kM 17 5,kI 18 1 16 17,kL 19 18,kM 20 1,kM 21 5,kI 22 1 20 21,kL 23 22,kx 24 (.bini .neq (ux 19) (ux 23))])
 (.cond (ux 24)
 (.seq (.regN [] [
 kx 4 (.mv cF)])
 .ret)
 .skip))))
 (.regN [0,1,12,13] [
 kU 25 13,kM 13 25]))))
def t46B:AC:=(.seq (.regN [0,1] [
 kx 4 (.mv cF)])
 (.seq (.seq (.regN [0,1] [
 kM 6 0,kN 7 6,kM 8 1,kN 9 8,kx 10 (.bini .neq (ux 7) (ux 9))])
 (.cond (ux 10)
 (.seq (.regN [] [
 kx 4 (.mv cF)])
 .ret)
 .skip))
 (.seq (.seq (.regN [0,1] [
 kM 11 0,kN 12 11,kZ 13])
 (.block 0
 (.loop [0,1,12,13] t46L1)))
 (.seq (.regN [] [
 kx 4 (.mv cT)])
 .ret))))
def t46:AFn:=⟨2,t46B,
 [.tmp 4],true⟩
def t47L1:AC:=(.seq (.regN [1,2,15,16,17] [
 kT 18 17 16])
 (.seq (.cond (ux 18)
 .skip
 (.exit 0))
 (.seq (.block 1
 (.seq (.regN [1,2,15,16,17] [
 kM 19 17,kI 20 1 15 17,kL 21 20,kM 7 19,kM 8 21])
 (.seq (.regN [1,2,7,8,15,16,17] [
 kM 22 1,kM 23 7,kI 24 1 22 23,kL 25 24,kM 9 25])
 (.seq (.regN [1,2,8,9,15,16,17] [
 kM 26 2,kM 27 8,kM 28 9,kx 29 (.callv (ux 26) [(ux 27),(ux 28)]),kx 30 (.not (ux 29))])
 (.cond (ux 30)
 (.seq (.regN [] [
 kx 6 (.mv cF)])
 .ret)
 .skip)))))
 (.regN [1,2,15,16,17] [
 kU 31 17,kM 17 31]))))
def t47B:AC:=(.seq (.regN [0,1,2] [
 kx 6 (.mv cF)])
 (.seq (.seq (.regN [0,1,2] [
 kM 10 0,kN 11 10,kM 12 1,kN 13 12,kx 14 (.bini .neq (ux 11) (ux 13))])
 (.cond (ux 14)
 (.seq (.regN [] [
 kx 6 (.mv cF)])
 .ret)
 .skip))
 (.seq (.seq (.regN [0,1,2] [
 kM 15 0,kN 16 15,kZ 17])
 (.block 0
 (.loop [1,2,15,16,17] t47L1)))
 (.seq (.regN [] [
 kx 6 (.mv cT)])
 .ret))))
def t47:AFn:=⟨3,t47B,
 [.tmp 6],true⟩
end Go.Proofs.Ytnhennjliinplaa
