/- The functions of a program, compiled: printed by wip/hm/tools/GenNf.lean. -/
import Derived.Test.YtnhennjliinplaaHmG10
import Derived.Test.YtnhennjliinplaaPr
import Derived.Test.YtnhennjliinplaaHmG12
import Derived.Test.YtnhennjliinplaaRows
namespace Go.Proofs.Ytnhennjliinplaa
open Go Go.Hm
abbrev kx (d:Nat)(o:AOp):AI:=⟨some d,none,o,0,false⟩
abbrev ky (d g:Nat)(o:AOp):AI:=⟨some d,some (g,true),o,0,false⟩
abbrev kz (d g:Nat)(o:AOp):AI:=⟨some d,some (g,false),o,0,false⟩
abbrev kn (o:AOp):AI:=⟨none,none,o,0,false⟩
abbrev kf (d:Nat)(o:AOp):AI:=⟨some d,none,o,0,true⟩
abbrev ux (n:Nat):AO:=.tmp n
abbrev um (n:Nat):AOp:=.mv (.tmp n)
abbrev c0:AO:=.con (.val (.int .i64 0))
abbrev c1:AO:=.con (.val (.int .i64 1))
abbrev cT:AO:=.con (.val (.bool true))
abbrev cF:AO:=.con (.val (.bool false))
abbrev kM (d x:Nat):=kx d (um x)
abbrev zM (d g x:Nat):=kz d g (um x)
abbrev yM (d g x:Nat):=ky d g (um x)
abbrev kL (d x:Nat):=kx d (.ld1 none (ux x))
abbrev zL (d g x:Nat):=kz d g (.ld1 none (ux x))
abbrev yL (d g x:Nat):=ky d g (.ld1 none (ux x))
abbrev kF (d n x:Nat):=kx d (.fldA n (ux x))
abbrev zF (d g n x:Nat):=kz d g (.fldA n (ux x))
abbrev yF (d g n x:Nat):=ky d g (.fldA n (ux x))
abbrev kI (d e x y:Nat):=kx d (.ixA e (ux x) (ux y))
abbrev zI (d g e x y:Nat):=kz d g (.ixA e (ux x) (ux y))
abbrev yI (d g e x y:Nat):=ky d g (.ixA e (ux x) (ux y))
abbrev kS (d b x:Nat):=kx d (.ld1 (some b) (ux x))
abbrev zS (d g b x:Nat):=kz d g (.ld1 (some b) (ux x))
abbrev yS (d g b x:Nat):=ky d g (.ld1 (some b) (ux x))
abbrev kN (d x:Nat):=kx d (.len false (ux x))
abbrev zN (d g x:Nat):=kz d g (.len false (ux x))
abbrev yN (d g x:Nat):=ky d g (.len false (ux x))
abbrev kP (d b n x:Nat):=kx d (.ldA (some b) n (ux x))
abbrev kT (d x y:Nat):=kx d (.bini .lss (ux x) (ux y))
abbrev kU (d x:Nat):=kx d (.bini .add (ux x) c1)
abbrev kO (d x y:Nat):=kx d (.pick (ux x) cT (ux y))
abbrev kZ (d:Nat):=kx d (.mv c0)
abbrev kB (d n x:Nat):=kx d (.boxR n (ux x))
abbrev kE (d x n:Nat):=kx d (.ext (ux x) n)
abbrev kC (d f x:Nat):=kx d (.call f [.tmp x])
attribute [simp] kx ky kz kn kf ux um c0 c1 cT cF kM zM yM kL zL yL kF zF yF kI zI yI kS zS yS kN zN yN kP kT kU kO kZ kB kE kC
def t61L1:AC:=(.seq (.regN [3,7,8,9] [
 kT 10 9 8])
 (.seq (.cond (ux 10)
 .skip
 (.exit 0))
 (.seq (.block 1
 (.seq (.regN [3,7,8,9] [
 kI 11 1 7 9,kL 12 11,kM 5 12])
 (.regN [3,5,7,8,9] [
 kM 13 3,kM 14 5,kx 15 (.call 72 [(ux 13),(ux 14)])])))
 (.regN [3,7,8,9] [
 kU 16 9,kM 9 16]))))
def t61B:AC:=(.seq (.regN [0] [
 kx 2 (.mv (.con (.val (.map none))))])
 (.seq (.regN [0] [
 kx 6 (.mkm),kM 3 6])
 (.seq (.seq (.regN [0,3] [
 kM 7 0,kN 8 7,kZ 9])
 (.block 0
 (.loop [3,7,8,9] t61L1)))
 (.seq (.regN [3] [
 kM 17 3,kM 2 17])
 .ret))))
def t61:AFn:=⟨1,t61B,
 [.tmp 2],false⟩
def t72R1:AC:=(.block 1
 (.seq (.regN [10,0,7] [
 kE 11 10 0,kE 12 10 1,kx 5 (.allocR []),kM 4 11,kn (.st (some 5) 0 (ux 5) (ux 12))])
 (.regN [0,4,5,7] [
 kM 13 0,kM 14 4,kP 15 5 0 5,kn (.mup false [1] (ux 13) (ux 14) (ux 15))])))
def t72B:AC:=(.seq (.regN [0,1] [
 kM 6 1])
 (.rangeM [0] (preN 72 7) (ux 6) 7 10 t72R1))
def t72:AFn:=⟨2,t72B,
 [],true⟩
def t3L1:AC:=(.seq (.seq (.regN [0,1,5,6,7] [
 kM 20 7,kM 21 0,kN 22 21,kT 23 20 22])
 (.cond (ux 23)
 .skip
 (.exit 0)))
 (.seq (.block 1
 (.seq (.seq (.regN [0,1,5,6,7] [
 kM 26 0,kM 27 7,kI 28 1 26 27,kL 29 28,kx 30 (.call 9 [(ux 29),(.con (.val (.int .i64 25)))]),kx 31 (.not (ux 30)),kM 32 31,zM 33 32 0,zM 34 32 7,zI 35 32 1 33 34,zL 36 32 35,kz 37 32 (.call 10 [.tmp 36]),kz 38 32 (.bini .neq (ux 37) c0),kO 39 32 38])
 (.cond (ux 39)
 (.seq (.regN [] [
 kx 4 (.mv cT)])
 .ret)
 .skip))
 (.seq (.regN [0,1,5,6,7] [
 kM 40 5,kM 41 0,kM 42 7,kI 43 1 41 42,kL 44 43,kC 45 11 44,kN 46 45,kx 47 (.bini .add (ux 40) (ux 46)),kM 5 47])
 (.seq (.regN [0,1,5,6,7] [
 kM 48 6,kx 49 (.bini .lss (ux 48) c0),kM 50 49,yM 51 50 0,yM 52 50 7,yI 53 50 1 51 52,yL 54 50 53,yM 55 50 1,ky 56 50 (.call 12 [(ux 54),(ux 55)]),kx 57 (.pick (ux 50) (ux 56) cF)])
 (.cond (ux 57)
 (.regN [0,1,5,7] [
 kM 58 7,kM 6 58])
 .skip)))))
 (.regN [0,1,5,6,7] [
 kM 24 7,kU 25 24,kM 7 25])))
def t3B:AC:=(.seq (.regN [0,1] [
 kx 4 (.mv cF)])
 (.seq (.seq (.regN [0,1] [
 kx 10 (.call 8 []),kx 11 (.not (ux 10))])
 (.cond (ux 11)
 (.seq (.regN [] [
 kx 4 (.mv cF)])
 .ret)
 .skip))
 (.seq (.seq (.regN [0,1] [
 kM 12 0,kN 13 12,kx 14 (.bini .gtr (ux 13) (.con (.val (.int .i64 6)))),kM 15 14,zM 16 15 1,kz 17 15 (.len true (ux 16)),kz 18 15 (.bini .gtr (ux 17) (.con (.val (.int .i64 8)))),kO 19 15 18])
 (.cond (ux 19)
 (.seq (.regN [] [
 kx 4 (.mv cT)])
 .ret)
 .skip))
 (.seq (.regN [0,1] [
 kx 5 (.mv c1),kx 6 (.mv (.con (.val (.int .i64 (-1)))))])
 (.seq (.seq (.regN [0,1,5,6] [
 kZ 7])
 (.block 0
 (.loop [0,1,5,6,7] t3L1)))
 (.seq (.regN [0,1,5,6] [
 kM 60 0,kC 61 13 60,kM 59 61,kE 62 59 0,kE 63 59 1,kx 8 (.allocR [.e0,.e0,.e0]),kn (.st (some 8) 3 (ux 8) (ux 62)),kM 9 63])
 (.seq (.regN [1,5,6,8,9] [
 kM 64 9,kx 65 (.bini .eql (ux 64) c0),kM 66 65,ky 67 66 (.ldA (some 8) 3 (ux 8)),ky 68 66 (.call 14 [.tmp 67]),ky 69 66 (.bini .eql (ux 68) c0),kx 70 (.pick (ux 66) (ux 69) cF),kM 71 70,yF 72 71 0 8,yS 73 71 8 72,yN 74 71 73,yM 75 71 5,ky 76 71 (.bini .eql (ux 74) (ux 75)),kx 77 (.pick (ux 71) (ux 76) cF),kM 78 77,ky 79 78 (.ldA (some 8) 3 (ux 8)),yM 80 78 1,ky 81 78 (.call 15 [(ux 79),(ux 80)]),yM 82 78 6,ky 83 78 (.bini .eql (ux 81) (ux 82)),kx 84 (.pick (ux 78) (ux 83) cF),kM 4 84])
 .ret)))))))
def t3:AFn:=⟨2,t3B,
 [.tmp 4],true⟩
def t8B:AC:=(.seq (.regN [] [
 kx 0 (.mv cF)])
 (.seq (.regN [] [
 kx 4 (.buildS 2 [(.val (.string ⟨#[]⟩)),(.val (.string ⟨#[]⟩))] [(0,1,(.con (.val (.string ⟨#[97,98,42]⟩)))),(1,1,(.con (.val (.string ⟨#[97]⟩))))]),kC 5 21 4,kC 6 13 5,kM 3 6,kE 7 3 0,kE 8 3 1,kx 1 (.allocR [.e0,.e0,.e0]),kn (.st (some 1) 3 (ux 1) (ux 7)),kM 2 8])
 (.seq (.regD [1,2] 0 [
 kM 9 2,kx 10 (.bini .eql (ux 9) c0),kM 11 10,yF 12 11 1 1,yS 13 11 1 12,ky 14 11 (.buildS 2 [(.val (.int .i64 0)),(.val (.int .i64 0))] [(0,1,c1),(1,1,(.con (.val (.int .i64 3))))]),ky 15 11 (.buildS 1 [(.val (.int .i64 0))] [(0,1,(.con (.val (.int .i64 2))))]),ky 16 11 (.buildS 1 [(.val (.int .i64 0))] [(0,1,(.con (.val (.int .i64 2))))]),ky 17 11 (.buildS 0 [] []),ky 18 11 (.buildS 4 [.e0,.e0,.e0,.e0] [(0,1,(ux 14)),(1,1,(ux 15)),(2,1,(ux 16)),(3,1,(ux 17))]),ky 19 11 (.call 31 [(ux 13),(ux 18)]),kx 20 (.pick (ux 11) (ux 19) cF),kM 21 20,yF 22 21 2 1,yS 23 21 1 22,ky 24 21 (.buildS 4 [(.val (.int .i64 0)),(.val (.int .i64 0)),(.val (.int .i64 0)),(.val (.int .i64 0))] [(0,1,(.con (.val (.int .i64 (-1))))),(1,1,c0),(2,1,c0),(3,1,c1)]),ky 25 21 (.call 22 [(ux 23),(ux 24)]),kx 26 (.pick (ux 21) (ux 25) cF),kM 27 26,yF 28 27 0 1,yS 29 27 1 28,yN 30 27 29,ky 31 27 (.bini .eql (ux 30) (.con (.val (.int .i64 4)))),kx 32 (.pick (ux 27) (ux 31) cF),kM 33 32,yF 34 33 0 1,yS 35 33 1 34,ky 36 33 (.ixA 4 (ux 35) (.con (.val (.int .i64 3)))),ky 37 33 (.ldA none 4 (ux 36)),ky 38 33 (.call 32 [(.con (.val (.string ⟨#[97]⟩)))]),ky 39 33 (.eqa false [1,1,1,1] (ux 37) (ux 38)),kx 40 (.pick (ux 33) (ux 39) cF),kM 0 40])
 .ret)))
def t8:AFn:=⟨0,t8B,
 [.tmp 0],true⟩
def t21L1:AC:=(.seq (.seq (.regN [0,3,4] [
 kM 8 4,kM 9 0,kN 10 9,kT 11 8 10])
 (.cond (ux 11)
 .skip
 (.exit 0)))
 (.seq (.block 1
 (.seq (.regN [0,3,4] [
 kM 15 0,kM 16 4,kI 17 1 15 16,kL 18 17,kC 19 44 18,kM 14 19,kE 20 14 0,kE 21 14 1,kE 22 14 2,kM 5 20,kM 6 21,kM 7 22])
 (.regN [0,3,4,5] [
 kM 23 3,kM 24 5,kx 25 (.buildS 1 [.e0] [(0,1,(ux 24))]),kx 26 (.app 1 24 (ux 23) (ux 25)),kM 3 26])))
 (.regN [0,3,4] [
 kM 12 4,kU 13 12,kM 4 13])))
def t21B:AC:=(.seq (.regN [0] [
 kx 2 (.mv (.con .e0))])
 (.seq (.regN [0] [
 kx 3 (.mv (.con .e0))])
 (.seq (.seq (.regN [0,3] [
 kZ 4])
 (.block 0
 (.loop [0,3,4] t21L1)))
 (.seq (.regN [3] [
 kM 27 3,kM 2 27])
 .ret))))
def t21:AFn:=⟨1,t21B,
 [.tmp 2],true⟩
def t44B:AC:=(.seq (.regN [0] [
 kx 2 (.mv (.con .e0)),kZ 3,kZ 4])
 (.seq (.seq (.regN [0] [
 kM 6 0,kx 7 (.len true (ux 6)),kx 8 (.bini .gtr (ux 7) (.con (.val (.int .i64 256))))])
 (.cond (ux 8)
 (.seq (.regN [] [
 kx 2 (.mv (.con .e0)),kZ 3,kx 4 (.mv (.con (.val (.int .i64 3))))])
 .ret)
 .skip))
 (.seq (.regN [0] [
 kM 9 0,kx 10 (.build [(.val (.string ⟨#[]⟩)),(.val (.int .i64 0)),.e0,(.val (.int .i64 0))] [(0,1,(ux 9))]),kx 11 (.boxH 4 (ux 10)),kM 5 11])
 (.seq (.regN [0,5,11] [
 kM 12 5,kC 13 66 12])
 (.seq (.seq (.regN [0,5,11] [
 kM 14 5,kC 15 67 14])
 (.cond (ux 15)
 (.regN [0,5,11] [
 kM 16 5,kM 17 5,kx 18 (.nilc (ux 17)),kF 19 1 18,kL 20 19,kx 21 (.call 68 [(ux 16),(ux 20),(.con (.val (.int .i64 7)))])])
 .skip))
 (.seq (.seq (.regN [0,5,11] [
 kM 22 5,kx 23 (.nilc (ux 22)),kF 24 3 23,kL 25 24,kx 26 (.bini .neq (ux 25) c0)])
 (.cond (ux 26)
 (.seq (.regD [5,11] 0 [
 kM 27 5,kx 28 (.nilc (ux 27)),kF 29 1 28,kL 30 29,kM 31 5,kx 32 (.nilc (ux 31)),kF 33 3 32,kL 34 33,kx 2 (.mv (.con .e0)),kM 3 30,kM 4 34])
 .ret)
 .skip))
 (.seq (.regN [0,5,11] [
 kM 35 5,kx 36 (.nilc (ux 35)),kF 37 2 36,kL 38 37,kM 39 0,kx 40 (.len true (ux 39)),kM 2 38,kM 3 40,kZ 4])
 .ret)))))))
def t44:AFn:=⟨1,t44B,
 [.tmp 2,.tmp 3,.tmp 4],true⟩
def t66L1:AC:=(.seq (.seq (.regD [0,3] 0 [
 kM 7 0,kf 8 (.call 67 [.tmp 7]),kM 9 8,yM 10 9 0,ky 11 9 (.nilc (ux 10)),yF 12 9 0 11,yL 13 9 12,yM 14 9 0,ky 15 9 (.nilc (ux 14)),yF 16 9 1 15,yL 17 9 16,ky 18 9 (.ixS (ux 13) (ux 17)),ky 19 9 (.bini .eql (ux 18) (.con (.val (.int .u8 124)))),kx 20 (.pick (ux 9) (ux 19) cF)])
 (.cond (ux 20)
 .skip
 (.exit 0)))
 (.block 1
 (.seq (.regN [0,3] [
 kM 21 0,kx 22 (.nilc (ux 21)),kF 23 1 22,kL 24 23,kU 25 24,kx 26 (.nilc (ux 21)),kF 27 1 26,kn (.st none 1 (ux 27) (ux 25))])
 (.regN [0,3] [
 kM 28 3,kM 29 0,kC 30 76 29,kx 31 (.buildS 1 [(.val (.int .i64 0))] [(0,1,(ux 30))]),kx 32 (.app 1 8 (ux 28) (ux 31)),kM 3 32]))))
def t66B:AC:=(.seq (.regN [0] [
 kZ 2])
 (.seq (.regN [0] [
 kM 4 0,kC 5 76 4,kx 6 (.buildS 1 [(.val (.int .i64 0))] [(0,1,(ux 5))]),kM 3 6])
 (.seq (.block 0
 (.loop [0,3] t66L1))
 (.seq (.seq (.regN [0,3] [
 kM 33 3,kN 34 33,kx 35 (.bini .eql (ux 34) c1)])
 (.cond (ux 35)
 (.seq (.regN [3] [
 kM 36 3,kx 37 (.ixA 1 (ux 36) c0),kL 38 37,kM 2 38])
 .ret)
 .skip))
 (.seq (.regN [0,3] [
 kM 39 0,kx 40 (.build [(.val (.int .u64 0)),(.val (.int .u64 0)),(.val (.int .u64 0)),(.val (.int .u64 0))] []),kM 41 3,kx 42 (.call 77 [(ux 39),(.con (.val (.int .i64 4))),(ux 40),(ux 41)]),kM 2 42])
 .ret)))))
def t66:AFn:=⟨1,t66B,
 [.tmp 2],false⟩
def t76L1:AC:=(.seq (.seq (.regD [0,3] 0 [
 kM 4 0,kf 5 (.call 67 [.tmp 4]),kM 6 5,yM 7 6 0,ky 8 6 (.nilc (ux 7)),yF 9 6 0 8,yL 10 6 9,yM 11 6 0,ky 12 6 (.nilc (ux 11)),yF 13 6 1 12,yL 14 6 13,ky 15 6 (.ixS (ux 10) (ux 14)),ky 16 6 (.bini .neq (ux 15) (.con (.val (.int .u8 124)))),kx 17 (.pick (ux 6) (ux 16) cF),kM 18 17,yM 19 18 0,ky 20 18 (.nilc (ux 19)),yF 21 18 0 20,yL 22 18 21,yM 23 18 0,ky 24 18 (.nilc (ux 23)),yF 25 18 1 24,yL 26 18 25,ky 27 18 (.ixS (ux 22) (ux 26)),ky 28 18 (.bini .neq (ux 27) (.con (.val (.int .u8 41)))),kx 29 (.pick (ux 18) (ux 28) cF)])
 (.cond (ux 29)
 .skip
 (.exit 0)))
 (.block 1
 (.regN [0,3] [
 kM 30 3,kM 31 0,kC 32 89 31,kx 33 (.buildS 1 [(.val (.int .i64 0))] [(0,1,(ux 32))]),kx 34 (.app 1 8 (ux 30) (ux 33)),kM 3 34])))
def t76B:AC:=(.seq (.regN [0] [
 kZ 2])
 (.seq (.regN [0] [
 kx 3 (.mv (.con .e0))])
 (.seq (.block 0
 (.loop [0,3] t76L1))
 (.seq (.seq (.regN [0,3] [
 kM 35 3,kN 36 35])
 (.block 2
 (.seq (.regN [0,3,36] [
 kx 38 (.bini .eql (ux 36) c0),kM 37 38])
 (.cond (ux 37)
 (.seq (.regN [0] [
 kM 39 0,kx 40 (.build [(.val (.int .u64 0)),(.val (.int .u64 0)),(.val (.int .u64 0)),(.val (.int .u64 0))] []),kx 41 (.call 77 [(ux 39),c1,(ux 40),(.con .e0)]),kM 2 41])
 .ret)
 (.seq (.regN [0,3,36] [
 kx 43 (.bini .eql (ux 36) c1),kM 42 43])
 (.cond (ux 42)
 (.seq (.regN [3] [
 kM 44 3,kx 45 (.ixA 1 (ux 44) c0),kL 46 45,kM 2 46])
 .ret)
 .skip))))))
 (.seq (.regN [0,3] [
 kM 47 0,kx 48 (.build [(.val (.int .u64 0)),(.val (.int .u64 0)),(.val (.int .u64 0)),(.val (.int .u64 0))] []),kM 49 3,kx 50 (.call 77 [(ux 47),(.con (.val (.int .i64 3))),(ux 48),(ux 49)]),kM 2 50])
 .ret)))))
def t76:AFn:=⟨1,t76B,
 [.tmp 2],false⟩
def t67B:AC:=(.seq (.regN [0] [
 kx 2 (.mv cF)])
 (.seq (.regD [0] 0 [
 kM 3 0,kx 4 (.nilc (ux 3)),kF 5 3 4,kL 6 5,kx 7 (.bini .eql (ux 6) c0),kM 8 7,yM 9 8 0,ky 10 8 (.nilc (ux 9)),yF 11 8 1 10,yL 12 8 11,yM 13 8 0,ky 14 8 (.nilc (ux 13)),yF 15 8 0 14,yL 16 8 15,ky 17 8 (.len true (ux 16)),ky 18 8 (.bini .lss (ux 12) (ux 17)),kx 19 (.pick (ux 8) (ux 18) cF),kM 2 19])
 .ret))
def t67:AFn:=⟨1,t67B,
 [.tmp 2],false⟩
def t89L1:AC:=(.seq (.seq (.regN [0,3] [
 kM 7 0,kC 8 67 7])
 (.cond (ux 8)
 .skip
 (.exit 0)))
 (.block 1
 (.seq (.regN [0,3] [
 kZ 4])
 (.seq (.seq (.regD [0,3,4] 0 [
 kM 9 0,kx 10 (.nilc (ux 9)),kF 11 0 10,kL 12 11,kM 13 0,kx 14 (.nilc (ux 13)),kF 15 1 14,kL 16 15,kx 17 (.ixS (ux 12) (ux 16))])
 (.block 2
 (.seq (.regN [0,3,4,17] [
 kx 19 (.bini .eql (ux 17) (.con (.val (.int .u8 42)))),kM 18 19])
 (.cond (ux 18)
 (.regN [0,3] [
 kx 4 (.mv (.con (.val (.int .i64 5))))])
 (.seq (.regN [0,3,4,17] [
 kx 21 (.bini .eql (ux 17) (.con (.val (.int .u8 43)))),kM 20 21])
 (.cond (ux 20)
 (.regN [0,3] [
 kx 4 (.mv (.con (.val (.int .i64 6))))])
 (.seq (.regN [0,3,4,17] [
 kx 23 (.bini .eql (ux 17) (.con (.val (.int .u8 63)))),kM 22 23])
 (.cond (ux 22)
 (.regN [0,3] [
 kx 4 (.mv (.con (.val (.int .i64 7))))])
 .skip))))))))
 (.seq (.seq (.regN [0,3,4] [
 kM 24 4,kx 25 (.bini .eql (ux 24) c0)])
 (.cond (ux 25)
 (.seq (.regN [3] [
 kM 26 3,kM 2 26])
 .ret)
 .skip))
 (.seq (.regN [0,3,4] [
 kM 27 0,kx 28 (.nilc (ux 27)),kF 29 1 28,kL 30 29,kU 31 30,kx 32 (.nilc (ux 27)),kF 33 1 32,kn (.st none 1 (ux 33) (ux 31))])
 (.regN [0,3,4] [
 kM 34 0,kM 35 4,kx 36 (.build [(.val (.int .u64 0)),(.val (.int .u64 0)),(.val (.int .u64 0)),(.val (.int .u64 0))] []),kM 37 3,kx 38 (.buildS 1 [(.val (.int .i64 0))] [(0,1,(ux 37))]),kx 39 (.call 77 [(ux 34),(ux 35),(ux 36),(ux 38)]),kM 3 39])))))))
def t89B:AC:=(.seq (.regN [0] [
 kZ 2])
 (.seq (.regN [0] [
 kM 5 0,kC 6 96 5,kM 3 6])
 (.seq (.block 0
 (.loop [0,3] t89L1))
 (.seq (.regN [3] [
 kM 40 3,kM 2 40])
 .ret))))
def t89:AFn:=⟨1,t89B,
 [.tmp 2],false⟩
def t96B:AC:=(.seq (.regN [0] [
 kZ 2])
 (.seq (.regD [0] 0 [
 kM 7 0,kx 8 (.nilc (ux 7)),kF 9 0 8,kL 10 9,kM 11 0,kx 12 (.nilc (ux 11)),kF 13 1 12,kL 14 13,kx 15 (.ixS (ux 10) (ux 14)),kM 3 15])
 (.seq (.seq (.regN [0,3] [
 kM 16 3])
 (.block 0
 (.seq (.seq (.regN [0,3,16] [
 kx 18 (.bini .eql (ux 16) (.con (.val (.int .u8 41)))),kM 17 18])
 (.cond (ux 17)
 .skip
 (.seq (.regN [0,3,16] [
 kx 19 (.bini .eql (ux 16) (.con (.val (.int .u8 93)))),kM 17 19])
 (.cond (ux 17)
 .skip
 (.seq (.regN [0,3,16] [
 kx 20 (.bini .eql (ux 16) (.con (.val (.int .u8 124)))),kM 17 20])
 (.cond (ux 17)
 .skip
 (.seq (.regN [0,3,16] [
 kx 21 (.bini .eql (ux 16) (.con (.val (.int .u8 42)))),kM 17 21])
 (.cond (ux 17)
 .skip
 (.seq (.regN [0,3,16] [
 kx 22 (.bini .eql (ux 16) (.con (.val (.int .u8 43)))),kM 17 22])
 (.cond (ux 17)
 .skip
 (.regN [0,3,16] [
 kx 23 (.bini .eql (ux 16) (.con (.val (.int .u8 63)))),kM 17 23])))))))))))
 (.cond (ux 17)
 (.seq (.regN [0] [
 kM 24 0,kM 25 0,kx 26 (.nilc (ux 25)),kF 27 1 26,kL 28 27,kx 29 (.call 68 [(ux 24),(ux 28),(.con (.val (.int .i64 7)))]),kM 2 29])
 .ret)
 .skip))))
 (.seq (.regN [0,3] [
 kM 30 0,kx 31 (.nilc (ux 30)),kF 32 1 31,kL 33 32,kU 34 33,kx 35 (.nilc (ux 30)),kF 36 1 35,kn (.st none 1 (ux 36) (ux 34))])
 (.seq (.seq (.regN [0,3] [
 kM 37 3])
 (.block 1
 (.seq (.regN [0,3,37] [
 kx 39 (.bini .eql (ux 37) (.con (.val (.int .u8 40)))),kM 38 39])
 (.cond (ux 38)
 (.seq (.regN [0] [
 kM 40 0,kC 41 66 40,kM 4 41])
 (.seq (.seq (.regN [0,4] [
 kM 42 0,kC 43 67 42,kx 44 (.not (ux 43))])
 (.cond (ux 44)
 (.seq (.regN [0] [
 kM 45 0,kM 46 0,kx 47 (.nilc (ux 46)),kF 48 0 47,kL 49 48,kx 50 (.len true (ux 49)),kx 51 (.call 68 [(ux 45),(ux 50),(.con (.val (.int .i64 8)))]),kM 2 51])
 .ret)
 .skip))
 (.seq (.seq (.regD [0,4] 0 [
 kM 52 0,kx 53 (.nilc (ux 52)),kF 54 0 53,kL 55 54,kM 56 0,kx 57 (.nilc (ux 56)),kF 58 1 57,kL 59 58,kx 60 (.ixS (ux 55) (ux 59)),kx 61 (.bini .neq (ux 60) (.con (.val (.int .u8 41))))])
 (.cond (ux 61)
 (.seq (.regN [0] [
 kM 62 0,kM 63 0,kx 64 (.nilc (ux 63)),kF 65 1 64,kL 66 65,kx 67 (.call 68 [(ux 62),(ux 66),(.con (.val (.int .i64 7)))]),kM 2 67])
 .ret)
 .skip))
 (.seq (.regN [0,4] [
 kM 68 0,kx 69 (.nilc (ux 68)),kF 70 1 69,kL 71 70,kU 72 71,kx 73 (.nilc (ux 68)),kF 74 1 73,kn (.st none 1 (ux 74) (ux 72))])
 (.seq (.regN [4] [
 kM 75 4,kM 2 75])
 .ret)))))
 (.seq (.regN [0,3,37] [
 kx 77 (.bini .eql (ux 37) (.con (.val (.int .u8 91)))),kM 76 77])
 (.cond (ux 76)
 (.seq (.regN [0] [
 kM 78 0,kC 79 98 78,kx 5 (.allocR [(.val (.int .u64 0)),(.val (.int .u64 0)),(.val (.int .u64 0)),(.val (.int .u64 0))]),kn (.st (some 5) 4 (ux 5) (ux 79))])
 (.seq (.regN [0,5] [
 kM 80 0,kP 81 5 4 5,kx 82 (.call 77 [(ux 80),(.con (.val (.int .i64 2))),(ux 81),(.con .e0)]),kM 2 82])
 .ret))
 (.seq (.regN [0,3,37] [
 kx 84 (.bini .eql (ux 37) (.con (.val (.int .u8 46)))),kM 83 84])
 (.cond (ux 83)
 (.seq (.regN [0] [
 kM 85 0,kx 86 (.call 32 [(.con (.val (.string ⟨#[10]⟩)))]),kC 87 99 86,kx 88 (.call 77 [(ux 85),(.con (.val (.int .i64 2))),(ux 87),(.con .e0)]),kM 2 88])
 .ret)
 (.seq (.regN [0,3,37] [
 kx 90 (.bini .eql (ux 37) (.con (.val (.int .u8 92)))),kM 89 90])
 (.cond (ux 89)
 (.seq (.regN [0] [
 kM 91 0,kC 92 100 91,kM 6 92])
 (.seq (.regN [0,6] [
 kM 93 0,kM 94 6,kx 95 (.buildS 1 [(.val (.int .u8 0))] [(0,1,(ux 94))]),kx 96 (.b2s (ux 95)),kC 97 32 96,kx 98 (.call 77 [(ux 93),(.con (.val (.int .i64 2))),(ux 97),(.con .e0)]),kM 2 98])
 .ret))
 .skip))))))))))
 (.seq (.regN [0,3] [
 kM 99 0,kM 100 3,kx 101 (.buildS 1 [(.val (.int .u8 0))] [(0,1,(ux 100))]),kx 102 (.b2s (ux 101)),kC 103 32 102,kx 104 (.call 77 [(ux 99),(.con (.val (.int .i64 2))),(ux 103),(.con .e0)]),kM 2 104])
 .ret))))))
def t96:AFn:=⟨1,t96B,
 [.tmp 2],false⟩
def t68B:AC:=(.seq (.regN [0,1,2] [
 kZ 6])
 (.seq (.seq (.regN [0,1,2] [
 kM 7 0,kx 8 (.nilc (ux 7)),kF 9 3 8,kL 10 9,kx 11 (.bini .eql (ux 10) c0)])
 (.cond (ux 11)
 (.regN [0,1,2] [
 kM 12 0,kM 13 0,kM 14 2,kM 15 1,kx 16 (.nilc (ux 12)),kF 17 3 16,kn (.st none 1 (ux 17) (ux 14)),kx 18 (.nilc (ux 13)),kF 19 1 18,kn (.st none 1 (ux 19) (ux 15))])
 .skip))
 (.seq (.regN [] [
 kZ 6])
 .ret)))
def t68:AFn:=⟨3,t68B,
 [.tmp 6],false⟩
def t98L1:AC:=(.seq (.seq (.regD [0,2,3,4] 0 [
 kM 31 0,kf 32 (.call 67 [.tmp 31]),kM 33 32,yM 34 33 0,ky 35 33 (.nilc (ux 34)),yF 36 33 0 35,yL 37 33 36,yM 38 33 0,ky 39 33 (.nilc (ux 38)),yF 40 33 1 39,yL 41 33 40,ky 42 33 (.ixS (ux 37) (ux 41)),ky 43 33 (.bini .neq (ux 42) (.con (.val (.int .u8 93)))),kx 44 (.pick (ux 33) (ux 43) cF)])
 (.cond (ux 44)
 .skip
 (.exit 0)))
 (.block 1
 (.seq (.regN [0,2,3,4] [
 kM 45 0,kC 46 101 45,kM 5 46])
 (.seq (.regN [0,2,3,4,5] [
 kM 47 5,kM 6 47])
 (.seq (.seq (.regD [0,2,3,4,5,6] 0 [
 kM 48 0,kx 49 (.nilc (ux 48)),kF 50 3 49,kL 51 50,kx 52 (.bini .eql (ux 51) c0),kM 53 52,yM 54 53 0,ky 55 53 (.nilc (ux 54)),yF 56 53 1 55,yL 57 53 56,ky 58 53 (.bini .add (ux 57) c1),yM 59 53 0,ky 60 53 (.nilc (ux 59)),yF 61 53 0 60,yL 62 53 61,ky 63 53 (.len true (ux 62)),ky 64 53 (.bini .lss (ux 58) (ux 63)),kx 65 (.pick (ux 53) (ux 64) cF),kM 66 65,yM 67 66 0,ky 68 66 (.nilc (ux 67)),yF 69 66 0 68,yL 70 66 69,yM 71 66 0,ky 72 66 (.nilc (ux 71)),yF 73 66 1 72,yL 74 66 73,ky 75 66 (.ixS (ux 70) (ux 74)),ky 76 66 (.bini .eql (ux 75) (.con (.val (.int .u8 45)))),kx 77 (.pick (ux 66) (ux 76) cF),kM 78 77,yM 79 78 0,ky 80 78 (.nilc (ux 79)),yF 81 78 0 80,yL 82 78 81,yM 83 78 0,ky 84 78 (.nilc (ux 83)),yF 85 78 1 84,yL 86 78 85,ky 87 78 (.bini .add (ux 86) c1),ky 88 78 (.ixS (ux 82) (ux 87)),ky 89 78 (.bini .neq (ux 88) (.con (.val (.int .u8 93)))),kx 90 (.pick (ux 78) (ux 89) cF)])
 (.cond (ux 90)
 (.seq (.regN [0,2,3,4,5] [
 kM 91 0,kx 92 (.nilc (ux 91)),kF 93 1 92,kL 94 93,kU 95 94,kx 96 (.nilc (ux 91)),kF 97 1 96,kn (.st none 1 (ux 97) (ux 95))])
 (.seq (.regN [0,2,3,4,5] [
 kM 98 0,kx 99 (.nilc (ux 98)),kF 100 1 99,kL 101 100,kM 7 101])
 (.seq (.regN [0,2,3,4,5,7] [
 kM 102 0,kC 103 101 102,kM 6 103])
 (.seq (.regN [0,2,3,4,5,6,7] [
 kM 104 0,kx 105 (.nilc (ux 104)),kF 106 3 105,kL 107 106,kx 108 (.bini .eql (ux 107) c0),kM 109 108,yM 110 109 6,yM 111 109 5,ky 112 109 (.bini .lss (ux 110) (ux 111)),kx 113 (.pick (ux 109) (ux 112) cF)])
 (.cond (ux 113)
 (.regN [0,2,3,4,5,6,7] [
 kM 114 0,kM 115 7,kx 116 (.call 68 [(ux 114),(ux 115),(.con (.val (.int .i64 7)))])])
 .skip)))))
 .skip))
 (.regD [0,2,3,4,5,6] 0 [
 kP 117 3 4 3,kM 118 5,kM 119 6,kf 120 (.call 103 [(ux 118),(ux 119)]),kf 121 (.call 102 [(ux 117),(ux 120)]),kn (.st (some 3) 4 (ux 3) (ux 121))]))))))
def t98B:AC:=(.seq (.regN [0] [
 kx 2 (.allocR [(.val (.int .u64 0)),(.val (.int .u64 0)),(.val (.int .u64 0)),(.val (.int .u64 0))])])
 (.seq (.regN [0,2] [
 kx 8 (.build [(.val (.int .u64 0)),(.val (.int .u64 0)),(.val (.int .u64 0)),(.val (.int .u64 0))] []),kx 3 (.allocR [(.val (.int .u64 0)),(.val (.int .u64 0)),(.val (.int .u64 0)),(.val (.int .u64 0))]),kn (.st (some 3) 4 (ux 3) (ux 8))])
 (.seq (.regD [0,2,3] 0 [
 kM 9 0,kf 10 (.call 67 [.tmp 9]),kM 11 10,yM 12 11 0,ky 13 11 (.nilc (ux 12)),yF 14 11 0 13,yL 15 11 14,yM 16 11 0,ky 17 11 (.nilc (ux 16)),yF 18 11 1 17,yL 19 11 18,ky 20 11 (.ixS (ux 15) (ux 19)),ky 21 11 (.bini .eql (ux 20) (.con (.val (.int .u8 94)))),kx 22 (.pick (ux 11) (ux 21) cF),kM 4 22])
 (.seq (.seq (.regN [0,2,3,4] [
 kM 23 4])
 (.cond (ux 23)
 (.regN [0,2,3,4] [
 kM 24 0,kx 25 (.nilc (ux 24)),kF 26 1 25,kL 27 26,kU 28 27,kx 29 (.nilc (ux 24)),kF 30 1 29,kn (.st none 1 (ux 30) (ux 28))])
 .skip))
 (.seq (.block 0
 (.loop [0,2,3,4] t98L1))
 (.seq (.seq (.regN [0,2,3,4] [
 kM 122 0,kC 123 67 122,kx 124 (.not (ux 123))])
 (.cond (ux 124)
 (.seq (.regN [0,2,3] [
 kM 125 0,kM 126 0,kx 127 (.nilc (ux 126)),kF 128 0 127,kL 129 128,kx 130 (.len true (ux 129)),kx 131 (.call 68 [(ux 125),(ux 130),(.con (.val (.int .i64 8)))])])
 (.seq (.regN [2,3] [
 kP 132 3 4 3,kn (.st (some 2) 4 (ux 2) (ux 132))])
 .ret))
 .skip))
 (.seq (.regN [0,2,3,4] [
 kM 133 0,kx 134 (.nilc (ux 133)),kF 135 1 134,kL 136 135,kU 137 136,kx 138 (.nilc (ux 133)),kF 139 1 138,kn (.st none 1 (ux 139) (ux 137))])
 (.seq (.seq (.regN [2,3,4] [
 kM 140 4])
 (.cond (ux 140)
 (.seq (.regN [2,3] [
 kP 141 3 4 3,kC 142 99 141,kn (.st (some 2) 4 (ux 2) (ux 142))])
 .ret)
 .skip))
 (.seq (.regN [2,3] [
 kP 143 3 4 3,kn (.st (some 2) 4 (ux 2) (ux 143))])
 .ret)))))))))
def t98:AFn:=⟨1,t98B,
 [.cell 2 4 true],false⟩
def t101B:AC:=(.seq (.regN [0] [
 kx 2 (.mv (.con (.val (.int .u8 0))))])
 (.seq (.regD [0] 0 [
 kM 4 0,kx 5 (.nilc (ux 4)),kF 6 0 5,kL 7 6,kM 8 0,kx 9 (.nilc (ux 8)),kF 10 1 9,kL 11 10,kx 12 (.ixS (ux 7) (ux 11)),kM 3 12])
 (.seq (.regN [0,3] [
 kM 13 0,kx 14 (.nilc (ux 13)),kF 15 1 14,kL 16 15,kU 17 16,kx 18 (.nilc (ux 13)),kF 19 1 18,kn (.st none 1 (ux 19) (ux 17))])
 (.seq (.seq (.regN [0,3] [
 kM 20 3,kx 21 (.bini .eql (ux 20) (.con (.val (.int .u8 92))))])
 (.cond (ux 21)
 (.seq (.regN [0] [
 kM 22 0,kC 23 100 22,kM 2 23])
 .ret)
 .skip))
 (.seq (.regN [3] [
 kM 24 3,kM 2 24])
 .ret)))))
def t101:AFn:=⟨1,t101B,
 [.tmp 2],false⟩
def t100L1:AC:=(.seq (.seq (.regN [0,4,5] [
 kM 38 5,kx 39 (.bini .leq (ux 38) (.con (.val (.int .i64 2))))])
 (.cond (ux 39)
 .skip
 (.exit 1)))
 (.seq (.block 2
 (.seq (.seq (.regD [0,4,5] 0 [
 kM 42 0,kx 43 (.nilc (ux 42)),kF 44 1 43,kL 45 44,kM 46 5,kx 47 (.bini .add (ux 45) (ux 46)),kM 48 0,kx 49 (.nilc (ux 48)),kF 50 0 49,kL 51 50,kx 52 (.len true (ux 51)),kx 53 (.bini .geq (ux 47) (ux 52))])
 (.cond (ux 53)
 (.seq (.regN [0] [
 kM 54 0,kM 55 0,kx 56 (.nilc (ux 55)),kF 57 0 56,kL 58 57,kx 59 (.len true (ux 58)),kx 60 (.call 68 [(ux 54),(ux 59),(.con (.val (.int .i64 8)))])])
 (.seq (.regN [] [
 kx 2 (.mv (.con (.val (.int .u8 0))))])
 .ret))
 .skip))
 (.seq (.regD [0,4,5] 0 [
 kM 61 0,kx 62 (.nilc (ux 61)),kF 63 0 62,kL 64 63,kM 65 0,kx 66 (.nilc (ux 65)),kF 67 1 66,kL 68 67,kM 69 5,kx 70 (.bini .add (ux 68) (ux 69)),kx 71 (.ixS (ux 64) (ux 70)),kf 72 (.call 104 [.tmp 71]),kM 6 72])
 (.seq (.seq (.regN [0,4,5,6] [
 kM 73 6,kx 74 (.bini .lss (ux 73) c0)])
 (.cond (ux 74)
 (.seq (.regN [0,5] [
 kM 75 0,kM 76 0,kx 77 (.nilc (ux 76)),kF 78 1 77,kL 79 78,kM 80 5,kx 81 (.bini .add (ux 79) (ux 80)),kx 82 (.call 68 [(ux 75),(ux 81),(.con (.val (.int .i64 7)))])])
 (.seq (.regN [] [
 kx 2 (.mv (.con (.val (.int .u8 0))))])
 .ret))
 .skip))
 (.regN [0,4,5,6] [
 kM 83 4,kx 84 (.bini .mul (.con (.val (.int .i64 16))) (ux 83)),kM 85 6,kx 86 (.bini .add (ux 84) (ux 85)),kM 4 86])))))
 (.regN [0,4,5] [
 kM 40 5,kU 41 40,kM 5 41])))
def t100B:AC:=(.seq (.regN [0] [
 kx 2 (.mv (.con (.val (.int .u8 0))))])
 (.seq (.seq (.regN [0] [
 kM 7 0,kC 8 67 7,kx 9 (.not (ux 8))])
 (.cond (ux 9)
 (.seq (.regN [0] [
 kM 10 0,kM 11 0,kx 12 (.nilc (ux 11)),kF 13 0 12,kL 14 13,kx 15 (.len true (ux 14)),kx 16 (.call 68 [(ux 10),(ux 15),(.con (.val (.int .i64 8)))])])
 (.seq (.regN [] [
 kx 2 (.mv (.con (.val (.int .u8 0))))])
 .ret))
 .skip))
 (.seq (.regD [0] 0 [
 kM 17 0,kx 18 (.nilc (ux 17)),kF 19 0 18,kL 20 19,kM 21 0,kx 22 (.nilc (ux 21)),kF 23 1 22,kL 24 23,kx 25 (.ixS (ux 20) (ux 24)),kM 3 25])
 (.seq (.block 0
 (.seq (.regN [0,3] [
 kM 27 3,kx 28 (.bini .eql (ux 27) (.con (.val (.int .u8 110)))),kM 26 28])
 (.cond (ux 26)
 (.regN [0] [
 kx 3 (.mv (.con (.val (.int .u8 10))))])
 (.seq (.regN [0,3] [
 kM 30 3,kx 31 (.bini .eql (ux 30) (.con (.val (.int .u8 116)))),kM 29 31])
 (.cond (ux 29)
 (.regN [0] [
 kx 3 (.mv (.con (.val (.int .u8 9))))])
 (.seq (.regN [0,3] [
 kM 33 3,kx 34 (.bini .eql (ux 33) (.con (.val (.int .u8 114)))),kM 32 34])
 (.cond (ux 32)
 (.regN [0] [
 kx 3 (.mv (.con (.val (.int .u8 13))))])
 (.seq (.regN [0,3] [
 kM 36 3,kx 37 (.bini .eql (ux 36) (.con (.val (.int .u8 120)))),kM 35 37])
 (.cond (ux 35)
 (.seq (.regN [0] [
 kZ 4])
 (.seq (.seq (.regN [0,4] [
 kx 5 (.mv c1)])
 (.block 1
 (.loop [0,4,5] t100L1)))
 (.seq (.regN [0,4] [
 kM 87 0,kM 88 0,kx 89 (.nilc (ux 88)),kF 90 1 89,kL 91 90,kx 92 (.bini .add (ux 91) (.con (.val (.int .i64 2)))),kx 93 (.nilc (ux 87)),kF 94 1 93,kn (.st none 1 (ux 94) (ux 92))])
 (.regN [0,4] [
 kM 95 4,kx 96 (.cvi .u8 (ux 95)),kM 3 96]))))
 (.seq (.regN [0,3] [
 kM 98 3,kC 99 105 98,kM 97 99])
 (.cond (ux 97)
 (.seq (.regN [0] [
 kM 100 0,kM 101 0,kx 102 (.nilc (ux 101)),kF 103 1 102,kL 104 103,kx 105 (.call 68 [(ux 100),(ux 104),(.con (.val (.int .i64 7)))])])
 (.seq (.regN [] [
 kx 2 (.mv (.con (.val (.int .u8 0))))])
 .ret))
 .skip)))))))))))
 (.seq (.regN [0,3] [
 kM 106 0,kx 107 (.nilc (ux 106)),kF 108 1 107,kL 109 108,kU 110 109,kx 111 (.nilc (ux 106)),kF 112 1 111,kn (.st none 1 (ux 112) (ux 110))])
 (.seq (.regN [3] [
 kM 113 3,kM 2 113])
 .ret))))))
def t100:AFn:=⟨1,t100B,
 [.tmp 2],false⟩
def t104B:AC:=(.seq (.regN [0] [
 kZ 2])
 (.seq (.block 0
 (.seq (.regN [0] [
 kM 4 0,kx 5 (.bini .geq (ux 4) (.con (.val (.int .u8 48)))),kM 6 5,yM 7 6 0,ky 8 6 (.bini .leq (ux 7) (.con (.val (.int .u8 57)))),kx 9 (.pick (ux 6) (ux 8) cF),kM 3 9])
 (.cond (ux 3)
 (.seq (.regN [0] [
 kM 10 0,kx 11 (.bini .sub (ux 10) (.con (.val (.int .u8 48)))),kx 12 (.cvi .i64 (ux 11)),kM 2 12])
 .ret)
 (.seq (.regN [0] [
 kM 14 0,kx 15 (.bini .geq (ux 14) (.con (.val (.int .u8 97)))),kM 16 15,yM 17 16 0,ky 18 16 (.bini .leq (ux 17) (.con (.val (.int .u8 102)))),kx 19 (.pick (ux 16) (ux 18) cF),kM 13 19])
 (.cond (ux 13)
 (.seq (.regN [0] [
 kM 20 0,kx 21 (.bini .sub (ux 20) (.con (.val (.int .u8 97)))),kx 22 (.cvi .i64 (ux 21)),kx 23 (.bini .add (ux 22) (.con (.val (.int .i64 10)))),kM 2 23])
 .ret)
 (.seq (.regN [0] [
 kM 25 0,kx 26 (.bini .geq (ux 25) (.con (.val (.int .u8 65)))),kM 27 26,yM 28 27 0,ky 29 27 (.bini .leq (ux 28) (.con (.val (.int .u8 70)))),kx 30 (.pick (ux 27) (ux 29) cF),kM 24 30])
 (.cond (ux 24)
 (.seq (.regN [0] [
 kM 31 0,kx 32 (.bini .sub (ux 31) (.con (.val (.int .u8 65)))),kx 33 (.cvi .i64 (ux 32)),kx 34 (.bini .add (ux 33) (.con (.val (.int .i64 10)))),kM 2 34])
 .ret)
 .skip)))))))
 (.seq (.regN [] [
 kx 2 (.mv (.con (.val (.int .i64 (-1)))))])
 .ret)))
def t104:AFn:=⟨1,t104B,
 [.tmp 2],true⟩
def t105B:AC:=(.seq (.regN [0] [
 kx 2 (.mv cF)])
 (.seq (.regN [0] [
 kM 3 0,kx 4 (.bini .geq (ux 3) (.con (.val (.int .u8 48)))),kM 5 4,yM 6 5 0,ky 7 5 (.bini .leq (ux 6) (.con (.val (.int .u8 57)))),kx 8 (.pick (ux 5) (ux 7) cF),kM 9 8,zM 10 9 0,kz 11 9 (.bini .geq (ux 10) (.con (.val (.int .u8 97)))),zM 12 9 11,yM 13 12 0,ky 14 12 (.bini .leq (ux 13) (.con (.val (.int .u8 122)))),kz 15 9 (.pick (ux 12) (ux 14) cF),kO 16 9 15,kM 17 16,zM 18 17 0,kz 19 17 (.bini .geq (ux 18) (.con (.val (.int .u8 65)))),zM 20 17 19,yM 21 20 0,ky 22 20 (.bini .leq (ux 21) (.con (.val (.int .u8 90)))),kz 23 17 (.pick (ux 20) (ux 22) cF),kO 24 17 23,kM 2 24])
 .ret))
def t105:AFn:=⟨1,t105B,
 [.tmp 2],true⟩
def t103L1:AC:=(.seq (.seq (.regN [1,4,5,6] [
 kM 10 6,kM 11 1,kx 12 (.cvi .i64 (ux 11)),kx 13 (.bini .leq (ux 10) (ux 12))])
 (.cond (ux 13)
 .skip
 (.exit 0)))
 (.seq (.block 1
 (.regN [1,4,5,6] [
 kP 16 5 4 5,kM 17 6,kx 18 (.cvi .u8 (ux 17)),kx 19 (.call 52 [(ux 16),(ux 18)]),kn (.st (some 5) 4 (ux 5) (ux 19))]))
 (.regN [1,4,5,6] [
 kM 14 6,kU 15 14,kM 6 15])))
def t103B:AC:=(.seq (.regN [0,1] [
 kx 4 (.allocR [(.val (.int .u64 0)),(.val (.int .u64 0)),(.val (.int .u64 0)),(.val (.int .u64 0))])])
 (.seq (.regN [0,1,4] [
 kx 7 (.build [(.val (.int .u64 0)),(.val (.int .u64 0)),(.val (.int .u64 0)),(.val (.int .u64 0))] []),kx 5 (.allocR [(.val (.int .u64 0)),(.val (.int .u64 0)),(.val (.int .u64 0)),(.val (.int .u64 0))]),kn (.st (some 5) 4 (ux 5) (ux 7))])
 (.seq (.seq (.regN [0,1,4,5] [
 kM 8 0,kx 9 (.cvi .i64 (ux 8)),kM 6 9])
 (.block 0
 (.loop [1,4,5,6] t103L1)))
 (.seq (.regN [4,5] [
 kP 20 5 4 5,kn (.st (some 4) 4 (ux 4) (ux 20))])
 .ret))))
def t103:AFn:=⟨2,t103B,
 [.cell 4 4 true],true⟩
def t52B:AC:=(.seq (.regN [0,1] [
 kB 2 4 0,kx 4 (.allocR [(.val (.int .u64 0)),(.val (.int .u64 0)),(.val (.int .u64 0)),(.val (.int .u64 0))])])
 (.seq (.regN [1,2,4] [
 kM 5 1,kx 6 (.bini .quo (ux 5) (.con (.val (.int .u8 64)))),kM 7 1,kx 8 (.bini .quo (ux 7) (.con (.val (.int .u8 64)))),kx 9 (.ixR 4 1 (ux 2) (ux 8)),kS 10 2 9,kM 11 1,kx 12 (.bini .rem (ux 11) (.con (.val (.int .u8 64)))),kx 13 (.cvi .u64 (ux 12)),kx 14 (.bini .shl (.con (.val (.int .u64 1))) (ux 13)),kx 15 (.bini .or (ux 10) (ux 14)),kx 16 (.ixR 4 1 (ux 2) (ux 6)),kn (.st (some 2) 1 (ux 16) (ux 15))])
 (.seq (.regN [2,4] [
 kP 17 2 4 2,kn (.st (some 4) 4 (ux 4) (ux 17))])
 .ret)))
def t52:AFn:=⟨2,t52B,
 [.cell 4 4 true],true⟩
def t102B:AC:=(.seq (.regN [0,1] [
 kB 2 4 0,kB 3 4 1,kx 4 (.allocR [(.val (.int .u64 0)),(.val (.int .u64 0)),(.val (.int .u64 0)),(.val (.int .u64 0))])])
 (.seq (.regN [2,3,4] [
 kx 5 (.ixR 4 1 (ux 2) c0),kS 6 2 5,kx 7 (.ixR 4 1 (ux 3) c0),kS 8 3 7,kx 9 (.bini .or (ux 6) (ux 8)),kx 10 (.ixR 4 1 (ux 2) c1),kS 11 2 10,kx 12 (.ixR 4 1 (ux 3) c1),kS 13 3 12,kx 14 (.bini .or (ux 11) (ux 13)),kx 15 (.ixR 4 1 (ux 2) (.con (.val (.int .i64 2)))),kS 16 2 15,kx 17 (.ixR 4 1 (ux 3) (.con (.val (.int .i64 2)))),kS 18 3 17,kx 19 (.bini .or (ux 16) (ux 18)),kx 20 (.ixR 4 1 (ux 2) (.con (.val (.int .i64 3)))),kS 21 2 20,kx 22 (.ixR 4 1 (ux 3) (.con (.val (.int .i64 3)))),kS 23 3 22,kx 24 (.bini .or (ux 21) (ux 23)),kx 25 (.build [(.val (.int .u64 0)),(.val (.int .u64 0)),(.val (.int .u64 0)),(.val (.int .u64 0))] [(0,1,(ux 9)),(1,1,(ux 14)),(2,1,(ux 19)),(3,1,(ux 24))]),kn (.st (some 4) 4 (ux 4) (ux 25))])
 .ret))
def t102:AFn:=⟨2,t102B,
 [.cell 4 4 true],true⟩
def t99B:AC:=(.seq (.regN [0] [
 kB 1 4 0,kx 2 (.allocR [(.val (.int .u64 0)),(.val (.int .u64 0)),(.val (.int .u64 0)),(.val (.int .u64 0))])])
 (.seq (.regN [1,2] [
 kx 3 (.ixR 4 1 (ux 1) c0),kS 4 1 3,kx 5 (.xori (ux 4)),kx 6 (.ixR 4 1 (ux 1) c1),kS 7 1 6,kx 8 (.xori (ux 7)),kx 9 (.ixR 4 1 (ux 1) (.con (.val (.int .i64 2)))),kS 10 1 9,kx 11 (.xori (ux 10)),kx 12 (.ixR 4 1 (ux 1) (.con (.val (.int .i64 3)))),kS 13 1 12,kx 14 (.xori (ux 13)),kx 15 (.build [(.val (.int .u64 0)),(.val (.int .u64 0)),(.val (.int .u64 0)),(.val (.int .u64 0))] [(0,1,(ux 5)),(1,1,(ux 8)),(2,1,(ux 11)),(3,1,(ux 14))]),kn (.st (some 2) 4 (ux 2) (ux 15))])
 .ret))
def t99:AFn:=⟨1,t99B,
 [.cell 2 4 true],true⟩
def t77B:AC:=(.seq (.regN [0,1,2,3] [
 kB 6 4 2,kZ 8])
 (.seq (.regD [0,1,3,6] 0 [
 kM 9 0,kM 10 0,kx 11 (.nilc (ux 10)),kF 12 2 11,kL 13 12,kM 14 1,kP 15 6 4 6,kM 16 3,kx 17 (.build [(.val (.int .i64 0)),(.val (.int .u64 0)),(.val (.int .u64 0)),(.val (.int .u64 0)),(.val (.int .u64 0)),.e0] [(0,1,(ux 14)),(1,4,(ux 15)),(5,1,(ux 16))]),kx 18 (.buildS 1 [(.val (.int .i64 0)),(.val (.int .u64 0)),(.val (.int .u64 0)),(.val (.int .u64 0)),(.val (.int .u64 0)),.e0] [(0,6,(ux 17))]),kx 19 (.app 6 64 (ux 13) (ux 18)),kx 20 (.nilc (ux 9)),kF 21 2 20,kn (.st none 1 (ux 21) (ux 19))])
 (.seq (.regN [0] [
 kM 22 0,kx 23 (.nilc (ux 22)),kF 24 2 23,kL 25 24,kN 26 25,kx 27 (.bini .sub (ux 26) c1),kM 8 27])
 .ret)))
def t77:AFn:=⟨4,t77B,
 [.tmp 8],false⟩
def t32L1:AC:=(.seq (.seq (.regN [0,2,3,4] [
 kM 6 4,kM 7 0,kx 8 (.len true (ux 7)),kT 9 6 8])
 (.cond (ux 9)
 .skip
 (.exit 0)))
 (.seq (.block 1
 (.regD [0,2,3,4] 0 [
 kP 12 3 4 3,kM 13 0,kM 14 4,kx 15 (.ixS (ux 13) (ux 14)),kf 16 (.call 52 [(ux 12),(ux 15)]),kn (.st (some 3) 4 (ux 3) (ux 16))]))
 (.regN [0,2,3,4] [
 kM 10 4,kU 11 10,kM 4 11])))
def t32B:AC:=(.seq (.regN [0] [
 kx 2 (.allocR [(.val (.int .u64 0)),(.val (.int .u64 0)),(.val (.int .u64 0)),(.val (.int .u64 0))])])
 (.seq (.regN [0,2] [
 kx 5 (.build [(.val (.int .u64 0)),(.val (.int .u64 0)),(.val (.int .u64 0)),(.val (.int .u64 0))] []),kx 3 (.allocR [(.val (.int .u64 0)),(.val (.int .u64 0)),(.val (.int .u64 0)),(.val (.int .u64 0))]),kn (.st (some 3) 4 (ux 3) (ux 5))])
 (.seq (.seq (.regN [0,2,3] [
 kZ 4])
 (.block 0
 (.loop [0,2,3,4] t32L1)))
 (.seq (.regN [2,3] [
 kP 17 3 4 3,kn (.st (some 2) 4 (ux 2) (ux 17))])
 .ret))))
def t32:AFn:=⟨1,t32B,
 [.cell 2 4 true],true⟩
def t13R1:AC:=(.block 5
 (.seq (.regN [60,2,7,8,9,11,33,37,38,39,57] [
 kE 61 60 0,kM 12 61])
 (.regN [2,7,8,9,11,12,33,37,38,39,57] [
 kM 62 7,kx 63 (.nilc (ux 62)),kF 64 0 63,kF 65 2 64,kL 66 65,kM 67 12,kM 68 9,kI 69 1 66 67,kn (.st none 1 (ux 69) (ux 68))])))
def t13L2:AC:=(.seq (.regN [0,2,19,20,21] [
 kT 22 21 20])
 (.seq (.cond (ux 22)
 .skip
 (.exit 0))
 (.seq (.block 1
 (.seq (.regN [0,2,19,20,21] [
 kI 23 1 19 21,kL 24 23,kM 5 24])
 (.seq (.regN [0,2,5,19,20,21] [
 kM 25 5,kC 26 36 25,kM 6 26])
 (.seq (.regN [0,2,6,19,20,21] [
 kM 27 6,kx 28 (.bini .neq (ux 27) c0)])
 (.cond (ux 28)
 (.seq (.regN [2,6] [
 kx 29 (.build [.e0,.e0,.e0] []),kM 30 6,kn (.st none 3 (ux 2) (ux 29)),kM 3 30])
 .ret)
 .skip)))))
 (.regN [0,2,19,20,21] [
 kU 31 21,kM 21 31]))))
def t13L3:AC:=(.seq (.regN [2,7,8,33,37,38,39] [
 kT 40 39 38])
 (.seq (.cond (ux 40)
 .skip
 (.exit 2))
 (.seq (.block 3
 (.seq (.regN [2,7,8,33,37,38,39] [
 kM 41 39,kI 42 1 37 39,kL 43 42,kM 9 41,kM 10 43])
 (.seq (.regN [2,7,8,9,10,33,37,38,39] [
 kM 44 7,kM 45 10,kM 46 10,kN 47 46,kx 48 (.bini .sub (ux 47) c1),kx 49 (.call 38 [(ux 44),(ux 45),(ux 48)]),kx 11 (.allocH [(.val (.bool false)),(.val (.map none)),(.val (.map none))]),kn (.st none 3 (ux 11) (ux 49))])
 (.seq (.regN [2,7,8,9,11,33,37,38,39] [
 kM 50 7,kM 51 8,kF 52 1 11,kL 53 52,kx 54 (.call 39 [(ux 50),(ux 51),(ux 53)])])
 (.seq (.seq (.regN [2,7,8,9,11,33,37,38,39] [
 kF 55 2 11,kL 56 55])
 (.rangeM [2,7,8,9,11,33,37,38,39] (preN 13 57) (ux 56) 57 60 t13R1))
 (.seq (.regN [2,7,8,9,11,33,37,38,39] [
 kF 70 0 11,kL 71 70,kM 72 71,yM 73 72 7,ky 74 72 (.nilc (ux 73)),yF 75 72 0 74,yF 76 72 2 75,yL 77 72 76,ky 78 72 (.ixA 1 (ux 77) c0),yL 79 72 78,ky 80 72 (.bini .lss (ux 79) c0),kx 81 (.pick (ux 72) (ux 80) cF)])
 (.cond (ux 81)
 (.regN [2,7,8,9,33,37,38,39] [
 kM 82 7,kx 83 (.nilc (ux 82)),kF 84 0 83,kF 85 2 84,kL 86 85,kM 87 9,kx 88 (.ixA 1 (ux 86) c0),kn (.st none 1 (ux 88) (ux 87))])
 .skip)))))))
 (.regN [2,7,8,33,37,38,39] [
 kU 89 39,kM 39 89]))))
def t13L4:AC:=(.seq (.regN [2,7,33,100,101,102] [
 kT 103 102 101])
 (.seq (.cond (ux 103)
 .skip
 (.exit 6))
 (.seq (.block 7
 (.seq (.regN [2,7,33,100,101,102] [
 kI 104 1 100 102,kL 105 104,kM 14 105])
 (.regD [2,7,14,33,100,101,102] 0 [
 kM 106 7,kM 107 7,kx 108 (.nilc (ux 107)),kF 109 0 108,kF 110 1 109,kL 111 110,kM 112 14,kC 113 41 112,kC 114 40 113,kx 115 (.buildS 1 [.e0] [(0,1,(ux 114))]),kx 116 (.app 1 24 (ux 111) (ux 115)),kx 117 (.nilc (ux 106)),kF 118 0 117,kF 119 1 118,kn (.st none 1 (ux 119) (ux 116))])))
 (.regN [2,7,33,100,101,102] [
 kU 120 102,kM 102 120]))))
def t13B:AC:=(.seq (.regN [0] [
 kx 2 (.allocH [.e0,.e0,.e0]),kZ 3])
 (.seq (.seq (.regN [0,2] [
 kM 15 0,kN 16 15,kx 17 (.bini .gtr (ux 16) (.con (.val (.int .i64 16))))])
 (.cond (ux 17)
 (.seq (.regN [2] [
 kx 18 (.build [.e0,.e0,.e0] []),kn (.st none 3 (ux 2) (ux 18)),kx 3 (.mv (.con (.val (.int .i64 3))))])
 .ret)
 .skip))
 (.seq (.seq (.regN [0,2] [
 kM 19 0,kN 20 19,kZ 21])
 (.block 0
 (.loop [0,2,19,20,21] t13L2)))
 (.seq (.regN [0,2] [
 kx 32 (.build [.e0,.e0,.e0,.e0] []),kx 33 (.boxH 4 (ux 32)),kM 7 33])
 (.seq (.regN [0,2,7,33] [
 kM 34 7,kx 35 (.build [(.val (.int .u64 0)),(.val (.int .u64 0)),(.val (.int .u64 0)),(.val (.int .u64 0))] []),kx 36 (.call 37 [(ux 34),(ux 35)]),kM 8 36])
 (.seq (.seq (.regN [0,2,7,8,33] [
 kM 37 0,kN 38 37,kZ 39])
 (.block 2
 (.loop [2,7,8,33,37,38,39] t13L3)))
 (.seq (.seq (.regN [2,7,33] [
 kM 90 7,kx 91 (.nilc (ux 90)),kF 92 3 91,kL 93 92,kN 94 93,kx 95 (.bini .gtr (ux 94) (.con (.val (.int .i64 1024))))])
 (.cond (ux 95)
 (.seq (.regN [2] [
 kx 96 (.build [.e0,.e0,.e0] []),kn (.st none 3 (ux 2) (ux 96)),kx 3 (.mv (.con (.val (.int .i64 10))))])
 .ret)
 .skip))
 (.seq (.seq (.regN [2,7,33] [
 kM 97 7,kx 98 (.nilc (ux 97)),kF 99 3 98,kL 100 99,kN 101 100,kZ 102])
 (.block 6
 (.loop [2,7,33,100,101,102] t13L4)))
 (.seq (.regN [2,7,33] [
 kM 121 7,kx 122 (.nilc (ux 121)),kF 123 0 122,kx 124 (.ldA none 3 (ux 123)),kn (.st none 3 (ux 2) (ux 124)),kZ 3])
 .ret)))))))))
def t13:AFn:=⟨1,t13B,
 [.cell 2 3 true,.tmp 3],true⟩
def t36L1:AC:=(.seq (.regN [0,3,4,22,23,24,64,65,66] [
 kT 67 66 65])
 (.seq (.cond (ux 67)
 .skip
 (.exit 2))
 (.seq (.block 3
 (.seq (.regN [0,3,4,22,23,24,64,65,66] [
 kI 68 1 64 66,kL 69 68,kM 10 69])
 (.seq (.seq (.regN [0,3,4,10,22,23,24,64,65,66] [
 kM 70 10,kx 71 (.bini .lss (ux 70) c0),kM 72 71,zM 73 72 10,zM 74 72 4,kz 75 72 (.bini .geq (ux 73) (ux 74)),kO 76 72 75])
 (.cond (ux 76)
 (.seq (.regN [] [
 kx 2 (.mv (.con (.val (.int .i64 2))))])
 .ret)
 .skip))
 (.regN [0,3,4,10,22,23,24,64,65,66] [
 kM 77 3,kM 78 10,kI 79 1 77 78,kL 80 79,kU 81 80,kI 82 1 77 78,kn (.st none 1 (ux 82) (ux 81))]))))
 (.regN [0,3,4,22,23,24,64,65,66] [
 kU 83 66,kM 66 83]))))
def t36L2:AC:=(.seq (.regN [0,3,22,23,24] [
 kT 25 24 23])
 (.seq (.cond (ux 25)
 .skip
 (.exit 0))
 (.seq (.block 1
 (.seq (.regN [0,3,22,23,24] [
 kM 26 24,kI 27 6 22 24,kx 28 (.ldA none 6 (ux 27)),kx 5 (.allocR [(.val (.int .i64 0)),(.val (.int .u64 0)),(.val (.int .u64 0)),(.val (.int .u64 0)),(.val (.int .u64 0)),.e0]),kM 4 26,kn (.st (some 5) 6 (ux 5) (ux 28))])
 (.seq (.regN [0,3,4,5,22,23,24] [
 kF 30 0 5,kS 31 5 30,kC 32 57 31,kM 29 32,kE 33 29 0,kE 34 29 1,kE 35 29 2,kM 6 33,kM 7 34,kM 8 35])
 (.seq (.seq (.regN [0,3,4,5,6,7,8,22,23,24] [
 kM 36 8,kx 37 (.not (ux 36)),kM 38 37,zF 39 38 5 5,zS 40 38 5 39,zN 41 38 40,zM 42 38 6,kz 43 38 (.bini .lss (ux 41) (ux 42)),kO 44 38 43,kM 45 44,zF 46 45 5 5,zS 47 45 5 46,zN 48 45 47,zM 49 45 7,kz 50 45 (.bini .gtr (ux 48) (ux 49)),kO 51 45 50,kM 52 51,zF 53 52 0 5,zS 54 52 5 53,kz 55 52 (.bini .neq (ux 54) (.con (.val (.int .i64 2)))),zM 56 52 55,yF 57 56 1 5,ky 58 56 (.ldA (some 5) 4 (ux 57)),ky 59 56 (.build [(.val (.int .u64 0)),(.val (.int .u64 0)),(.val (.int .u64 0)),(.val (.int .u64 0))] []),ky 60 56 (.eqa true [1,1,1,1] (ux 58) (ux 59)),kz 61 52 (.pick (ux 56) (ux 60) cF),kO 62 52 61])
 (.cond (ux 62)
 (.seq (.regN [] [
 kx 2 (.mv (.con (.val (.int .i64 2))))])
 .ret)
 .skip))
 (.seq (.regN [0,3,4,5,22,23,24] [
 kF 63 5 5,kS 64 5 63,kN 65 64,kZ 66])
 (.block 2
 (.loop [0,3,4,22,23,24,64,65,66] t36L1)))))))
 (.regN [0,3,22,23,24] [
 kU 84 24,kM 24 84]))))
def t36B:AC:=(.seq (.regN [0] [
 kZ 2])
 (.seq (.seq (.regN [0] [
 kM 11 0,kN 12 11,kx 13 (.bini .lss (ux 12) c1),kM 14 13,zM 15 14 0,zN 16 14 15,kz 17 14 (.bini .gtr (ux 16) (.con (.val (.int .i64 512)))),kO 18 14 17])
 (.cond (ux 18)
 (.seq (.regN [] [
 kx 2 (.mv (.con (.val (.int .i64 2))))])
 .ret)
 .skip))
 (.seq (.regN [0] [
 kM 19 0,kN 20 19,kx 21 (.mks 1 8 [(.val (.int .i64 0))] (ux 20)),kM 3 21])
 (.seq (.seq (.regN [0,3] [
 kM 22 0,kN 23 22,kZ 24])
 (.block 0
 (.loop [0,3,22,23,24] t36L2)))
 (.seq (.seq (.regN [0,3] [
 kM 85 3,kM 86 0,kN 87 86,kx 88 (.bini .sub (ux 87) c1),kx 89 (.slC 1 (ux 85) none (some (ux 88))),kx 90 (.call 58 [(ux 89),(.con (.fn 59 []))])])
 (.cond (ux 90)
 (.seq (.regN [] [
 kx 2 (.mv (.con (.val (.int .i64 2))))])
 .ret)
 .skip))
 (.seq (.regN [] [
 kZ 2])
 .ret))))))
def t36:AFn:=⟨1,t36B,
 [.tmp 2],true⟩
def t57B:AC:=(.seq (.regN [0] [
 kZ 2,kZ 3,kx 4 (.mv cF)])
 (.seq (.seq (.regN [0] [
 kM 5 0])
 (.block 0
 (.seq (.seq (.regN [5] [
 kx 7 (.bini .eql (ux 5) c1),kM 6 7])
 (.cond (ux 6)
 .skip
 (.regN [5] [
 kx 8 (.bini .eql (ux 5) (.con (.val (.int .i64 2)))),kM 6 8])))
 (.cond (ux 6)
 (.seq (.regN [] [
 kZ 2,kZ 3,kx 4 (.mv cT)])
 .ret)
 (.seq (.seq (.regN [5] [
 kx 10 (.bini .eql (ux 5) (.con (.val (.int .i64 3)))),kM 9 10])
 (.cond (ux 9)
 .skip
 (.regN [5] [
 kx 11 (.bini .eql (ux 5) (.con (.val (.int .i64 4)))),kM 9 11])))
 (.cond (ux 9)
 (.seq (.regN [] [
 kx 2 (.mv (.con (.val (.int .i64 2)))),kx 3 (.mv (.con (.val (.int .i64 512)))),kx 4 (.mv cT)])
 .ret)
 (.seq (.seq (.regN [5] [
 kx 13 (.bini .eql (ux 5) (.con (.val (.int .i64 5)))),kM 12 13])
 (.cond (ux 12)
 .skip
 (.seq (.regN [5] [
 kx 14 (.bini .eql (ux 5) (.con (.val (.int .i64 6)))),kM 12 14])
 (.cond (ux 12)
 .skip
 (.regN [5] [
 kx 15 (.bini .eql (ux 5) (.con (.val (.int .i64 7)))),kM 12 15])))))
 (.cond (ux 12)
 (.seq (.regN [] [
 kx 2 (.mv c1),kx 3 (.mv c1),kx 4 (.mv cT)])
 .ret)
 .skip))))))))
 (.seq (.regN [] [
 kZ 2,kZ 3,kx 4 (.mv cF)])
 .ret)))
def t57:AFn:=⟨1,t57B,
 [.tmp 2,.tmp 3,.tmp 4],true⟩
def t58B:AC:=(.seq (.regN [0,1] [
 kx 4 (.mv cF)])
 (.seq (.regN [0,1] [
 kM 5 0,kM 6 1,kx 7 (.call 71 [(ux 5),(ux 6)]),kx 8 (.bini .geq (ux 7) c0),kM 4 8])
 .ret))
def t58:AFn:=⟨2,t58B,
 [.tmp 4],true⟩
def t71L1:AC:=(.seq (.regN [0,1,7,8] [
 kT 9 8 7])
 (.seq (.cond (ux 9)
 .skip
 (.exit 0))
 (.seq (.block 1
 (.seq (.regN [0,1,7,8] [
 kM 10 8,kM 5 10])
 (.seq (.regN [0,1,5,7,8] [
 kM 11 1,kM 12 0,kM 13 5,kI 14 1 12 13,kL 15 14,kx 16 (.callv (ux 11) [.tmp 15])])
 (.cond (ux 16)
 (.seq (.regN [5] [
 kM 17 5,kM 4 17])
 .ret)
 .skip))))
 (.regN [0,1,7,8] [
 kU 18 8,kM 8 18]))))
def t71B:AC:=(.seq (.regN [0,1] [
 kZ 4])
 (.seq (.seq (.regN [0,1] [
 kM 6 0,kN 7 6,kZ 8])
 (.block 0
 (.loop [0,1,7,8] t71L1)))
 (.seq (.regN [] [
 kx 4 (.mv (.con (.val (.int .i64 (-1)))))])
 .ret)))
def t71:AFn:=⟨2,t71B,
 [.tmp 4],true⟩
def t59B:AC:=(.seq (.regN [0] [
 kx 2 (.mv cF)])
 (.seq (.regN [0] [
 kM 3 0,kx 4 (.bini .neq (ux 3) c1),kM 2 4])
 .ret))
def t59:AFn:=⟨1,t59B,
 [.tmp 2],true⟩
def t37B:AC:=(.seq (.regN [0,1] [
 kB 3 4 1,kx 4 (.mv (.con (.val (.map none))))])
 (.seq (.regN [0,3] [
 kM 6 0,kx 7 (.nilc (ux 6)),kF 8 3 7,kL 9 8,kN 10 9,kM 5 10])
 (.seq (.regD [0,3,5] 1 [
 kM 11 0,kM 12 0,kM 13 0,kM 14 0,kx 15 (.nilc (ux 14)),kF 16 0 15,kF 17 0 16,kL 18 17,kP 19 3 4 3,kx 20 (.buildS 1 [(.val (.int .u64 0)),(.val (.int .u64 0)),(.val (.int .u64 0)),(.val (.int .u64 0))] [(0,4,(ux 19))]),kf 21 (.app 4 32 (ux 18) (ux 20)),kM 22 0,kx 23 (.nilc (ux 22)),kF 24 0 23,kF 25 2 24,kL 26 25,kx 27 (.buildS 1 [(.val (.int .i64 0))] [(0,1,(.con (.val (.int .i64 (-1)))))]),kf 28 (.app 1 8 (ux 26) (ux 27)),kM 29 0,kx 30 (.nilc (ux 29)),kF 31 3 30,kL 32 31,kx 33 (.mkm),kx 34 (.buildS 1 [(.val (.map none))] [(0,1,(ux 33))]),kx 35 (.app 1 8 (ux 32) (ux 34)),kx 36 (.nilc (ux 11)),kF 37 0 36,kF 38 0 37,kn (.st none 1 (ux 38) (ux 21)),kx 39 (.nilc (ux 12)),kF 40 0 39,kF 41 2 40,kn (.st none 1 (ux 41) (ux 28)),kx 42 (.nilc (ux 13)),kF 43 3 42,kn (.st none 1 (ux 43) (ux 35))])
 (.seq (.regN [5] [
 kx 44 (.mkm),kM 45 5,kx 46 (.build [] []),kn (.mup false [1] (ux 44) (ux 45) (ux 46)),kM 47 44,kM 4 47])
 .ret))))
def t37:AFn:=⟨2,t37B,
 [.tmp 4],false⟩
def t38L1:AC:=(.seq (.regN [0,1,6,9,48,49,50] [
 kT 51 50 49])
 (.seq (.cond (ux 51)
 .skip
 (.exit 1))
 (.seq (.block 2
 (.seq (.regN [0,1,6,9,48,49,50] [
 kI 52 1 48 50,kL 53 52,kM 11 53])
 (.regD [0,1,6,9,11,48,49,50] 0 [
 kM 54 0,kP 55 9 3 9,kM 56 0,kM 57 1,kM 58 11,kf 59 (.call 38 [(ux 56),(ux 57),(ux 58)]),kf 60 (.call 60 [(ux 54),(ux 55),(ux 59)]),kn (.st (some 9) 3 (ux 9) (ux 60))])))
 (.regN [0,1,6,9,48,49,50] [
 kU 61 50,kM 50 61]))))
def t38L2:AC:=(.seq (.regN [0,1,6,12,69,70,71] [
 kT 72 71 70])
 (.seq (.cond (ux 72)
 .skip
 (.exit 3))
 (.seq (.block 4
 (.seq (.regN [0,1,6,12,69,70,71] [
 kI 73 1 69 71,kL 74 73,kM 14 74])
 (.seq (.regN [0,1,6,12,14,69,70,71] [
 kM 75 0,kM 76 1,kM 77 14,kx 78 (.call 38 [(ux 75),(ux 76),(ux 77)]),kx 15 (.allocR [(.val (.bool false)),(.val (.map none)),(.val (.map none))]),kn (.st (some 15) 3 (ux 15) (ux 78))])
 (.regD [0,1,6,12,15,69,70,71] 0 [
 kF 79 0 12,kS 80 12 79,kM 81 80,zF 82 81 0 15,zS 83 81 15 82,kO 84 81 83,kF 85 1 12,kS 86 12 85,kF 87 1 15,kS 88 15 87,kx 89 (.buildS 2 [(.val (.map none)),(.val (.map none))] [(0,1,(ux 86)),(1,1,(ux 88))]),kf 90 (.call 61 [.tmp 89]),kF 91 2 12,kS 92 12 91,kF 93 2 15,kS 94 15 93,kx 95 (.buildS 2 [(.val (.map none)),(.val (.map none))] [(0,1,(ux 92)),(1,1,(ux 94))]),kf 96 (.call 61 [.tmp 95]),kx 97 (.build [(.val (.bool false)),(.val (.map none)),(.val (.map none))] [(0,1,(ux 84)),(1,1,(ux 90)),(2,1,(ux 96))]),kn (.st (some 12) 3 (ux 12) (ux 97))]))))
 (.regN [0,1,6,12,69,70,71] [
 kU 98 71,kM 71 98]))))
def t38B:AC:=(.seq (.regN [0,1,2] [
 kx 6 (.allocR [(.val (.bool false)),(.val (.map none)),(.val (.map none))])])
 (.seq (.regN [0,1,2,6] [
 kM 17 1,kM 18 2,kI 19 6 17 18,kx 20 (.ldA none 6 (ux 19)),kx 7 (.allocR [(.val (.int .i64 0)),(.val (.int .u64 0)),(.val (.int .u64 0)),(.val (.int .u64 0)),(.val (.int .u64 0)),.e0]),kn (.st (some 7) 6 (ux 7) (ux 20))])
 (.seq (.seq (.regN [0,1,6,7] [
 kF 21 0 7,kS 22 7 21])
 (.block 0
 (.seq (.regN [0,1,6,7,22] [
 kx 24 (.bini .eql (ux 22) c1),kM 23 24])
 (.cond (ux 23)
 (.seq (.regN [6] [
 kx 25 (.mkm),kx 26 (.mkm),kx 27 (.build [(.val (.bool false)),(.val (.map none)),(.val (.map none))] [(0,1,cT),(1,1,(ux 25)),(2,1,(ux 26))]),kn (.st (some 6) 3 (ux 6) (ux 27))])
 .ret)
 (.seq (.regN [0,1,6,7,22] [
 kx 29 (.bini .eql (ux 22) (.con (.val (.int .i64 2)))),kM 28 29])
 (.cond (ux 28)
 (.seq (.regN [0,6,7] [
 kM 30 0,kF 31 1 7,kP 32 7 4 31,kx 33 (.call 37 [(ux 30),(ux 32)]),kM 8 33])
 (.seq (.regN [6,8] [
 kM 34 8,kM 35 8,kx 36 (.build [(.val (.bool false)),(.val (.map none)),(.val (.map none))] [(0,1,cF),(1,1,(ux 34)),(2,1,(ux 35))]),kn (.st (some 6) 3 (ux 6) (ux 36))])
 .ret))
 (.seq (.regN [0,1,6,7,22] [
 kx 38 (.bini .eql (ux 22) (.con (.val (.int .i64 3)))),kM 37 38])
 (.cond (ux 37)
 (.seq (.regN [0,1,6,7] [
 kM 39 0,kM 40 1,kF 41 5 7,kS 42 7 41,kx 43 (.ixA 1 (ux 42) c0),kL 44 43,kx 45 (.call 38 [(ux 39),(ux 40),(ux 44)]),kx 9 (.allocR [(.val (.bool false)),(.val (.map none)),(.val (.map none))]),kn (.st (some 9) 3 (ux 9) (ux 45))])
 (.seq (.seq (.regN [0,1,6,7,9] [
 kF 46 5 7,kS 47 7 46,kx 48 (.slC 1 (ux 47) (some c1) none),kN 49 48,kZ 50])
 (.block 1
 (.loop [0,1,6,9,48,49,50] t38L1)))
 (.seq (.regN [6,9] [
 kP 62 9 3 9,kn (.st (some 6) 3 (ux 6) (ux 62))])
 .ret)))
 (.seq (.regN [0,1,6,7,22] [
 kx 64 (.bini .eql (ux 22) (.con (.val (.int .i64 4)))),kM 63 64])
 (.cond (ux 63)
 (.seq (.regN [0,1,6,7] [
 kx 65 (.mkm),kx 66 (.mkm),kx 67 (.build [(.val (.bool false)),(.val (.map none)),(.val (.map none))] [(0,1,cF),(1,1,(ux 65)),(2,1,(ux 66))]),kx 12 (.allocR [(.val (.bool false)),(.val (.map none)),(.val (.map none))]),kn (.st (some 12) 3 (ux 12) (ux 67))])
 (.seq (.seq (.regN [0,1,6,7,12] [
 kF 68 5 7,kS 69 7 68,kN 70 69,kZ 71])
 (.block 3
 (.loop [0,1,6,12,69,70,71] t38L2)))
 (.seq (.regN [6,12] [
 kP 99 12 3 12,kn (.st (some 6) 3 (ux 6) (ux 99))])
 .ret)))
 .skip))))))))))
 (.seq (.regN [0,1,6,7] [
 kM 100 0,kM 101 1,kF 102 5 7,kS 103 7 102,kx 104 (.ixA 1 (ux 103) c0),kL 105 104,kx 106 (.call 38 [(ux 100),(ux 101),(ux 105)]),kx 16 (.allocR [(.val (.bool false)),(.val (.map none)),(.val (.map none))]),kn (.st (some 16) 3 (ux 16) (ux 106))])
 (.seq (.seq (.regN [0,6,7,16] [
 kF 107 0 7,kS 108 7 107,kx 109 (.bini .neq (ux 108) (.con (.val (.int .i64 7))))])
 (.cond (ux 109)
 (.regN [0,6,7,16] [
 kM 110 0,kF 111 2 16,kS 112 16 111,kF 113 1 16,kS 114 16 113,kx 115 (.call 39 [(ux 110),(ux 112),(ux 114)])])
 .skip))
 (.seq (.regN [6,7,16] [
 kF 116 0 16,kS 117 16 116,kM 118 117,zF 119 118 0 7,zS 120 118 7 119,kz 121 118 (.bini .neq (ux 120) (.con (.val (.int .i64 6)))),kO 122 118 121,kF 123 0 16,kn (.st (some 16) 1 (ux 123) (ux 122))])
 (.seq (.regN [6,16] [
 kP 124 16 3 16,kn (.st (some 6) 3 (ux 6) (ux 124))])
 .ret)))))))
def t38:AFn:=⟨3,t38B,
 [.cell 6 3 true],false⟩
def t60B:AC:=(.seq (.regN [0,1,2] [
 kB 4 3 1,kB 5 3 2,kx 6 (.allocR [(.val (.bool false)),(.val (.map none)),(.val (.map none))])])
 (.seq (.regN [0,4,5,6] [
 kM 8 0,kF 9 2 4,kS 10 4 9,kF 11 1 5,kS 12 5 11,kx 13 (.call 39 [(ux 8),(ux 10),(ux 12)])])
 (.seq (.regN [4,5,6] [
 kF 14 0 4,kS 15 4 14,kM 16 15,yF 17 16 0 5,yS 18 16 5 17,kx 19 (.pick (ux 16) (ux 18) cF),kF 20 1 4,kS 21 4 20,kF 22 2 5,kS 23 5 22,kx 24 (.build [(.val (.bool false)),(.val (.map none)),(.val (.map none))] [(0,1,(ux 19)),(1,1,(ux 21)),(2,1,(ux 23))]),kx 7 (.allocR [(.val (.bool false)),(.val (.map none)),(.val (.map none))]),kn (.st (some 7) 3 (ux 7) (ux 24))])
 (.seq (.seq (.regN [4,5,6,7] [
 kF 25 0 4,kS 26 4 25])
 (.cond (ux 26)
 (.regN [4,5,6,7] [
 kF 27 1 4,kS 28 4 27,kF 29 1 5,kS 30 5 29,kx 31 (.buildS 2 [(.val (.map none)),(.val (.map none))] [(0,1,(ux 28)),(1,1,(ux 30))]),kC 32 61 31,kF 33 1 7,kn (.st (some 7) 1 (ux 33) (ux 32))])
 .skip))
 (.seq (.seq (.regN [4,5,6,7] [
 kF 34 0 5,kS 35 5 34])
 (.cond (ux 35)
 (.regN [4,5,6,7] [
 kF 36 2 4,kS 37 4 36,kF 38 2 5,kS 39 5 38,kx 40 (.buildS 2 [(.val (.map none)),(.val (.map none))] [(0,1,(ux 37)),(1,1,(ux 39))]),kC 41 61 40,kF 42 2 7,kn (.st (some 7) 1 (ux 42) (ux 41))])
 .skip))
 (.seq (.regN [6,7] [
 kP 43 7 3 7,kn (.st (some 6) 3 (ux 6) (ux 43))])
 .ret))))))
def t60:AFn:=⟨3,t60B,
 [.cell 6 3 true],false⟩
def t39R1:AC:=(.block 1
 (.seq (.regN [11,0,2,8] [
 kE 12 11 0,kM 6 12])
 (.regD [0,2,6,8] 0 [
 kM 13 0,kx 14 (.nilc (ux 13)),kF 15 3 14,kL 16 15,kM 17 6,kM 18 0,kx 19 (.nilc (ux 18)),kF 20 3 19,kL 21 20,kM 22 6,kI 23 1 21 22,kL 24 23,kM 25 2,kx 26 (.buildS 2 [(.val (.map none)),(.val (.map none))] [(0,1,(ux 24)),(1,1,(ux 25))]),kC 27 61 26,kI 28 1 16 17,kn (.st none 1 (ux 28) (ux 27))])))
def t39B:AC:=(.seq (.regN [0,1,2] [
 kM 7 1])
 (.rangeM [0,2] (preN 39 8) (ux 7) 8 11 t39R1))
def t39:AFn:=⟨3,t39B,
 [],false⟩
def t41B:AC:=(.seq (.regN [0] [
 kx 1 (.boxH 1 (ux 0)),kx 2 (.mv (.con (.val .nilFunc)))])
 (.seq (.regN [1] [
 kx 3 (.mkf 64 [.tmp 1]),kM 2 3])
 .ret))
def t41:AFn:=⟨1,t41B,
 [.tmp 2],true⟩
def t31L1:AC:=(.seq (.seq (.regN [0,1,5] [
 kM 11 5,kM 12 0,kN 13 12,kT 14 11 13])
 (.cond (ux 14)
 .skip
 (.exit 0)))
 (.seq (.block 1
 (.seq (.regD [0,1,5] 0 [
 kM 17 0,kM 18 5,kI 19 1 17 18,kL 20 19,kM 21 1,kM 22 5,kI 23 1 21 22,kL 24 23,kf 25 (.call 22 [(ux 20),(ux 24)]),kx 26 (.not (ux 25))])
 (.cond (ux 26)
 (.seq (.regN [] [
 kx 4 (.mv cF)])
 .ret)
 .skip)))
 (.regN [0,1,5] [
 kM 15 5,kU 16 15,kM 5 16])))
def t31B:AC:=(.seq (.regN [0,1] [
 kx 4 (.mv cF)])
 (.seq (.seq (.regN [0,1] [
 kM 6 0,kN 7 6,kM 8 1,kN 9 8,kx 10 (.bini .neq (ux 7) (ux 9))])
 (.cond (ux 10)
 (.seq (.regN [] [
 kx 4 (.mv cF)])
 .ret)
 .skip))
 (.seq (.seq (.regN [0,1] [
 kZ 5])
 (.block 0
 (.loop [0,1,5] t31L1)))
 (.seq (.regN [] [
 kx 4 (.mv cT)])
 .ret))))
def t31:AFn:=⟨2,t31B,
 [.tmp 4],true⟩
def t22L1:AC:=(.seq (.seq (.regN [0,1,5] [
 kM 11 5,kM 12 0,kN 13 12,kT 14 11 13])
 (.cond (ux 14)
 .skip
 (.exit 0)))
 (.seq (.block 1
 (.seq (.regD [0,1,5] 0 [
 kM 17 0,kM 18 5,kI 19 1 17 18,kL 20 19,kM 21 1,kM 22 5,kI 23 1 21 22,kL 24 23,kx 25 (.bini .neq (ux 20) (ux 24))])
 (.cond (ux 25)
 (.seq (.regN [] [
 kx 4 (.mv cF)])
 .ret)
 .skip)))
 (.regN [0,1,5] [
 kM 15 5,kU 16 15,kM 5 16])))
def t22B:AC:=(.seq (.regN [0,1] [
 kx 4 (.mv cF)])
 (.seq (.seq (.regN [0,1] [
 kM 6 0,kN 7 6,kM 8 1,kN 9 8,kx 10 (.bini .neq (ux 7) (ux 9))])
 (.cond (ux 10)
 (.seq (.regN [] [
 kx 4 (.mv cF)])
 .ret)
 .skip))
 (.seq (.seq (.regN [0,1] [
 kZ 5])
 (.block 0
 (.loop [0,1,5] t22L1)))
 (.seq (.regN [] [
 kx 4 (.mv cT)])
 .ret))))
def t22:AFn:=⟨2,t22B,
 [.tmp 4],true⟩
def t9L1:AC:=(.seq (.seq (.regN [0,1,5,6] [
 kM 7 6,kM 8 0,kN 9 8,kT 10 7 9,kM 11 10,yM 12 11 6,yM 13 11 1,ky 14 11 (.bini .leq (ux 12) (ux 13)),kx 15 (.pick (ux 11) (ux 14) cF)])
 (.cond (ux 15)
 .skip
 (.exit 0)))
 (.seq (.block 1
 (.regN [0,1,5,6] [
 kM 18 5,kM 19 0,kM 20 6,kI 21 6 19 20,kF 22 5 21,kL 23 22,kN 24 23,kx 25 (.bini .add (ux 18) (ux 24)),kM 5 25]))
 (.regN [0,1,5,6] [
 kM 16 6,kU 17 16,kM 6 17])))
def t9B:AC:=(.seq (.regN [0,1] [
 kx 4 (.mv cF)])
 (.seq (.regN [0,1] [
 kZ 5])
 (.seq (.seq (.regN [0,1,5] [
 kZ 6])
 (.block 0
 (.loop [0,1,5,6] t9L1)))
 (.seq (.regN [0,1,5] [
 kM 26 0,kN 27 26,kM 28 1,kx 29 (.bini .leq (ux 27) (ux 28)),kM 30 29,yM 31 30 5,yM 32 30 1,ky 33 30 (.bini .mul (.con (.val (.int .i64 2))) (ux 32)),ky 34 30 (.bini .leq (ux 31) (ux 33)),kx 35 (.pick (ux 30) (ux 34) cF),kM 4 35])
 .ret))))
def t9:AFn:=⟨2,t9B,
 [.tmp 4],true⟩
def t10L1:AC:=(.seq (.seq (.regN [0,3,4,7] [
 kM 75 7,kM 76 0,kM 77 4,kI 78 6 76 77,kF 79 5 78,kL 80 79,kN 81 80,kT 82 75 81])
 (.cond (ux 82)
 .skip
 (.exit 2)))
 (.seq (.block 3
 (.seq (.regN [0,3,4,7] [
 kM 85 0,kM 86 4,kI 87 6 85 86,kF 88 5 87,kL 89 88,kM 90 7,kI 91 1 89 90,kL 92 91,kM 8 92])
 (.seq (.seq (.regN [0,3,4,7,8] [
 kM 93 8,kx 94 (.bini .lss (ux 93) c0),kM 95 94,zM 96 95 8,zM 97 95 4,kz 98 95 (.bini .geq (ux 96) (ux 97)),kO 99 95 98])
 (.cond (ux 99)
 (.seq (.regN [] [
 kx 2 (.mv (.con (.val (.int .i64 2))))])
 .ret)
 .skip))
 (.regN [0,3,4,7,8] [
 kM 100 3,kM 101 8,kI 102 1 100 101,kL 103 102,kU 104 103,kI 105 1 100 101,kn (.st none 1 (ux 105) (ux 104))]))))
 (.regN [0,3,4,7] [
 kM 83 7,kU 84 83,kM 7 84])))
def t10L2:AC:=(.seq (.seq (.regN [0,3,4] [
 kM 21 4,kM 22 0,kN 23 22,kT 24 21 23])
 (.cond (ux 24)
 .skip
 (.exit 0)))
 (.seq (.block 1
 (.seq (.regN [0,3,4] [
 kM 28 0,kM 29 4,kI 30 6 28 29,kF 31 0 30,kL 32 31,kC 33 33 32,kM 27 33,kE 34 27 0,kE 35 27 1,kM 5 34,kM 6 35])
 (.seq (.seq (.regN [0,3,4,5,6] [
 kM 36 5,kx 37 (.bini .lss (ux 36) c0),kM 38 37,zM 39 38 0,zM 40 38 4,zI 41 38 6 39 40,zF 42 38 5 41,zL 43 38 42,zN 44 38 43,zM 45 38 5,kz 46 38 (.bini .lss (ux 44) (ux 45)),kO 47 38 46,kM 48 47,zM 49 48 0,zM 50 48 4,zI 51 48 6 49 50,zF 52 48 5 51,zL 53 48 52,zN 54 48 53,zM 55 48 6,kz 56 48 (.bini .gtr (ux 54) (ux 55)),kO 57 48 56,kM 58 57,zM 59 58 0,zM 60 58 4,zI 61 58 6 59 60,zF 62 58 0 61,zL 63 58 62,kz 64 58 (.bini .neq (ux 63) (.con (.val (.int .i64 2)))),zM 65 58 64,yM 66 65 0,yM 67 65 4,yI 68 65 6 66 67,yF 69 65 1 68,ky 70 65 (.ldA none 4 (ux 69)),ky 71 65 (.build [(.val (.int .u64 0)),(.val (.int .u64 0)),(.val (.int .u64 0)),(.val (.int .u64 0))] []),ky 72 65 (.eqa true [1,1,1,1] (ux 70) (ux 71)),kz 73 58 (.pick (ux 65) (ux 72) cF),kO 74 58 73])
 (.cond (ux 74)
 (.seq (.regN [] [
 kx 2 (.mv (.con (.val (.int .i64 2))))])
 .ret)
 .skip))
 (.seq (.regN [0,3,4] [
 kZ 7])
 (.block 2
 (.loop [0,3,4,7] t10L1))))))
 (.regN [0,3,4] [
 kM 25 4,kU 26 25,kM 4 26])))
def t10L3:AC:=(.seq (.seq (.regN [0,3,9] [
 kM 106 9,kM 107 0,kN 108 107,kT 109 106 108])
 (.cond (ux 109)
 .skip
 (.exit 4)))
 (.seq (.block 5
 (.seq (.regN [0,3,9] [
 kM 112 9,kM 113 0,kN 114 113,kx 115 (.bini .sub (ux 114) c1),kT 116 112 115,kM 117 116,yM 118 117 3,yM 119 117 9,yI 120 117 1 118 119,yL 121 117 120,ky 122 117 (.bini .neq (ux 121) c1),kx 123 (.pick (ux 117) (ux 122) cF)])
 (.cond (ux 123)
 (.seq (.regN [] [
 kx 2 (.mv (.con (.val (.int .i64 2))))])
 .ret)
 .skip)))
 (.regN [0,3,9] [
 kM 110 9,kU 111 110,kM 9 111])))
def t10B:AC:=(.seq (.regN [0] [
 kZ 2])
 (.seq (.seq (.regN [0] [
 kM 10 0,kN 11 10,kx 12 (.bini .lss (ux 11) c1),kM 13 12,zM 14 13 0,zN 15 13 14,kz 16 13 (.bini .gtr (ux 15) (.con (.val (.int .i64 512)))),kO 17 13 16])
 (.cond (ux 17)
 (.seq (.regN [] [
 kx 2 (.mv (.con (.val (.int .i64 2))))])
 .ret)
 .skip))
 (.seq (.regN [0] [
 kM 18 0,kN 19 18,kx 20 (.mks 1 8 [(.val (.int .i64 0))] (ux 19)),kM 3 20])
 (.seq (.seq (.regN [0,3] [
 kZ 4])
 (.block 0
 (.loop [0,3,4] t10L2)))
 (.seq (.seq (.regN [0,3] [
 kZ 9])
 (.block 4
 (.loop [0,3,9] t10L3)))
 (.seq (.regN [] [
 kZ 2])
 .ret))))))
def t10:AFn:=⟨1,t10B,
 [.tmp 2],true⟩
def t33B:AC:=(.seq (.regN [0] [
 kZ 2,kZ 3])
 (.seq (.seq (.regN [0] [
 kM 4 0])
 (.block 0
 (.seq (.seq (.regN [4] [
 kx 6 (.bini .eql (ux 4) c1),kM 5 6])
 (.cond (ux 5)
 .skip
 (.regN [4] [
 kx 7 (.bini .eql (ux 4) (.con (.val (.int .i64 2)))),kM 5 7])))
 (.cond (ux 5)
 (.seq (.regN [] [
 kZ 2,kZ 3])
 .ret)
 (.seq (.seq (.regN [4] [
 kx 9 (.bini .eql (ux 4) (.con (.val (.int .i64 3)))),kM 8 9])
 (.cond (ux 8)
 .skip
 (.regN [4] [
 kx 10 (.bini .eql (ux 4) (.con (.val (.int .i64 4)))),kM 8 10])))
 (.cond (ux 8)
 (.seq (.regN [] [
 kx 2 (.mv (.con (.val (.int .i64 2)))),kx 3 (.mv (.con (.val (.int .i64 512))))])
 .ret)
 (.seq (.seq (.regN [4] [
 kx 12 (.bini .eql (ux 4) (.con (.val (.int .i64 5)))),kM 11 12])
 (.cond (ux 11)
 .skip
 (.seq (.regN [4] [
 kx 13 (.bini .eql (ux 4) (.con (.val (.int .i64 6)))),kM 11 13])
 (.cond (ux 11)
 .skip
 (.regN [4] [
 kx 14 (.bini .eql (ux 4) (.con (.val (.int .i64 7)))),kM 11 14])))))
 (.cond (ux 11)
 (.seq (.regN [] [
 kx 2 (.mv c1),kx 3 (.mv c1)])
 .ret)
 .skip))))))))
 (.seq (.regN [] [
 kx 2 (.mv (.con (.val (.int .i64 (-1))))),kx 3 (.mv (.con (.val (.int .i64 (-1)))))])
 .ret)))
def t33:AFn:=⟨1,t33B,
 [.tmp 2,.tmp 3],true⟩
def t11B:AC:=(.seq (.regN [0] [
 kx 2 (.mv (.con .e0))])
 (.seq (.seq (.regN [0] [
 kM 3 0,kC 4 10 3,kx 5 (.bini .neq (ux 4) c0)])
 (.cond (ux 5)
 (.seq (.regN [] [
 kx 2 (.mv (.con .e0))])
 .ret)
 .skip))
 (.seq (.regN [0] [
 kM 6 0,kM 7 0,kN 8 7,kx 9 (.bini .sub (ux 8) c1),kx 10 (.call 34 [(ux 6),(ux 9)]),kM 2 10])
 .ret)))
def t11:AFn:=⟨1,t11B,
 [.tmp 2],true⟩
def t34L1:AC:=(.seq (.seq (.regN [0,1,5,6] [
 kM 19 6,kM 20 0,kM 21 1,kI 22 6 20 21,kF 23 5 22,kL 24 23,kN 25 24,kT 26 19 25])
 (.cond (ux 26)
 .skip
 (.exit 0)))
 (.seq (.block 1
 (.regN [0,1,5,6] [
 kM 29 5,kM 30 0,kM 31 0,kM 32 1,kI 33 6 31 32,kF 34 5 33,kL 35 34,kM 36 6,kI 37 1 35 36,kL 38 37,kx 39 (.call 34 [(ux 30),(ux 38)]),kx 40 (.app 4 32 (ux 29) (ux 39)),kM 5 40]))
 (.regN [0,1,5,6] [
 kM 27 6,kU 28 27,kM 6 28])))
def t34B:AC:=(.seq (.regN [0,1] [
 kx 4 (.mv (.con .e0))])
 (.seq (.seq (.regN [0,1] [
 kM 7 0,kM 8 1,kI 9 6 7 8,kF 10 0 9,kL 11 10,kx 12 (.bini .eql (ux 11) (.con (.val (.int .i64 2))))])
 (.cond (ux 12)
 (.seq (.regN [0,1] [
 kM 13 0,kM 14 1,kI 15 6 13 14,kF 16 1 15,kx 17 (.ldA none 4 (ux 16)),kx 18 (.buildS 1 [(.val (.int .u64 0)),(.val (.int .u64 0)),(.val (.int .u64 0)),(.val (.int .u64 0))] [(0,4,(ux 17))]),kM 4 18])
 .ret)
 .skip))
 (.seq (.regN [0,1] [
 kx 5 (.mv (.con .e0))])
 (.seq (.seq (.regN [0,1,5] [
 kZ 6])
 (.block 0
 (.loop [0,1,5,6] t34L1)))
 (.seq (.regN [5] [
 kM 41 5,kM 4 41])
 .ret)))))
def t34:AFn:=⟨2,t34B,
 [.tmp 4],true⟩
def t12B:AC:=(.seq (.regN [0,1] [
 kx 4 (.mv cF)])
 (.seq (.seq (.regN [0,1] [
 kM 5 0,kC 6 10 5,kx 7 (.bini .neq (ux 6) c0)])
 (.cond (ux 7)
 (.seq (.regN [] [
 kx 4 (.mv cF)])
 .ret)
 .skip))
 (.seq (.regN [0,1] [
 kM 8 0,kM 9 1,kx 10 (.call 35 [(ux 8),(ux 9)]),kM 11 0,kN 12 11,kx 13 (.bini .sub (ux 12) c1),kI 14 1 10 13,kL 15 14,kx 16 (.ixA 1 (ux 15) c0),kL 17 16,kM 18 1,kx 19 (.len true (ux 18)),kI 20 1 17 19,kL 21 20,kM 4 21])
 .ret)))
def t12:AFn:=⟨2,t12B,
 [.tmp 4],true⟩
def t35L1:AC:=(.seq (.seq (.regN [0,1,5,6,7,8,9] [
 kM 33 9,kM 34 1,kx 35 (.len true (ux 34)),kT 36 33 35,kM 37 36,yF 38 37 0 7,yS 39 37 7 38,ky 40 37 (.bini .eql (ux 39) (.con (.val (.int .i64 2)))),kx 41 (.pick (ux 37) (ux 40) cF)])
 (.cond (ux 41)
 .skip
 (.exit 2)))
 (.seq (.block 3
 (.regD [0,1,5,6,7,8,9] 0 [
 kM 44 8,kM 45 9,kI 46 1 44 45,kL 47 46,kM 48 9,kU 49 48,kF 50 1 7,kP 51 7 4 50,kM 52 1,kM 53 9,kx 54 (.ixS (ux 52) (ux 53)),kx 55 (.call 19 [(ux 51),(ux 54)]),kI 56 1 47 49,kn (.st none 1 (ux 56) (ux 55))]))
 (.regN [0,1,5,6,7,8,9] [
 kM 42 9,kU 43 42,kM 9 43])))
def t35L2:AC:=(.seq (.seq (.regN [0,1,5,6,7,8,10] [
 kM 57 10,kF 58 5 7,kS 59 7 58,kN 60 59,kT 61 57 60])
 (.cond (ux 61)
 .skip
 (.exit 4)))
 (.seq (.block 5
 (.seq (.regN [0,1,5,6,7,8,10] [
 kF 64 0 7,kS 65 7 64,kx 66 (.bini .eql (ux 65) (.con (.val (.int .i64 3))))])
 (.cond (ux 66)
 (.regN [0,1,5,6,7,8,10] [
 kM 67 8,kM 68 5,kF 69 5 7,kS 70 7 69,kM 71 10,kI 72 1 70 71,kL 73 72,kI 74 1 68 73,kL 75 74,kx 76 (.call 54 [(ux 67),(ux 75)]),kM 8 76])
 (.regN [0,1,5,6,7,8,10] [
 kM 77 8,kM 78 5,kF 79 5 7,kS 80 7 79,kM 81 10,kI 82 1 80 81,kL 83 82,kI 84 1 78 83,kL 85 84,kx 86 (.call 55 [(ux 77),(ux 85)]),kM 8 86]))))
 (.regN [0,1,5,6,7,8,10] [
 kM 62 10,kU 63 62,kM 10 63])))
def t35L3:AC:=(.seq (.seq (.regN [0,1,5,6] [
 kM 11 6,kM 12 0,kN 13 12,kT 14 11 13])
 (.cond (ux 14)
 .skip
 (.exit 0)))
 (.seq (.block 1
 (.seq (.regN [0,1,5,6] [
 kM 17 0,kM 18 6,kI 19 6 17 18,kx 20 (.ldA none 6 (ux 19)),kx 7 (.allocR [(.val (.int .i64 0)),(.val (.int .u64 0)),(.val (.int .u64 0)),(.val (.int .u64 0)),(.val (.int .u64 0)),.e0]),kn (.st (some 7) 6 (ux 7) (ux 20))])
 (.seq (.regN [0,1,5,6,7] [
 kM 21 1,kx 22 (.len true (ux 21)),kU 23 22,kF 24 0 7,kS 25 7 24,kx 26 (.bini .eql (ux 25) c1),kM 27 26,zF 28 27 0 7,zS 29 27 7 28,kz 30 27 (.bini .eql (ux 29) (.con (.val (.int .i64 3)))),kO 31 27 30,kx 32 (.call 53 [(ux 23),(ux 31)]),kM 8 32])
 (.seq (.seq (.regN [0,1,5,6,7,8] [
 kZ 9])
 (.block 2
 (.loop [0,1,5,6,7,8,9] t35L1)))
 (.seq (.seq (.regN [0,1,5,6,7,8] [
 kZ 10])
 (.block 4
 (.loop [0,1,5,6,7,8,10] t35L2)))
 (.seq (.seq (.regN [0,1,5,6,7,8] [
 kF 87 0 7,kS 88 7 87,kx 89 (.bini .eql (ux 88) (.con (.val (.int .i64 5)))),kM 90 89,zF 91 90 0 7,zS 92 90 7 91,kz 93 90 (.bini .eql (ux 92) (.con (.val (.int .i64 6)))),kO 94 90 93])
 (.cond (ux 94)
 (.regN [0,1,5,6,7,8] [
 kM 95 8,kC 96 56 95,kM 8 96])
 .skip))
 (.seq (.seq (.regN [0,1,5,6,7,8] [
 kF 97 0 7,kS 98 7 97,kx 99 (.bini .eql (ux 98) (.con (.val (.int .i64 5)))),kM 100 99,zF 101 100 0 7,zS 102 100 7 101,kz 103 100 (.bini .eql (ux 102) (.con (.val (.int .i64 7)))),kO 104 100 103])
 (.cond (ux 104)
 (.regN [0,1,5,6,8] [
 kM 105 8,kM 106 1,kx 107 (.len true (ux 106)),kU 108 107,kx 109 (.call 53 [(ux 108),cT]),kx 110 (.call 55 [(ux 105),(ux 109)]),kM 8 110])
 .skip))
 (.regN [0,1,5,6,8] [
 kM 111 5,kM 112 8,kx 113 (.buildS 1 [.e0] [(0,1,(ux 112))]),kx 114 (.app 1 24 (ux 111) (ux 113)),kM 5 114]))))))))
 (.regN [0,1,5,6] [
 kM 15 6,kU 16 15,kM 6 16])))
def t35B:AC:=(.seq (.regN [0,1] [
 kx 4 (.mv (.con .e0))])
 (.seq (.regN [0,1] [
 kx 5 (.mv (.con .e0))])
 (.seq (.seq (.regN [0,1,5] [
 kZ 6])
 (.block 0
 (.loop [0,1,5,6] t35L3)))
 (.seq (.regN [5] [
 kM 115 5,kM 4 115])
 .ret))))
def t35:AFn:=⟨2,t35B,
 [.tmp 4],false⟩
def t53L1:AC:=(.seq (.seq (.regN [0,1,5,6] [
 kM 7 6,kM 8 0,kT 9 7 8])
 (.cond (ux 9)
 .skip
 (.exit 0)))
 (.seq (.block 1
 (.seq (.regN [0,1,5,6] [
 kM 12 5,kM 13 0,kx 14 (.mks 1 1 [(.val (.bool false))] (ux 13)),kx 15 (.buildS 1 [.e0] [(0,1,(ux 14))]),kx 16 (.app 1 24 (ux 12) (ux 15)),kM 5 16])
 (.regN [0,1,5,6] [
 kM 17 5,kM 18 6,kI 19 1 17 18,kL 20 19,kM 21 6,kM 22 1,kI 23 1 20 21,kn (.st none 1 (ux 23) (ux 22))])))
 (.regN [0,1,5,6] [
 kM 10 6,kU 11 10,kM 6 11])))
def t53B:AC:=(.seq (.regN [0,1] [
 kx 4 (.mv (.con .e0))])
 (.seq (.regN [0,1] [
 kx 5 (.mv (.con .e0))])
 (.seq (.seq (.regN [0,1,5] [
 kZ 6])
 (.block 0
 (.loop [0,1,5,6] t53L1)))
 (.seq (.regN [5] [
 kM 24 5,kM 4 24])
 .ret))))
def t53:AFn:=⟨2,t53B,
 [.tmp 4],false⟩
def t19B:AC:=(.seq (.regN [0,1] [
 kB 2 4 0,kx 4 (.mv cF)])
 (.seq (.regN [1,2] [
 kM 5 1,kx 6 (.bini .quo (ux 5) (.con (.val (.int .u8 64)))),kx 7 (.ixR 4 1 (ux 2) (ux 6)),kS 8 2 7,kM 9 1,kx 10 (.bini .rem (ux 9) (.con (.val (.int .u8 64)))),kx 11 (.cvi .u64 (ux 10)),kx 12 (.bini .shr (ux 8) (ux 11)),kx 13 (.bini .and (ux 12) (.con (.val (.int .u64 1)))),kx 14 (.bini .eql (ux 13) (.con (.val (.int .u64 1)))),kM 4 14])
 .ret))
def t19:AFn:=⟨2,t19B,
 [.tmp 4],true⟩
def t54L1:AC:=(.seq (.seq (.regN [0,1,5,6,7,8] [
 kM 24 8,kM 25 0,kN 26 25,kT 27 24 26,kM 28 27,yM 29 28 0,yM 30 28 6,yI 31 28 1 29 30,yL 32 28 31,yM 33 28 7,yI 34 28 1 32 33,yL 35 28 34,kx 36 (.pick (ux 28) (ux 35) cF)])
 (.cond (ux 36)
 .skip
 (.exit 4)))
 (.seq (.block 5
 (.regD [0,1,5,6,7,8] 0 [
 kM 39 5,kM 40 6,kI 41 1 39 40,kL 42 41,kM 43 8,kM 44 5,kM 45 6,kI 46 1 44 45,kL 47 46,kM 48 8,kI 49 1 47 48,kL 50 49,kM 51 50,zM 52 51 1,zM 53 51 7,zI 54 51 1 52 53,zL 55 51 54,zM 56 51 8,zI 57 51 1 55 56,zL 58 51 57,kO 59 51 58,kI 60 1 42 43,kn (.st none 1 (ux 60) (ux 59))]))
 (.regN [0,1,5,6,7,8] [
 kM 37 8,kU 38 37,kM 8 38])))
def t54L2:AC:=(.seq (.seq (.regN [0,1,5,6,7] [
 kM 18 7,kM 19 0,kN 20 19,kT 21 18 20])
 (.cond (ux 21)
 .skip
 (.exit 2)))
 (.seq (.block 3
 (.seq (.regN [0,1,5,6,7] [
 kZ 8])
 (.block 4
 (.loop [0,1,5,6,7,8] t54L1))))
 (.regN [0,1,5,6,7] [
 kM 22 7,kU 23 22,kM 7 23])))
def t54L3:AC:=(.seq (.seq (.regN [0,1,5,6] [
 kM 12 6,kM 13 0,kN 14 13,kT 15 12 14])
 (.cond (ux 15)
 .skip
 (.exit 0)))
 (.seq (.block 1
 (.seq (.regN [0,1,5,6] [
 kZ 7])
 (.block 2
 (.loop [0,1,5,6,7] t54L2))))
 (.regN [0,1,5,6] [
 kM 16 6,kU 17 16,kM 6 17])))
def t54B:AC:=(.seq (.regN [0,1] [
 kx 4 (.mv (.con .e0))])
 (.seq (.regN [0,1] [
 kM 9 0,kN 10 9,kx 11 (.call 53 [(ux 10),cF]),kM 5 11])
 (.seq (.seq (.regN [0,1,5] [
 kZ 6])
 (.block 0
 (.loop [0,1,5,6] t54L3)))
 (.seq (.regN [5] [
 kM 61 5,kM 4 61])
 .ret))))
def t54:AFn:=⟨2,t54B,
 [.tmp 4],false⟩
def t55L1:AC:=(.seq (.seq (.regN [0,1,5,6,7] [
 kM 17 7,kM 18 0,kN 19 18,kT 20 17 19])
 (.cond (ux 20)
 .skip
 (.exit 2)))
 (.seq (.block 3
 (.regD [0,1,5,6,7] 0 [
 kM 23 5,kM 24 6,kI 25 1 23 24,kL 26 25,kM 27 7,kM 28 0,kM 29 6,kI 30 1 28 29,kL 31 30,kM 32 7,kI 33 1 31 32,kL 34 33,kM 35 34,zM 36 35 1,zM 37 35 6,zI 38 35 1 36 37,zL 39 35 38,zM 40 35 7,zI 41 35 1 39 40,zL 42 35 41,kO 43 35 42,kI 44 1 26 27,kn (.st none 1 (ux 44) (ux 43))]))
 (.regN [0,1,5,6,7] [
 kM 21 7,kU 22 21,kM 7 22])))
def t55L2:AC:=(.seq (.seq (.regN [0,1,5,6] [
 kM 11 6,kM 12 0,kN 13 12,kT 14 11 13])
 (.cond (ux 14)
 .skip
 (.exit 0)))
 (.seq (.block 1
 (.seq (.regN [0,1,5,6] [
 kZ 7])
 (.block 2
 (.loop [0,1,5,6,7] t55L1))))
 (.regN [0,1,5,6] [
 kM 15 6,kU 16 15,kM 6 16])))
def t55B:AC:=(.seq (.regN [0,1] [
 kx 4 (.mv (.con .e0))])
 (.seq (.regN [0,1] [
 kM 8 0,kN 9 8,kx 10 (.call 53 [(ux 9),cF]),kM 5 10])
 (.seq (.seq (.regN [0,1,5] [
 kZ 6])
 (.block 0
 (.loop [0,1,5,6] t55L2)))
 (.seq (.regN [5] [
 kM 45 5,kM 4 45])
 .ret))))
def t55:AFn:=⟨2,t55B,
 [.tmp 4],false⟩
def t56L1:AC:=(.seq (.seq (.regN [0,3,4,5,6] [
 kM 22 6,kM 23 0,kN 24 23,kT 25 22 24,kM 26 25,yM 27 26 3,yM 28 26 5,yI 29 26 1 27 28,yL 30 26 29,yM 31 26 4,yI 32 26 1 30 31,yL 33 26 32,kx 34 (.pick (ux 26) (ux 33) cF)])
 (.cond (ux 34)
 .skip
 (.exit 4)))
 (.seq (.block 5
 (.regD [0,3,4,5,6] 0 [
 kM 37 3,kM 38 5,kI 39 1 37 38,kL 40 39,kM 41 6,kM 42 3,kM 43 5,kI 44 1 42 43,kL 45 44,kM 46 6,kI 47 1 45 46,kL 48 47,kM 49 48,zM 50 49 3,zM 51 49 4,zI 52 49 1 50 51,zL 53 49 52,zM 54 49 6,zI 55 49 1 53 54,zL 56 49 55,kO 57 49 56,kI 58 1 40 41,kn (.st none 1 (ux 58) (ux 57))]))
 (.regN [0,3,4,5,6] [
 kM 35 6,kU 36 35,kM 6 36])))
def t56L2:AC:=(.seq (.seq (.regN [0,3,4,5] [
 kM 16 5,kM 17 0,kN 18 17,kT 19 16 18])
 (.cond (ux 19)
 .skip
 (.exit 2)))
 (.seq (.block 3
 (.seq (.regN [0,3,4,5] [
 kZ 6])
 (.block 4
 (.loop [0,3,4,5,6] t56L1))))
 (.regN [0,3,4,5] [
 kM 20 5,kU 21 20,kM 5 21])))
def t56L3:AC:=(.seq (.seq (.regN [0,3,4] [
 kM 10 4,kM 11 0,kN 12 11,kT 13 10 12])
 (.cond (ux 13)
 .skip
 (.exit 0)))
 (.seq (.block 1
 (.seq (.regN [0,3,4] [
 kZ 5])
 (.block 2
 (.loop [0,3,4,5] t56L2))))
 (.regN [0,3,4] [
 kM 14 4,kU 15 14,kM 4 15])))
def t56B:AC:=(.seq (.regN [0] [
 kx 2 (.mv (.con .e0))])
 (.seq (.regN [0] [
 kM 7 0,kM 8 0,kx 9 (.call 55 [(ux 7),(ux 8)]),kM 3 9])
 (.seq (.seq (.regN [0,3] [
 kZ 4])
 (.block 0
 (.loop [0,3,4] t56L3)))
 (.seq (.regN [3] [
 kM 59 3,kM 2 59])
 .ret))))
def t56:AFn:=⟨1,t56B,
 [.tmp 2],false⟩
def t14L1:AC:=(.seq (.regN [1,3,4,6,41,42,43,48,49,50] [
 kT 51 50 49])
 (.seq (.cond (ux 51)
 .skip
 (.exit 2))
 (.seq (.block 3
 (.seq (.regN [1,3,4,6,41,42,43,48,49,50] [
 kI 52 1 48 50,kL 53 52,kM 8 53])
 (.seq (.seq (.regN [1,3,4,6,8,41,42,43,48,49,50] [
 kM 54 8,kM 55 6,kx 56 (.bini .leq (ux 54) (ux 55)),kM 57 56,zM 58 57 8,zM 59 57 3,kz 60 57 (.bini .geq (ux 58) (ux 59)),kO 61 57 60])
 (.cond (ux 61)
 (.seq (.regN [] [
 kx 2 (.mv (.con (.val (.int .i64 2))))])
 .ret)
 .skip))
 (.regN [1,3,4,8,41,42,43,48,49,50] [
 kM 62 8,kM 6 62]))))
 (.regN [1,3,4,6,41,42,43,48,49,50] [
 kU 63 50,kM 50 63]))))
def t14L2:AC:=(.seq (.regN [1,3,41,42,43] [
 kT 44 43 42])
 (.seq (.cond (ux 44)
 .skip
 (.exit 0))
 (.seq (.block 1
 (.seq (.regN [1,3,41,42,43] [
 kM 45 43,kI 46 1 41 43,kL 47 46,kM 4 45,kM 5 47])
 (.seq (.regN [1,3,4,5,41,42,43] [
 kZ 6])
 (.seq (.seq (.regN [1,3,4,5,6,41,42,43] [
 kM 48 5,kN 49 48,kZ 50])
 (.block 2
 (.loop [1,3,4,6,41,42,43,48,49,50] t14L1)))
 (.seq (.regN [1,3,4,41,42,43] [
 kF 64 2 1,kS 65 1 64,kM 66 4,kI 67 1 65 66,kL 68 67,kx 69 (.bini .lss (ux 68) (.con (.val (.int .i64 (-1))))),kM 70 69,zF 71 70 2 1,zS 72 70 1 71,zM 73 70 4,zI 74 70 1 72 73,zL 75 70 74,kz 76 70 (.bini .geq (ux 75) (.con (.val (.int .i64 16)))),kO 77 70 76])
 (.cond (ux 77)
 (.seq (.regN [] [
 kx 2 (.mv (.con (.val (.int .i64 2))))])
 .ret)
 .skip))))))
 (.regN [1,3,41,42,43] [
 kU 78 43,kM 43 78]))))
def t14B:AC:=(.seq (.regN [0] [
 kB 1 3 0,kZ 2])
 (.seq (.regN [1] [
 kF 9 0 1,kS 10 1 9,kN 11 10,kM 3 11])
 (.seq (.seq (.regN [1,3] [
 kM 12 3,kx 13 (.bini .lss (ux 12) c1),kM 14 13,zM 15 14 3,kz 16 14 (.bini .gtr (ux 15) (.con (.val (.int .i64 1024)))),kO 17 14 16,kM 18 17,zF 19 18 1 1,zS 20 18 1 19,zN 21 18 20,zM 22 18 3,kz 23 18 (.bini .neq (ux 21) (ux 22)),kO 24 18 23,kM 25 24,zF 26 25 2 1,zS 27 25 1 26,zN 28 25 27,zM 29 25 3,kz 30 25 (.bini .neq (ux 28) (ux 29)),kO 31 25 30,kM 32 31,zF 33 32 0 1,zS 34 32 1 33,kz 35 32 (.ixA 4 (ux 34) c0),kz 36 32 (.ldA none 4 (ux 35)),kz 37 32 (.build [(.val (.int .u64 0)),(.val (.int .u64 0)),(.val (.int .u64 0)),(.val (.int .u64 0))] []),kz 38 32 (.eqa true [1,1,1,1] (ux 36) (ux 37)),kO 39 32 38])
 (.cond (ux 39)
 (.seq (.regN [] [
 kx 2 (.mv (.con (.val (.int .i64 2))))])
 .ret)
 .skip))
 (.seq (.seq (.regN [1,3] [
 kF 40 1 1,kS 41 1 40,kN 42 41,kZ 43])
 (.block 0
 (.loop [1,3,41,42,43] t14L2)))
 (.seq (.regN [] [
 kZ 2])
 .ret)))))
def t14:AFn:=⟨1,t14B,
 [.tmp 2],true⟩
def t15L1:AC:=(.seq (.regN [2,5,13,14,15] [
 kT 16 15 14])
 (.seq (.cond (ux 16)
 .skip
 (.exit 0))
 (.seq (.block 1
 (.seq (.regN [2,5,13,14,15] [
 kI 17 1 13 15,kL 18 17,kM 7 18])
 (.regN [2,5,7,13,14,15] [
 kP 19 2 3 2,kM 20 5,kM 21 7,kx 22 (.call 42 [(ux 19),(ux 20),(ux 21)]),kM 5 22])))
 (.regN [2,5,13,14,15] [
 kU 23 15,kM 15 23]))))
def t15B:AC:=(.seq (.regN [0,1] [
 kB 2 3 0,kZ 4])
 (.seq (.seq (.regN [1,2] [
 kP 8 2 3 2,kC 9 14 8,kx 10 (.bini .neq (ux 9) c0)])
 (.cond (ux 10)
 (.seq (.regN [] [
 kx 4 (.mv (.con (.val (.int .i64 (-1)))))])
 .ret)
 .skip))
 (.seq (.regN [1,2] [
 kx 11 (.buildS 1 [(.val (.int .i64 0))] [(0,1,c0)]),kM 5 11])
 (.seq (.seq (.regN [1,2,5] [
 kM 12 1,kx 13 (.s2b (ux 12)),kN 14 13,kZ 15])
 (.block 0
 (.loop [2,5,13,14,15] t15L1)))
 (.seq (.regN [2,5] [
 kP 24 2 3 2,kM 25 5,kx 26 (.call 43 [(ux 24),(ux 25)]),kM 4 26])
 .ret)))))
def t15:AFn:=⟨2,t15B,
 [.tmp 4],true⟩
def t42L1:AC:=(.seq (.regN [2,3,7,13,14,15,32,33,34] [
 kT 35 34 33])
 (.seq (.cond (ux 35)
 .skip
 (.exit 2))
 (.seq (.block 3
 (.seq (.regN [2,3,7,13,14,15,32,33,34] [
 kI 36 1 32 34,kL 37 36,kM 11 37])
 (.seq (.regN [2,3,7,11,13,14,15,32,33,34] [
 kF 38 0 3,kS 39 3 38,kM 40 11,kI 41 4 39 40,kx 42 (.ldA none 4 (ux 41)),kM 43 2,kx 44 (.call 65 [(ux 42),(ux 43)])])
 (.cond (ux 44)
 (.regN [2,3,7,11,13,14,15,32,33,34] [
 kM 45 7,kM 46 11,kx 47 (.build [] []),kn (.mup false [1] (ux 45) (ux 46) (ux 47))])
 .skip))))
 (.regN [2,3,7,13,14,15,32,33,34] [
 kU 48 34,kM 34 48]))))
def t42L2:AC:=(.seq (.regN [2,3,7,13,14,15] [
 kT 16 15 14])
 (.seq (.cond (ux 16)
 .skip
 (.exit 0))
 (.seq (.block 1
 (.seq (.regN [2,3,7,13,14,15] [
 kI 17 1 13 15,kL 18 17,kM 9 18])
 (.seq (.seq (.regN [2,3,7,9,13,14,15] [
 kM 19 9,kx 20 (.bini .lss (ux 19) c0),kM 21 20,zM 22 21 9,zF 23 21 1 3,zS 24 21 3 23,zN 25 21 24,kz 26 21 (.bini .geq (ux 22) (ux 25)),kO 27 21 26])
 (.cond (ux 27)
 (.exit 1)
 .skip))
 (.seq (.regN [2,3,7,9,13,14,15] [
 kF 28 1 3,kS 29 3 28,kM 30 9,kI 31 1 29 30,kL 32 31,kN 33 32,kZ 34])
 (.block 2
 (.loop [2,3,7,13,14,15,32,33,34] t42L1))))))
 (.regN [2,3,7,13,14,15] [
 kU 49 15,kM 15 49]))))
def t42B:AC:=(.seq (.regN [0,1,2] [
 kB 3 3 0,kx 6 (.mv (.con .e0))])
 (.seq (.regN [1,2,3] [
 kx 12 (.mkm),kM 7 12])
 (.seq (.seq (.regN [1,2,3,7] [
 kM 13 1,kN 14 13,kZ 15])
 (.block 0
 (.loop [2,3,7,13,14,15] t42L2)))
 (.seq (.regN [7] [
 kM 50 7,kC 51 41 50,kC 52 40 51,kM 6 52])
 .ret))))
def t42:AFn:=⟨3,t42B,
 [.tmp 6],true⟩
def t65B:AC:=(.seq (.regN [0,1] [
 kB 2 4 0,kx 4 (.mv cF)])
 (.seq (.regN [1,2] [
 kM 5 1,kx 6 (.bini .quo (ux 5) (.con (.val (.int .u8 64)))),kx 7 (.ixR 4 1 (ux 2) (ux 6)),kS 8 2 7,kM 9 1,kx 10 (.bini .rem (ux 9) (.con (.val (.int .u8 64)))),kx 11 (.bini .shl (.con (.val (.int .u64 1))) (ux 10)),kx 12 (.bini .and (ux 8) (ux 11)),kx 13 (.bini .neq (ux 12) (.con (.val (.int .u64 0)))),kM 4 13])
 .ret))
def t65:AFn:=⟨2,t65B,
 [.tmp 4],true⟩
def t43L1:AC:=(.seq (.regN [2,5,9,10,11] [
 kT 12 11 10])
 (.seq (.cond (ux 12)
 .skip
 (.exit 0))
 (.seq (.block 1
 (.seq (.regN [2,5,9,10,11] [
 kI 13 1 9 11,kL 14 13,kM 7 14])
 (.seq (.seq (.regN [2,5,7,9,10,11] [
 kM 15 7,kx 16 (.bini .lss (ux 15) c0),kM 17 16,zM 18 17 7,zF 19 17 2 2,zS 20 17 2 19,zN 21 17 20,kz 22 17 (.bini .geq (ux 18) (ux 21)),kO 23 17 22])
 (.cond (ux 23)
 (.exit 1)
 .skip))
 (.seq (.regN [2,5,7,9,10,11] [
 kF 24 2 2,kS 25 2 24,kM 26 7,kI 27 1 25 26,kL 28 27,kM 8 28])
 (.seq (.regN [2,5,8,9,10,11] [
 kM 29 8,kx 30 (.bini .geq (ux 29) c0),kM 31 30,yM 32 31 5,ky 33 31 (.bini .lss (ux 32) c0),yM 34 31 33,zM 35 34 8,zM 36 34 5,kz 37 34 (.bini .lss (ux 35) (ux 36)),ky 38 31 (.pick (ux 34) cT (ux 37)),kx 39 (.pick (ux 31) (ux 38) cF)])
 (.cond (ux 39)
 (.regN [2,8,9,10,11] [
 kM 40 8,kM 5 40])
 .skip))))))
 (.regN [2,5,9,10,11] [
 kU 41 11,kM 11 41]))))
def t43B:AC:=(.seq (.regN [0,1] [
 kB 2 3 0,kZ 4])
 (.seq (.regN [1,2] [
 kx 5 (.mv (.con (.val (.int .i64 (-1)))))])
 (.seq (.seq (.regN [1,2,5] [
 kM 9 1,kN 10 9,kZ 11])
 (.block 0
 (.loop [2,5,9,10,11] t43L1)))
 (.seq (.regN [5] [
 kM 42 5,kM 4 42])
 .ret))))
def t43:AFn:=⟨2,t43B,
 [.tmp 4],true⟩
end Go.Proofs.Ytnhennjliinplaa
