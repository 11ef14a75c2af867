/- The functions of a program, compiled: printed by wip/hm/tools/Gen.lean. -/
import Derived.Test.YtkllbcjanneppaaGreatHmG10
import Derived.Test.YtkllbcjanneppaaGreatHmG12
import Derived.Test.YtkllbcjanneppaaGreatRw
import Derived.Test.YtkllbcjanneppaaGreatRg
import Derived.Test.YtkllbcjanneppaaGreatCg
import Derived.Test.YtkllbcjanneppaaGreatRn
import Derived.Test.YtkllbcjanneppaaGreatRows
namespace Go.Proofs.YtkllbcjanneppaaGreat
open Go Go.Hm
abbrev kx (d:Nat)(o:AOp):AI:=⟨some d,none,o,0,false⟩
abbrev ky (d g:Nat)(o:AOp):AI:=⟨some d,some (g,true),o,0,false⟩
abbrev kz (d g:Nat)(o:AOp):AI:=⟨some d,some (g,false),o,0,false⟩
abbrev kn (o:AOp):AI:=⟨none,none,o,0,false⟩
abbrev kf (d:Nat)(o:AOp):AI:=⟨some d,none,o,0,true⟩
abbrev ux (n:Nat):AO:=.tmp n
abbrev um (n:Nat):AOp:=.mv (.tmp n)
abbrev c0:AO:=.con (.val (.int .i64 0))
abbrev c1:AO:=.con (.val (.int .i64 1))
abbrev cT:AO:=.con (.val (.bool true))
abbrev cF:AO:=.con (.val (.bool false))
attribute [simp] kx ky kz kn kf ux um c0 c1 cT cF
def IK:AC:=(.seq (.seq (.regD [1,3,4,5,6,7,8,9,10,11,12,13] 0 [
 kx 58 (um 13),kx 59 (.fldA 3 (ux 1)),kx 60 (.ld1 (some 1) (ux 59)),kx 61 (um 7),kx 62 (um 10),kx 63 (.ixA 1 (ux 61) (ux 62)),kx 64 (.ld1 none (ux 63)),kx 65 (.ixA 2 (ux 60) (ux 64)),kx 66 (.fldA 1 (ux 65)),kx 67 (.ld1 none (ux 66)),kx 68 (.len false (ux 67)),kx 69 (.bini .lss (ux 58) (ux 68))])
 (.cond (ux 69)
 .skip
 (.exit 4)))
 (.seq (.block 5
 (.seq (.regD [1,3,4,5,6,7,8,9,10,11,12,13] 0 [
 kx 72 (.fldA 3 (ux 1)),kx 73 (.ld1 (some 1) (ux 72)),kx 74 (um 7),kx 75 (um 10),kx 76 (.ixA 1 (ux 74) (ux 75)),kx 77 (.ld1 none (ux 76)),kx 78 (.ixA 2 (ux 73) (ux 77)),kx 79 (.fldA 1 (ux 78)),kx 80 (.ld1 none (ux 79)),kx 81 (um 13),kx 82 (.ixA 1 (ux 80) (ux 81)),kx 83 (.ld1 none (ux 82)),kx 84 (.fldA 0 (ux 1)),kx 85 (.ld1 (some 1) (ux 84)),kx 86 (.bini .sub (ux 83) (ux 85)),kx 14 (um 86)])
 (.seq (.seq (.regN [1,3,4,5,6,7,8,9,10,11,12,13,14] [
 kx 87 (um 12),kx 88 (um 87),ky 89 88 (um 14),ky 90 88 (.bini .geq (ux 89) c0),kx 91 (.pick (ux 88) (ux 90) cF)])
 (.cond (ux 91)
 (.regN [1,3,4,5,6,7,8,9,10,11,12,13,14] [
 kx 92 (um 9),kx 93 (um 4),kx 94 (um 14),kx 95 (.ixA 1 (ux 93) (ux 94)),kx 96 (.ld1 none (ux 95)),kx 97 (.bini .add (ux 96) c1),kx 98 (.mm true [(ux 92),(ux 97)]),kx 9 (um 98)])
 .skip))
 (.seq (.regN [1,3,4,5,6,7,8,9,10,11,12,13,14] [
 kx 99 (um 12),kx 100 (um 99),ky 101 100 (um 14),ky 102 100 (.bini .geq (ux 101) c0),kx 103 (.pick (ux 100) (ux 102) cF),kx 104 (um 103),ky 105 104 (um 5),ky 106 104 (um 14),ky 107 104 (.ixA 1 (ux 105) (ux 106)),ky 108 104 (.ld1 none (ux 107)),kx 109 (.pick (ux 104) (ux 108) cF),kx 12 (um 109)])
 (.seq (.seq (.regN [1,3,4,5,6,7,8,9,10,11,12,13,14] [
 kx 110 (um 14),kx 111 (.bini .lss (ux 110) c0),kx 112 (um 111),kz 113 112 (um 3),kz 114 112 (um 14),kz 115 112 (.ixA 1 (ux 113) (ux 114)),kz 116 112 (.ld1 none (ux 115)),kz 117 112 (.bini .lss (ux 116) c0),kx 118 (.pick (ux 112) cT (ux 117))])
 (.cond (ux 118)
 (.seq (.regN [1,3,4,5,6,7,8,9,10,12,13] [
 kx 11 (.mv (.con (.val (.int .i64 (-1)))))])
 (.seq (.seq (.regN [1,3,4,5,6,7,8,9,10,11,12,13] [
 kx 119 (um 12),kx 120 (.not (ux 119))])
 (.cond (ux 120)
 (.exit 4)
 .skip))
 (.exit 5)))
 .skip))
 (.seq (.regN [1,3,4,5,6,7,8,9,10,11,12,13,14] [
 kx 121 (um 11),kx 122 (.bini .gtr (ux 121) c0)])
 (.cond (ux 122)
 (.regN [1,3,4,5,6,7,8,9,10,11,12,13,14] [
 kx 123 (um 11),kx 124 (um 3),kx 125 (um 14),kx 126 (.ixA 1 (ux 124) (ux 125)),kx 127 (.ld1 none (ux 126)),kx 128 (.bini .add (ux 123) (ux 127)),kx 11 (um 128)])
 .skip)))))))
 (.regN [1,3,4,5,6,7,8,9,10,11,12,13] [
 kx 70 (um 13),kx 71 (.bini .add (ux 70) c1),kx 13 (um 71)])))
def IL:AC:=(.seq (.seq (.regN [1,3,4,5,6,7,8,9,10] [
 kx 52 (um 10),kx 53 (um 7),kx 54 (.len false (ux 53)),kx 55 (.bini .lss (ux 52) (ux 54))])
 (.cond (ux 55)
 .skip
 (.exit 2)))
 (.seq (.block 3
 (.seq (.regN [1,3,4,5,6,7,8,9,10] [
 kx 11 (.mv c1)])
 (.seq (.regN [1,3,4,5,6,7,8,9,10,11] [
 kx 12 (.mv cT)])
 (.seq (.seq (.regN [1,3,4,5,6,7,8,9,10,11,12] [
 kx 13 (.mv c0)])
 (.block 4
 (.loop [1,3,4,5,6,7,8,9,10,11,12,13] IK)))
 (.seq (.regN [1,3,4,5,6,7,8,9,10,11] [
 kx 129 (um 11),kx 130 (.bini .gtr (ux 129) c0),kx 131 (um 130),ky 132 131 (um 8),ky 133 131 (.bini .lss (ux 132) c0),ky 134 131 (um 133),kz 135 134 (um 11),kz 136 134 (um 8),kz 137 134 (.bini .lss (ux 135) (ux 136)),ky 138 131 (.pick (ux 134) cT (ux 137)),kx 139 (.pick (ux 131) (ux 138) cF)])
 (.cond (ux 139)
 (.regN [1,3,4,5,6,7,9,10,11] [
 kx 140 (um 11),kx 8 (um 140)])
 .skip))))))
 (.regN [1,3,4,5,6,7,8,9,10] [
 kx 56 (um 10),kx 57 (.bini .add (ux 56) c1),kx 10 (um 57)])))
def IM:AC:=(.seq (.seq (.regN [1,3,4,5,6] [
 kx 43 (um 6),kx 44 (.fldA 1 (ux 1)),kx 45 (.ld1 (some 1) (ux 44)),kx 46 (.bini .lss (ux 43) (ux 45))])
 (.cond (ux 46)
 .skip
 (.exit 0)))
 (.seq (.block 1
 (.seq (.regN [1,3,4,5,6] [
 kx 49 (.ldA (some 1) 4 (ux 1)),kx 50 (um 6),kx 51 (.call 26 [(ux 49),(ux 50)]),kx 7 (um 51)])
 (.seq (.regN [1,3,4,5,6,7] [
 kx 8 (.mv (.con (.val (.int .i64 (-1))))),kx 9 (.mv c1)])
 (.seq (.seq (.regN [1,3,4,5,6,7,8,9] [
 kx 10 (.mv c0)])
 (.block 2
 (.loop [1,3,4,5,6,7,8,9,10] IL)))
 (.seq (.regD [1,3,4,5,6,8,9] 0 [
 kx 141 (um 3),kx 142 (um 6),kx 143 (.ixA 1 (ux 141) (ux 142)),kx 144 (.ld1 none (ux 143)),kx 145 (um 8),kx 146 (.bini .neq (ux 144) (ux 145)),kx 147 (um 146),kz 148 147 (um 3),kz 149 147 (um 6),kz 150 147 (.ixA 1 (ux 148) (ux 149)),kz 151 147 (.ld1 none (ux 150)),kz 152 147 (.bini .gtr (ux 151) c0),kz 153 147 (um 5),kz 154 147 (um 6),kz 155 147 (.ixA 1 (ux 153) (ux 154)),kz 156 147 (.ld1 none (ux 155)),kz 157 147 (.eqb true (ux 152) (ux 156)),kx 158 (.pick (ux 147) cT (ux 157)),kx 159 (um 158),kz 160 159 (um 4),kz 161 159 (um 6),kz 162 159 (.ixA 1 (ux 160) (ux 161)),kz 163 159 (.ld1 none (ux 162)),kz 164 159 (um 9),kz 165 159 (.bini .neq (ux 163) (ux 164)),kx 166 (.pick (ux 159) cT (ux 165))])
 (.cond (ux 166)
 (.seq (.regN [] [
 kx 2 (.mv cF)])
 .ret)
 .skip))))))
 (.regN [1,3,4,5,6] [
 kx 47 (um 6),kx 48 (.bini .add (ux 47) c1),kx 6 (um 48)])))
def t7B:AC:=(.seq (.regN [0] [
 kx 1 (.boxR 4 (ux 0)),kx 2 (.mv cF)])
 (.seq (.seq (.regN [1] [
 kx 15 (.call 9 []),kx 16 (.not (ux 15))])
 (.cond (ux 16)
 (.seq (.regN [] [
 kx 2 (.mv cF)])
 .ret)
 .skip))
 (.seq (.seq (.regN [1] [
 kx 17 (.ldA (some 1) 4 (ux 1)),kx 18 (.call 17 [.tmp 17]),kx 19 (.not (ux 18)),kx 20 (um 19),kz 21 20 (.ldA (some 1) 4 (ux 1)),kz 22 20 (.call 24 [.tmp 21]),kz 23 20 (.bini .neq (ux 22) c0),kx 24 (.pick (ux 20) cT (ux 23))])
 (.cond (ux 24)
 (.seq (.regN [] [
 kx 2 (.mv cT)])
 .ret)
 .skip))
 (.seq (.regD [1] 0 [
 kx 25 (.ldA (some 1) 4 (ux 1)),kf 26 (.call 14 [.tmp 25]),kx 27 (.ldA (some 1) 4 (ux 1)),kf 28 (.call 15 [.tmp 27]),kx 29 (.ldA (some 1) 4 (ux 1)),kf 30 (.call 28 [.tmp 29]),kx 3 (um 26),kx 4 (um 28),kx 5 (um 30)])
 (.seq (.seq (.regN [1,3,4,5] [
 kx 31 (um 3),kx 32 (.len false (ux 31)),kx 33 (.fldA 1 (ux 1)),kx 34 (.ld1 (some 1) (ux 33)),kx 35 (.bini .neq (ux 32) (ux 34)),kx 36 (um 35),kz 37 36 (um 4),kz 38 36 (.len false (ux 37)),kz 39 36 (.fldA 1 (ux 1)),kz 40 36 (.ld1 (some 1) (ux 39)),kz 41 36 (.bini .neq (ux 38) (ux 40)),kx 42 (.pick (ux 36) cT (ux 41))])
 (.cond (ux 42)
 (.seq (.regN [] [
 kx 2 (.mv cF)])
 .ret)
 .skip))
 (.seq (.seq (.regN [1,3,4,5] [
 kx 6 (.mv c0)])
 (.block 0
 (.loop [1,3,4,5,6] IM)))
 (.seq (.regN [1] [
 kx 167 (.ldA (some 1) 4 (ux 1)),kx 168 (.call 16 [.tmp 167]),kx 169 (.bini .gtr (ux 168) c0),kx 2 (um 169)])
 .ret)))))))
def t7:AFn:=⟨1,t7B,
 [.tmp 2],true⟩
def t9B:AC:=(.seq (.regN [] [
 kx 0 (.mv cF)])
 (.seq (.regN [] [
 kx 6 (.call 10 []),kx 7 (.call 10 []),kx 8 (.call 12 [.tmp 7]),kx 9 (.call 11 [(ux 6),(ux 8),(.con (.val (.string ⟨#[0,0]⟩)))]),kx 5 (um 9),kx 10 (.ext (ux 5) 0),kx 11 (.ext (ux 5) 1),kx 1 (um 10),kx 2 (um 11)])
 (.seq (.regN [1,2] [
 kx 13 (.call 10 []),kx 14 (.call 10 []),kx 15 (.call 12 [.tmp 14]),kx 16 (.call 19 [(ux 13),(ux 15),(.con (.val (.string ⟨#[0,0]⟩)))]),kx 12 (um 16),kx 17 (.ext (ux 12) 0),kx 18 (.ext (ux 12) 1),kx 3 (um 17),kx 4 (um 18)])
 (.seq (.regN [1,2,3,4] [
 kx 19 (um 2),kx 20 (um 19),ky 21 20 (um 1),ky 22 20 (.buildS 3 [(.val (.int .i64 0)),(.val (.int .i64 0)),(.val (.int .i64 0))] [(0,1,c0),(1,1,c0),(2,1,c1)]),ky 23 20 (.call 13 [(ux 21),(ux 22)]),kx 24 (.pick (ux 20) (ux 23) cF),kx 25 (um 24),ky 26 25 (um 4),kx 27 (.pick (ux 25) (ux 26) cF),kx 28 (um 27),ky 29 28 (um 3),ky 30 28 (.bini .eql (ux 29) (.con (.val (.int .i64 5)))),kx 31 (.pick (ux 28) (ux 30) cF),kx 32 (um 31),ky 33 32 (.call 10 []),ky 34 32 (.call 16 [.tmp 33]),ky 35 32 (.bini .eql (ux 34) (.con (.val (.int .i64 4)))),kx 36 (.pick (ux 32) (ux 35) cF),kx 0 (um 36)])
 .ret))))
def t9:AFn:=⟨0,t9B,
 [.tmp 0],true⟩
def Ks:AC:=(.seq (.regN [] [
 kx 0 (.allocR [(.val (.int .i64 0)),(.val (.int .i64 0)),(.val (.int .i64 0)),.e0])])
 (.seq (.regN [0] [
 kx 1 (.buildS 2 [(.val (.int .i64 0)),(.val (.int .i64 0))] [(0,1,c0),(1,1,c1)]),kx 2 (.build [(.val (.int .i64 0)),.e0] [(0,1,c0),(1,1,(ux 1))]),kx 3 (.build [(.val (.int .i64 0)),.e0] [(0,1,c0)]),kx 4 (.buildS 2 [(.val (.int .i64 0)),.e0,(.val (.int .i64 0)),.e0] [(0,2,(ux 2)),(2,2,(ux 3))]),kx 5 (.build [(.val (.int .i64 0)),(.val (.int .i64 0)),(.val (.int .i64 0)),.e0] [(0,1,c1),(1,1,c1),(2,1,c1),(3,1,(ux 4))]),kn (.st (some 0) 4 (ux 0) (ux 5))])
 .ret))
def t10:AFn:=⟨0,Ks,
 [.cell 0 4 true],true⟩
def Ku:AC:=(.seq (.regN [0] [
 kx 1 (.boxR 4 (ux 0)),kx 2 (.allocR [.e0])])
 (.seq (.regN [1,2] [
 kx 7 (.ldA (some 1) 4 (ux 1)),kx 8 (.call 30 [.tmp 7]),kx 6 (um 8),kx 9 (.ext (ux 6) 0),kx 10 (.ext (ux 6) 1),kx 11 (.ext (ux 6) 2),kx 3 (.allocR [.e0]),kx 4 (.allocR [(.val (.int .i64 0)),(.val (.int .i64 0)),(.val (.int .i64 0)),(.val (.string ⟨#[]⟩))]),kn (.st (some 3) 1 (ux 3) (ux 9)),kn (.st (some 4) 4 (ux 4) (ux 10)),kx 5 (um 11)])
 (.seq (.regN [2,3] [
 kx 12 (.ldA (some 3) 1 (ux 3)),kn (.st (some 2) 1 (ux 2) (ux 12))])
 .ret)))
def t12:AFn:=⟨1,Ku,
 [.cell 2 1 true],true⟩
def Kv:AC:=(.seq (.regN [0] [
 kx 1 (.boxR 4 (ux 0)),kx 2 (.allocR [.e0]),kx 3 (.allocR [(.val (.int .i64 0)),(.val (.int .i64 0)),(.val (.int .i64 0)),(.val (.string ⟨#[]⟩))]),kx 4 (.mv c0)])
 (.seq (.regN [1,2,3] [
 kx 9 (.ldA (some 1) 4 (ux 1)),kx 10 (.call 39 [.tmp 9]),kx 5 (um 10)])
 (.seq (.seq (.regN [1,2,3,5] [
 kx 11 (um 5),kx 12 (.bini .neq (ux 11) c0)])
 (.cond (ux 12)
 (.seq (.regN [2,3,5] [
 kx 13 (.build [.e0] []),kx 14 (.build [(.val (.int .i64 0)),(.val (.int .i64 0)),(.val (.int .i64 0)),(.val (.string ⟨#[]⟩))] []),kx 15 (um 5),kn (.st (some 2) 1 (ux 2) (ux 13)),kn (.st (some 3) 4 (ux 3) (ux 14)),kx 4 (um 15)])
 .ret)
 .skip))
 (.seq (.regN [1,2,3] [
 kx 16 (.ldA (some 1) 4 (ux 1)),kx 17 (.call 46 [.tmp 16]),kx 6 (.allocR [.e0]),kn (.st (some 6) 1 (ux 6) (ux 17))])
 (.seq (.regN [1,2,3,6] [
 kx 19 (.ldA (some 1) 4 (ux 1)),kx 20 (.ldA (some 6) 1 (ux 6)),kx 21 (.call 47 [(ux 19),(ux 20)]),kx 18 (um 21),kx 22 (.ext (ux 18) 0),kx 23 (.ext (ux 18) 1),kx 7 (.allocR [(.val (.int .i64 0)),(.val (.int .i64 0)),(.val (.int .i64 0)),(.val (.string ⟨#[]⟩))]),kn (.st (some 7) 4 (ux 7) (ux 22)),kx 8 (um 23)])
 (.seq (.seq (.regN [2,3,6,7,8] [
 kx 24 (um 8)])
 (.cond (ux 24)
 (.seq (.regD [2,3,7] 0 [
 kx 25 (.build [.e0] []),kx 26 (.ldA (some 7) 4 (ux 7)),kn (.st (some 2) 1 (ux 2) (ux 25)),kn (.st (some 3) 4 (ux 3) (ux 26)),kx 4 (.mv (.con (.val (.int .i64 9))))])
 .ret)
 .skip))
 (.seq (.regN [2,3,6] [
 kx 27 (.ldA (some 6) 1 (ux 6)),kx 28 (.build [(.val (.int .i64 0)),(.val (.int .i64 0)),(.val (.int .i64 0)),(.val (.string ⟨#[]⟩))] []),kn (.st (some 2) 1 (ux 2) (ux 27)),kn (.st (some 3) 4 (ux 3) (ux 28)),kx 4 (.mv c0)])
 .ret)))))))
def t30:AFn:=⟨1,Kv,
 [.cell 2 1 true,.cell 3 4 true,.tmp 4],true⟩
def GD:AC:=(.seq (.seq (.regN [1,3] [
 kx 26 (um 3),kx 27 (.fldA 3 (ux 1)),kx 28 (.ld1 (some 1) (ux 27)),kx 29 (.len false (ux 28)),kx 30 (.bini .lss (ux 26) (ux 29))])
 (.cond (ux 30)
 .skip
 (.exit 0)))
 (.seq (.block 1
 (.seq (.regN [1,3] [
 kx 33 (.fldA 3 (ux 1)),kx 34 (.ld1 (some 1) (ux 33)),kx 35 (um 3),kx 36 (.ixA 2 (ux 34) (ux 35)),kx 37 (.fldA 1 (ux 36)),kx 38 (.ld1 none (ux 37)),kx 39 (.len false (ux 38)),kx 40 (.bini .gtr (ux 39) (.con (.val (.int .i64 8))))])
 (.cond (ux 40)
 (.seq (.regN [] [
 kx 2 (.mv (.con (.val (.int .i64 3))))])
 .ret)
 .skip)))
 (.regN [1,3] [
 kx 31 (um 3),kx 32 (.bini .add (ux 31) c1),kx 3 (um 32)])))
def GF:AC:=(.seq (.seq (.regN [1,4,5,6] [
 kx 82 (um 6),kx 83 (.fldA 1 (ux 5)),kx 84 (.ld1 (some 5) (ux 83)),kx 85 (.len false (ux 84)),kx 86 (.bini .lss (ux 82) (ux 85))])
 (.cond (ux 86)
 .skip
 (.exit 4)))
 (.seq (.block 5
 (.seq (.regD [1,4,5,6] 0 [
 kx 89 (.fldA 1 (ux 5)),kx 90 (.ld1 (some 5) (ux 89)),kx 91 (um 6),kx 92 (.ixA 1 (ux 90) (ux 91)),kx 93 (.ld1 none (ux 92)),kx 94 (.bini .lss (ux 93) c0),kx 95 (um 94),kz 96 95 (.fldA 1 (ux 5)),kz 97 95 (.ld1 (some 5) (ux 96)),kz 98 95 (um 6),kz 99 95 (.ixA 1 (ux 97) (ux 98)),kz 100 95 (.ld1 none (ux 99)),kz 101 95 (.fldA 0 (ux 1)),kz 102 95 (.ld1 (some 1) (ux 101)),kz 103 95 (.fldA 1 (ux 1)),kz 104 95 (.ld1 (some 1) (ux 103)),kz 105 95 (.bini .add (ux 102) (ux 104)),kz 106 95 (.bini .geq (ux 100) (ux 105)),kx 107 (.pick (ux 95) cT (ux 106))])
 (.cond (ux 107)
 (.seq (.regN [] [
 kx 2 (.mv (.con (.val (.int .i64 2))))])
 .ret)
 .skip)))
 (.regN [1,4,5,6] [
 kx 87 (um 6),kx 88 (.bini .add (ux 87) c1),kx 6 (um 88)])))
def GG:AC:=(.seq (.seq (.regN [1,4] [
 kx 60 (um 4),kx 61 (.fldA 3 (ux 1)),kx 62 (.ld1 (some 1) (ux 61)),kx 63 (.len false (ux 62)),kx 64 (.bini .lss (ux 60) (ux 63))])
 (.cond (ux 64)
 .skip
 (.exit 2)))
 (.seq (.block 3
 (.seq (.regN [1,4] [
 kx 67 (.fldA 3 (ux 1)),kx 68 (.ld1 (some 1) (ux 67)),kx 69 (um 4),kx 70 (.ixA 2 (ux 68) (ux 69)),kx 71 (.ldA none 2 (ux 70)),kx 5 (.allocR [(.val (.int .i64 0)),.e0]),kn (.st (some 5) 2 (ux 5) (ux 71))])
 (.seq (.seq (.regN [1,4,5] [
 kx 72 (.fldA 0 (ux 5)),kx 73 (.ld1 (some 5) (ux 72)),kx 74 (.bini .lss (ux 73) c0),kx 75 (um 74),kz 76 75 (.fldA 0 (ux 5)),kz 77 75 (.ld1 (some 5) (ux 76)),kz 78 75 (.fldA 1 (ux 1)),kz 79 75 (.ld1 (some 1) (ux 78)),kz 80 75 (.bini .geq (ux 77) (ux 79)),kx 81 (.pick (ux 75) cT (ux 80))])
 (.cond (ux 81)
 (.seq (.regN [] [
 kx 2 (.mv (.con (.val (.int .i64 2))))])
 .ret)
 .skip))
 (.seq (.regN [1,4,5] [
 kx 6 (.mv c0)])
 (.block 4
 (.loop [1,4,5,6] GF))))))
 (.regN [1,4] [
 kx 65 (um 4),kx 66 (.bini .add (ux 65) c1),kx 4 (um 66)])))
def Kw:AC:=(.seq (.regN [0] [
 kx 1 (.boxR 4 (ux 0)),kx 2 (.mv c0)])
 (.seq (.seq (.regN [1] [
 kx 7 (.fldA 0 (ux 1)),kx 8 (.ld1 (some 1) (ux 7)),kx 9 (.bini .gtr (ux 8) (.con (.val (.int .i64 8)))),kx 10 (um 9),kz 11 10 (.fldA 1 (ux 1)),kz 12 10 (.ld1 (some 1) (ux 11)),kz 13 10 (.bini .gtr (ux 12) (.con (.val (.int .i64 16)))),kx 14 (.pick (ux 10) cT (ux 13)),kx 15 (um 14),kz 16 15 (.fldA 2 (ux 1)),kz 17 15 (.ld1 (some 1) (ux 16)),kz 18 15 (.bini .gtr (ux 17) (.con (.val (.int .i64 3)))),kx 19 (.pick (ux 15) cT (ux 18)),kx 20 (um 19),kz 21 20 (.fldA 3 (ux 1)),kz 22 20 (.ld1 (some 1) (ux 21)),kz 23 20 (.len false (ux 22)),kz 24 20 (.bini .gtr (ux 23) (.con (.val (.int .i64 64)))),kx 25 (.pick (ux 20) cT (ux 24))])
 (.cond (ux 25)
 (.seq (.regN [] [
 kx 2 (.mv (.con (.val (.int .i64 3))))])
 .ret)
 .skip))
 (.seq (.seq (.regN [1] [
 kx 3 (.mv c0)])
 (.block 0
 (.loop [1,3] GD)))
 (.seq (.seq (.regN [1] [
 kx 41 (.fldA 0 (ux 1)),kx 42 (.ld1 (some 1) (ux 41)),kx 43 (.bini .lss (ux 42) c1),kx 44 (um 43),kz 45 44 (.fldA 1 (ux 1)),kz 46 44 (.ld1 (some 1) (ux 45)),kz 47 44 (.bini .lss (ux 46) c1),kx 48 (.pick (ux 44) cT (ux 47)),kx 49 (um 48),kz 50 49 (.fldA 2 (ux 1)),kz 51 49 (.ld1 (some 1) (ux 50)),kz 52 49 (.bini .lss (ux 51) c1),kx 53 (.pick (ux 49) cT (ux 52)),kx 54 (um 53),kz 55 54 (.fldA 3 (ux 1)),kz 56 54 (.ld1 (some 1) (ux 55)),kz 57 54 (.len false (ux 56)),kz 58 54 (.bini .lss (ux 57) c1),kx 59 (.pick (ux 54) cT (ux 58))])
 (.cond (ux 59)
 (.seq (.regN [] [
 kx 2 (.mv (.con (.val (.int .i64 2))))])
 .ret)
 .skip))
 (.seq (.seq (.regN [1] [
 kx 4 (.mv c0)])
 (.block 2
 (.loop [1,4] GG)))
 (.seq (.regN [] [
 kx 2 (.mv c0)])
 .ret))))))
def t39:AFn:=⟨1,Kw,
 [.tmp 2],true⟩
def GH:AC:=(.seq (.seq (.regN [1,2,3,4,5,6] [
 kx 13 (um 6),kx 14 (.fldA 3 (ux 1)),kx 15 (.ld1 (some 1) (ux 14)),kx 16 (.len false (ux 15)),kx 17 (.bini .lss (ux 13) (ux 16))])
 (.cond (ux 17)
 .skip
 (.exit 0)))
 (.seq (.block 1
 (.seq (.regN [1,2,3,4,5,6] [
 kx 20 (.fldA 3 (ux 1)),kx 21 (.ld1 (some 1) (ux 20)),kx 22 (um 6),kx 23 (.ixA 2 (ux 21) (ux 22)),kx 24 (.ldA none 2 (ux 23)),kx 7 (.allocR [(.val (.int .i64 0)),.e0]),kn (.st (some 7) 2 (ux 7) (ux 24))])
 (.regD [1,2,3,4,5,6,7] 0 [
 kx 25 (.fldA 0 (ux 5)),kx 26 (.ld1 (some 5) (ux 25)),kx 27 (.fldA 2 (ux 1)),kx 28 (.ld1 (some 1) (ux 27)),kx 29 (.ldA (some 1) 4 (ux 1)),kx 30 (um 3),kx 31 (.fldA 1 (ux 7)),kx 32 (.ld1 (some 7) (ux 31)),kx 33 (.call 68 [(ux 29),(ux 30),(ux 32)]),kx 34 (um 4),kx 35 (.fldA 0 (ux 7)),kx 36 (.ld1 (some 7) (ux 35)),kx 37 (.ixA 1 (ux 34) (ux 36)),kx 38 (.ld1 none (ux 37)),kf 39 (.call 67 [(ux 28),(ux 33),(ux 38)]),kx 40 (.buildS 1 [.e0] [(0,1,(ux 39))]),kx 41 (.app 1 24 (ux 26) (ux 40)),kx 42 (.fldA 0 (ux 5)),kn (.st (some 5) 1 (ux 42) (ux 41))])))
 (.regN [1,2,3,4,5,6] [
 kx 18 (um 6),kx 19 (.bini .add (ux 18) c1),kx 6 (um 19)])))
def Kx:AC:=(.seq (.regN [0] [
 kx 1 (.boxR 4 (ux 0)),kx 2 (.allocR [.e0])])
 (.seq (.regD [1,2] 0 [
 kx 8 (.ldA (some 1) 4 (ux 1)),kf 9 (.call 65 [.tmp 8]),kx 10 (.ldA (some 1) 4 (ux 1)),kf 11 (.call 66 [.tmp 10]),kx 3 (um 9),kx 4 (um 11)])
 (.seq (.regN [1,2,3,4] [
 kx 12 (.build [.e0] []),kx 5 (.allocR [.e0]),kn (.st (some 5) 1 (ux 5) (ux 12))])
 (.seq (.seq (.regN [1,2,3,4,5] [
 kx 6 (.mv c0)])
 (.block 0
 (.loop [1,2,3,4,5,6] GH)))
 (.seq (.regN [2,5] [
 kx 43 (.ldA (some 5) 1 (ux 5)),kn (.st (some 2) 1 (ux 2) (ux 43))])
 .ret)))))
def t46:AFn:=⟨1,Kx,
 [.cell 2 1 true],true⟩
def GI:AC:=(.seq (.seq (.regN [1,3,4,5] [
 kx 15 (um 5),kx 16 (.fldA 3 (ux 1)),kx 17 (.ld1 (some 1) (ux 16)),kx 18 (.len false (ux 17)),kx 19 (.bini .lss (ux 15) (ux 18))])
 (.cond (ux 19)
 .skip
 (.exit 2)))
 (.seq (.block 3
 (.seq (.regN [1,3,4,5] [
 kx 22 (.fldA 3 (ux 1)),kx 23 (.ld1 (some 1) (ux 22)),kx 24 (um 5),kx 25 (.ixA 2 (ux 23) (ux 24)),kx 26 (.ldA none 2 (ux 25)),kx 6 (.allocR [(.val (.int .i64 0)),.e0]),kn (.st (some 6) 2 (ux 6) (ux 26))])
 (.seq (.regD [1,3,4,5,6] 0 [
 kx 27 (um 3),kx 28 (.fldA 0 (ux 6)),kx 29 (.ld1 (some 6) (ux 28)),kx 30 (.ixA 1 (ux 27) (ux 29)),kx 31 (.ld1 none (ux 30)),kx 32 (.ldA (some 1) 4 (ux 1)),kx 33 (um 3),kx 34 (.fldA 1 (ux 6)),kx 35 (.ld1 (some 6) (ux 34)),kx 36 (.call 92 [(ux 32),(ux 33),(ux 35)]),kf 37 (.call 91 [(ux 31),(ux 36)]),kx 7 (um 37)])
 (.seq (.regN [1,3,4,5,6,7] [
 kx 38 (um 4),kx 39 (um 38),kz 40 39 (um 7),kz 41 39 (.len false (ux 40)),kz 42 39 (um 3),kz 43 39 (.fldA 0 (ux 6)),kz 44 39 (.ld1 (some 6) (ux 43)),kz 45 39 (.ixA 1 (ux 42) (ux 44)),kz 46 39 (.ld1 none (ux 45)),kz 47 39 (.len false (ux 46)),kz 48 39 (.bini .gtr (ux 41) (ux 47)),kx 49 (.pick (ux 39) cT (ux 48)),kx 4 (um 49)])
 (.regN [1,3,4,5,6,7] [
 kx 50 (um 3),kx 51 (.fldA 0 (ux 6)),kx 52 (.ld1 (some 6) (ux 51)),kx 53 (um 7),kx 54 (.ixA 1 (ux 50) (ux 52)),kn (.st none 1 (ux 54) (ux 53))])))))
 (.regN [1,3,4,5] [
 kx 20 (um 5),kx 21 (.bini .add (ux 20) c1),kx 5 (um 21)])))
def GJ:AC:=(.seq (.seq (.regN [1,3,4] [
 kx 14 (um 4)])
 (.cond (ux 14)
 .skip
 (.exit 0)))
 (.block 1
 (.seq (.regN [1,3] [
 kx 4 (.mv cF)])
 (.seq (.regN [1,3,4] [
 kx 5 (.mv c0)])
 (.block 2
 (.loop [1,3,4,5] GI))))))
def Ky:AC:=(.seq (.regN [0] [
 kx 1 (.boxR 4 (ux 0)),kx 2 (.mv (.con .e0))])
 (.seq (.seq (.regN [1] [
 kx 8 (.ldA (some 1) 4 (ux 1)),kx 9 (.call 39 [.tmp 8]),kx 10 (.bini .neq (ux 9) c0)])
 (.cond (ux 10)
 (.seq (.regN [] [
 kx 2 (.mv (.con .e0))])
 .ret)
 .skip))
 (.seq (.regN [1] [
 kx 11 (.fldA 1 (ux 1)),kx 12 (.ld1 (some 1) (ux 11)),kx 13 (.mks 1 24 [.e0] (ux 12)),kx 3 (um 13)])
 (.seq (.seq (.regN [1,3] [
 kx 4 (.mv cT)])
 (.block 0
 (.loop [1,3,4] GJ)))
 (.seq (.regN [3] [
 kx 55 (um 3),kx 2 (um 55)])
 .ret)))))
def t65:AFn:=⟨1,Ky,
 [.tmp 2],true⟩
def BS:AC:=(.seq (.seq (.regN [1,2,3,7,8] [
 kx 10 (um 8),kx 11 (um 2),kx 12 (.len false (ux 11)),kx 13 (.bini .lss (ux 10) (ux 12))])
 (.cond (ux 13)
 .skip
 (.exit 0)))
 (.seq (.block 1
 (.seq (.regD [1,2,3,7,8] 0 [
 kx 16 (um 2),kx 17 (um 8),kx 18 (.ixA 1 (ux 16) (ux 17)),kx 19 (.ld1 none (ux 18)),kx 20 (.fldA 0 (ux 3)),kx 21 (.ld1 (some 3) (ux 20)),kx 22 (.bini .lss (ux 19) (ux 21))])
 (.cond (ux 22)
 (.regD [1,2,3,7,8] 0 [
 kx 23 (.fldA 2 (ux 3)),kx 24 (.ld1 (some 3) (ux 23)),kx 25 (um 7),kx 26 (um 2),kx 27 (um 8),kx 28 (.ixA 1 (ux 26) (ux 27)),kx 29 (.ld1 none (ux 28)),kx 30 (.cvi .u8 (ux 29)),kx 31 (.buildS 1 [(.val (.int .u8 0))] [(0,1,(ux 30))]),kx 32 (.b2s (ux 31)),kx 33 (.buildS 1 [(.val (.string ⟨#[]⟩))] [(0,1,(ux 32))]),kf 34 (.call 67 [(ux 24),(ux 25),(ux 33)]),kx 7 (um 34)])
 (.regD [1,2,3,7,8] 0 [
 kx 35 (.fldA 2 (ux 3)),kx 36 (.ld1 (some 3) (ux 35)),kx 37 (um 7),kx 38 (um 1),kx 39 (um 2),kx 40 (um 8),kx 41 (.ixA 1 (ux 39) (ux 40)),kx 42 (.ld1 none (ux 41)),kx 43 (.fldA 0 (ux 3)),kx 44 (.ld1 (some 3) (ux 43)),kx 45 (.bini .sub (ux 42) (ux 44)),kx 46 (.ixA 1 (ux 38) (ux 45)),kx 47 (.ld1 none (ux 46)),kf 48 (.call 67 [(ux 36),(ux 37),(ux 47)]),kx 7 (um 48)]))))
 (.regN [1,2,3,7,8] [
 kx 14 (um 8),kx 15 (.bini .add (ux 14) c1),kx 8 (um 15)])))
def IP:AC:=(.seq (.regN [0,1,2] [
 kx 3 (.boxR 4 (ux 0)),kx 6 (.mv (.con .e0))])
 (.seq (.regN [1,2,3] [
 kx 9 (.buildS 1 [(.val (.string ⟨#[]⟩))] [(0,1,(.con (.val (.string ⟨#[]⟩))))]),kx 7 (um 9)])
 (.seq (.seq (.regN [1,2,3,7] [
 kx 8 (.mv c0)])
 (.block 0
 (.loop [1,2,3,7,8] BS)))
 (.seq (.regN [7] [
 kx 49 (um 7),kx 6 (um 49)])
 .ret))))
def t92:AFn:=⟨3,IP,
 [.tmp 6],true⟩
def ua:AC:=(.seq (.seq (.regN [0,1,2,7,8,9,10,11] [
 kx 64 (um 11),kx 65 (um 2),kx 66 (.len false (ux 65)),kx 67 (.bini .lss (ux 64) (ux 66)),kx 68 (um 67),ky 69 68 (um 10),ky 70 68 (.not (ux 69)),kx 71 (.pick (ux 68) (ux 70) cF)])
 (.cond (ux 71)
 .skip
 (.exit 2)))
 (.seq (.block 3
 (.regD [0,1,2,7,8,9,10,11] 0 [
 kx 74 (um 8),kx 75 (um 7),kx 76 (um 0),kx 77 (um 1),kx 78 (um 9),kx 79 (.ixA 1 (ux 77) (ux 78)),kx 80 (.ld1 none (ux 79)),kx 81 (um 2),kx 82 (um 11),kx 83 (.ixA 1 (ux 81) (ux 82)),kx 84 (.ld1 none (ux 83)),kf 85 (.call 94 [(ux 76),(ux 80),(ux 84)]),kf 86 (.call 93 [(ux 74),(ux 75),(ux 85)]),kx 8 (um 86)]))
 (.regN [0,1,2,7,8,9,10,11] [
 kx 72 (um 11),kx 73 (.bini .add (ux 72) c1),kx 11 (um 73)])))
def kN:AC:=(.seq (.seq (.regN [0,1,2,7,8,9] [
 kx 15 (um 9),kx 16 (um 1),kx 17 (.len false (ux 16)),kx 18 (.bini .lss (ux 15) (ux 17)),kx 19 (um 18),ky 20 19 (um 2),ky 21 19 (.len false (ux 20)),ky 22 19 (.bini .gtr (ux 21) c0),kx 23 (.pick (ux 19) (ux 22) cF)])
 (.cond (ux 23)
 .skip
 (.exit 0)))
 (.seq (.block 1
 (.seq (.regD [0,1,2,7,8,9] 0 [
 kx 26 (um 1),kx 27 (um 9),kx 28 (.ixA 1 (ux 26) (ux 27)),kx 29 (.ld1 none (ux 28)),kx 30 (.len true (ux 29)),kx 31 (um 0),kx 32 (.bini .geq (ux 30) (ux 31)),kx 33 (um 32),kz 34 33 (um 1),kz 35 33 (um 9),kz 36 33 (.ixA 1 (ux 34) (ux 35)),kz 37 33 (.ld1 none (ux 36)),kz 38 33 (.bins .neq (ux 37) (.con (.val (.string ⟨#[]⟩)))),kz 39 33 (um 38),ky 40 39 (um 1),ky 41 39 (um 9),ky 42 39 (.ixA 1 (ux 40) (ux 41)),ky 43 39 (.ld1 none (ux 42)),ky 44 39 (um 1),ky 45 39 (um 9),ky 46 39 (.ixA 1 (ux 44) (ux 45)),ky 47 39 (.ld1 none (ux 46)),ky 48 39 (.len true (ux 47)),ky 49 39 (.bini .sub (ux 48) c1),ky 50 39 (.ixS (ux 43) (ux 49)),ky 51 39 (.bini .eql (ux 50) (.con (.val (.int .u8 255)))),kz 52 33 (.pick (ux 39) (ux 51) cF),kx 53 (.pick (ux 33) cT (ux 52)),kx 10 (um 53)])
 (.seq (.seq (.regN [0,1,2,7,8,9,10] [
 kx 54 (um 10)])
 (.cond (ux 54)
 (.regN [0,1,2,7,8,9,10] [
 kx 55 (um 8),kx 56 (um 7),kx 57 (um 0),kx 58 (um 1),kx 59 (um 9),kx 60 (.ixA 1 (ux 58) (ux 59)),kx 61 (.ld1 none (ux 60)),kx 62 (.call 94 [(ux 57),(ux 61),(.con (.val (.string ⟨#[]⟩)))]),kx 63 (.call 93 [(ux 55),(ux 56),(ux 62)]),kx 8 (um 63)])
 .skip))
 (.seq (.regN [0,1,2,7,8,9,10] [
 kx 11 (.mv c0)])
 (.block 2
 (.loop [0,1,2,7,8,9,10,11] ua))))))
 (.regN [0,1,2,7,8,9] [
 kx 24 (um 9),kx 25 (.bini .add (ux 24) c1),kx 9 (um 25)])))
def IQ:AC:=(.seq (.regN [0,1,2] [
 kx 6 (.mv (.con .e0))])
 (.seq (.regN [0,1,2] [
 kx 12 (um 0),kx 13 (.mm true [c0,(ux 12)]),kx 0 (um 13)])
 (.seq (.regN [0,1,2] [
 kx 14 (.mkm),kx 7 (um 14)])
 (.seq (.regN [0,1,2,7] [
 kx 8 (.mv (.con .e0))])
 (.seq (.seq (.regN [0,1,2,7,8] [
 kx 9 (.mv c0)])
 (.block 0
 (.loop [0,1,2,7,8,9] kN)))
 (.seq .frz
 (.seq (.regN [8] [
 kx 87 (um 8),kx 88 (.call 95 [.tmp 87]),kx 6 (um 88)])
 .ret)))))))
def t67:AFn:=⟨3,IQ,
 [.tmp 6],true⟩
def Kz:AC:=(.seq (.regN [0,1,2] [
 kx 6 (.mv (.con (.val (.string ⟨#[]⟩))))])
 (.seq (.seq (.regN [0,1,2] [
 kx 7 (um 1),kx 8 (.len true (ux 7)),kx 9 (um 0),kx 10 (.bini .lss (ux 8) (ux 9)),kx 11 (um 10),ky 12 11 (um 1),ky 13 11 (.bins .eql (ux 12) (.con (.val (.string ⟨#[]⟩)))),ky 14 11 (um 13),kz 15 14 (um 1),kz 16 14 (um 1),kz 17 14 (.len true (ux 16)),kz 18 14 (.bini .sub (ux 17) c1),kz 19 14 (.ixS (ux 15) (ux 18)),kz 20 14 (.bini .neq (ux 19) (.con (.val (.int .u8 255)))),ky 21 11 (.pick (ux 14) cT (ux 20)),kx 22 (.pick (ux 11) (ux 21) cF)])
 (.cond (ux 22)
 (.regN [0,1,2] [
 kx 23 (um 1),kx 24 (um 2),kx 25 (.bins .add (ux 23) (ux 24)),kx 1 (um 25)])
 .skip))
 (.seq (.seq (.regN [0,1] [
 kx 26 (um 1),kx 27 (.len true (ux 26)),kx 28 (um 0),kx 29 (.bini .gtr (ux 27) (ux 28))])
 (.cond (ux 29)
 (.regN [0,1] [
 kx 30 (um 1),kx 31 (um 0),kx 32 (.slS (ux 30) none (some (ux 31))),kx 1 (um 32)])
 .skip))
 (.seq (.regN [1] [
 kx 33 (um 1),kx 6 (um 33)])
 .ret))))
def t94:AFn:=⟨3,Kz,
 [.tmp 6],true⟩
def FD:AC:=(.seq (.regN [0,1,2] [
 kx 6 (.mv (.con .e0))])
 (.seq (.seq (.regN [0,1,2] [
 kx 7 (um 1),kx 8 (um 2),kx 9 (.mlk false [2] (.val (.bool false)) false (ux 7) (ux 8))])
 (.cond (ux 9)
 (.seq (.regN [0] [
 kx 10 (um 0),kx 6 (um 10)])
 .ret)
 .skip))
 (.seq (.regN [0,1,2] [
 kx 11 (um 1),kx 12 (um 2),kn (.mup false [2] (ux 11) (ux 12) cT)])
 (.seq (.regN [0,2] [
 kx 13 (um 0),kx 14 (um 2),kx 15 (.buildS 1 [(.val (.string ⟨#[]⟩))] [(0,1,(ux 14))]),kx 16 (.app 1 16 (ux 13) (ux 15)),kx 6 (um 16)])
 .ret))))
def t93:AFn:=⟨3,FD,
 [.tmp 6],false⟩
def ub:AC:=(.seq (.seq (.regN [3,4,5] [
 kx 22 (um 3),kx 23 (.len false (ux 22)),kx 24 (.bini .gtr (ux 23) c0),kx 25 (um 24),ky 26 25 (um 4),ky 27 25 (.len false (ux 26)),ky 28 25 (.bini .gtr (ux 27) c0),kx 29 (.pick (ux 25) (ux 28) cF)])
 (.cond (ux 29)
 .skip
 (.exit 0)))
 (.block 1
 (.seq (.regD [3,4,5] 0 [
 kx 30 (um 3),kx 31 (.ixA 1 (ux 30) c0),kx 32 (.ld1 none (ux 31)),kx 33 (um 4),kx 34 (.ixA 1 (ux 33) c0),kx 35 (.ld1 none (ux 34)),kx 36 (.bins .leq (ux 32) (ux 35))])
 (.cond (ux 36)
 (.regD [3,4,5] 0 [
 kx 37 (um 5),kx 38 (um 3),kx 39 (.ixA 1 (ux 38) c0),kx 40 (.ld1 none (ux 39)),kx 41 (.buildS 1 [(.val (.string ⟨#[]⟩))] [(0,1,(ux 40))]),kx 42 (.app 1 16 (ux 37) (ux 41)),kx 43 (um 3),kx 44 (.slC 1 (ux 43) (some c1) none),kx 5 (um 42),kx 3 (um 44)])
 (.regD [3,4,5] 0 [
 kx 45 (um 5),kx 46 (um 4),kx 47 (.ixA 1 (ux 46) c0),kx 48 (.ld1 none (ux 47)),kx 49 (.buildS 1 [(.val (.string ⟨#[]⟩))] [(0,1,(ux 48))]),kx 50 (.app 1 16 (ux 45) (ux 49)),kx 51 (um 4),kx 52 (.slC 1 (ux 51) (some c1) none),kx 5 (um 50),kx 4 (um 52)])))))
def BT:AC:=(.seq (.regN [0] [
 kx 2 (.mv (.con .e0))])
 (.seq (.seq (.regN [0] [
 kx 6 (um 0),kx 7 (.len false (ux 6)),kx 8 (.bini .lss (ux 7) (.con (.val (.int .i64 2))))])
 (.cond (ux 8)
 (.seq (.regN [0] [
 kx 9 (um 0),kx 2 (um 9)])
 .ret)
 .skip))
 (.seq (.regD [0] 0 [
 kx 10 (um 0),kx 11 (um 0),kx 12 (.len false (ux 11)),kx 13 (.bini .quo (ux 12) (.con (.val (.int .i64 2)))),kx 14 (.slC 1 (ux 10) none (some (ux 13))),kf 15 (.call 95 [.tmp 14]),kx 16 (um 0),kx 17 (um 0),kx 18 (.len false (ux 17)),kx 19 (.bini .quo (ux 18) (.con (.val (.int .i64 2)))),kx 20 (.slC 1 (ux 16) (some (ux 19)) none),kf 21 (.call 95 [.tmp 20]),kx 3 (um 15),kx 4 (um 21)])
 (.seq (.regN [3,4] [
 kx 5 (.mv (.con .e0))])
 (.seq (.block 0
 (.loop [3,4,5] ub))
 (.seq (.regN [3,4,5] [
 kx 53 (um 5),kx 54 (um 3),kx 55 (.app 1 16 (ux 53) (ux 54)),kx 56 (um 4),kx 57 (.app 1 16 (ux 55) (ux 56)),kx 2 (um 57)])
 .ret))))))
def t95:AFn:=⟨1,BT,
 [.tmp 2],true⟩
def uc:AC:=(.seq (.seq (.regN [0,1,5,6,7] [
 kx 10 (um 7),kx 11 (um 0),kx 12 (.len false (ux 11)),kx 13 (.bini .lss (ux 10) (ux 12))])
 (.cond (ux 13)
 .skip
 (.exit 0)))
 (.seq (.block 1
 (.regN [0,1,5,6,7] [
 kx 16 (um 6),kx 17 (um 5),kx 18 (um 0),kx 19 (um 7),kx 20 (.ixA 1 (ux 18) (ux 19)),kx 21 (.ld1 none (ux 20)),kx 22 (.call 93 [(ux 16),(ux 17),(ux 21)]),kx 6 (um 22)]))
 (.regN [0,1,5,6,7] [
 kx 14 (um 7),kx 15 (.bini .add (ux 14) c1),kx 7 (um 15)])))
def ud:AC:=(.seq (.seq (.regN [1,5,6,8] [
 kx 23 (um 8),kx 24 (um 1),kx 25 (.len false (ux 24)),kx 26 (.bini .lss (ux 23) (ux 25))])
 (.cond (ux 26)
 .skip
 (.exit 2)))
 (.seq (.block 3
 (.regN [1,5,6,8] [
 kx 29 (um 6),kx 30 (um 5),kx 31 (um 1),kx 32 (um 8),kx 33 (.ixA 1 (ux 31) (ux 32)),kx 34 (.ld1 none (ux 33)),kx 35 (.call 93 [(ux 29),(ux 30),(ux 34)]),kx 6 (um 35)]))
 (.regN [1,5,6,8] [
 kx 27 (um 8),kx 28 (.bini .add (ux 27) c1),kx 8 (um 28)])))
def IR:AC:=(.seq (.regN [0,1] [
 kx 4 (.mv (.con .e0))])
 (.seq (.regN [0,1] [
 kx 9 (.mkm),kx 5 (um 9)])
 (.seq (.regN [0,1,5] [
 kx 6 (.mv (.con .e0))])
 (.seq (.seq (.regN [0,1,5,6] [
 kx 7 (.mv c0)])
 (.block 0
 (.loop [0,1,5,6,7] uc)))
 (.seq (.seq (.regN [1,5,6] [
 kx 8 (.mv c0)])
 (.block 2
 (.loop [1,5,6,8] ud)))
 (.seq .frz
 (.seq (.regN [6] [
 kx 36 (um 6),kx 37 (.call 95 [.tmp 36]),kx 4 (um 37)])
 .ret)))))))
def t91:AFn:=⟨2,IR,
 [.tmp 4],true⟩
def xK:AC:=(.seq (.seq (.regN [1,3,4,5,6,7,8] [
 kx 38 (um 8),kx 39 (.fldA 1 (ux 7)),kx 40 (.ld1 (some 7) (ux 39)),kx 41 (.len false (ux 40)),kx 42 (.bini .lss (ux 38) (ux 41))])
 (.cond (ux 42)
 .skip
 (.exit 4)))
 (.seq (.block 5
 (.seq (.regD [1,3,4,5,6,7,8] 0 [
 kx 45 (.fldA 1 (ux 7)),kx 46 (.ld1 (some 7) (ux 45)),kx 47 (um 8),kx 48 (.ixA 1 (ux 46) (ux 47)),kx 49 (.ld1 none (ux 48)),kx 50 (.fldA 0 (ux 1)),kx 51 (.ld1 (some 1) (ux 50)),kx 52 (.bini .sub (ux 49) (ux 51)),kx 9 (um 52)])
 (.seq (.seq (.regN [1,3,4,5,6,7,8,9] [
 kx 53 (um 9),kx 54 (.bini .lss (ux 53) c0)])
 (.cond (ux 54)
 (.exit 5)
 .skip))
 (.seq (.regD [1,3,4,5,6,7,8,9] 0 [
 kx 55 (.ldA (some 1) 4 (ux 1)),kx 56 (um 3),kx 57 (.fldA 1 (ux 7)),kx 58 (.ld1 (some 7) (ux 57)),kx 59 (um 8),kx 60 (.bini .add (ux 59) c1),kx 61 (.slC 1 (ux 58) (some (ux 60)) none),kf 62 (.call 68 [(ux 55),(ux 56),(ux 61)]),kx 10 (um 62)])
 (.seq (.regD [1,3,4,5,6,7,8,9,10] 0 [
 kx 63 (um 4),kx 64 (um 9),kx 65 (.ixA 1 (ux 63) (ux 64)),kx 66 (.ld1 none (ux 65)),kx 67 (.fldA 2 (ux 1)),kx 68 (.ld1 (some 1) (ux 67)),kx 69 (um 10),kx 70 (um 4),kx 71 (.fldA 0 (ux 7)),kx 72 (.ld1 (some 7) (ux 71)),kx 73 (.ixA 1 (ux 70) (ux 72)),kx 74 (.ld1 none (ux 73)),kx 75 (.call 67 [(ux 68),(ux 69),(ux 74)]),kf 76 (.call 91 [(ux 66),(ux 75)]),kx 11 (um 76)])
 (.seq (.regN [1,3,4,5,6,7,8,9,11] [
 kx 77 (um 5),kx 78 (um 77),kz 79 78 (um 11),kz 80 78 (.len false (ux 79)),kz 81 78 (um 4),kz 82 78 (um 9),kz 83 78 (.ixA 1 (ux 81) (ux 82)),kz 84 78 (.ld1 none (ux 83)),kz 85 78 (.len false (ux 84)),kz 86 78 (.bini .gtr (ux 80) (ux 85)),kx 87 (.pick (ux 78) cT (ux 86)),kx 5 (um 87)])
 (.regN [1,3,4,5,6,7,8,9,11] [
 kx 88 (um 4),kx 89 (um 9),kx 90 (um 11),kx 91 (.ixA 1 (ux 88) (ux 89)),kn (.st none 1 (ux 91) (ux 90))])))))))
 (.regN [1,3,4,5,6,7,8] [
 kx 43 (um 8),kx 44 (.bini .add (ux 43) c1),kx 8 (um 44)])))
def GK:AC:=(.seq (.seq (.regN [1,3,4,5,6] [
 kx 26 (um 6),kx 27 (.fldA 3 (ux 1)),kx 28 (.ld1 (some 1) (ux 27)),kx 29 (.len false (ux 28)),kx 30 (.bini .lss (ux 26) (ux 29))])
 (.cond (ux 30)
 .skip
 (.exit 2)))
 (.seq (.block 3
 (.seq (.regN [1,3,4,5,6] [
 kx 33 (.fldA 3 (ux 1)),kx 34 (.ld1 (some 1) (ux 33)),kx 35 (um 6),kx 36 (.ixA 2 (ux 34) (ux 35)),kx 37 (.ldA none 2 (ux 36)),kx 7 (.allocR [(.val (.int .i64 0)),.e0]),kn (.st (some 7) 2 (ux 7) (ux 37))])
 (.seq (.regN [1,3,4,5,6,7] [
 kx 8 (.mv c0)])
 (.block 4
 (.loop [1,3,4,5,6,7,8] xK)))))
 (.regN [1,3,4,5,6] [
 kx 31 (um 6),kx 32 (.bini .add (ux 31) c1),kx 6 (um 32)])))
def GL:AC:=(.seq (.seq (.regN [1,3,4,5] [
 kx 25 (um 5)])
 (.cond (ux 25)
 .skip
 (.exit 0)))
 (.block 1
 (.seq (.regN [1,3,4] [
 kx 5 (.mv cF)])
 (.seq (.regN [1,3,4,5] [
 kx 6 (.mv c0)])
 (.block 2
 (.loop [1,3,4,5,6] GK))))))
def KA:AC:=(.seq (.regN [0] [
 kx 1 (.boxR 4 (ux 0)),kx 2 (.mv (.con .e0))])
 (.seq (.seq (.regN [1] [
 kx 12 (.ldA (some 1) 4 (ux 1)),kx 13 (.call 39 [.tmp 12]),kx 14 (.bini .neq (ux 13) c0)])
 (.cond (ux 14)
 (.seq (.regN [] [
 kx 2 (.mv (.con .e0))])
 .ret)
 .skip))
 (.seq (.regN [1] [
 kx 15 (.ldA (some 1) 4 (ux 1)),kx 16 (.call 65 [.tmp 15]),kx 3 (um 16)])
 (.seq (.regN [1,3] [
 kx 17 (.fldA 1 (ux 1)),kx 18 (.ld1 (some 1) (ux 17)),kx 19 (.mks 1 24 [.e0] (ux 18)),kx 4 (um 19)])
 (.seq (.regN [1,3,4] [
 kx 20 (um 4),kx 21 (.buildS 1 [(.val (.int .u8 0))] [(0,1,(.con (.val (.int .u8 255))))]),kx 22 (.b2s (ux 21)),kx 23 (.buildS 1 [(.val (.string ⟨#[]⟩))] [(0,1,(ux 22))]),kx 24 (.ixA 1 (ux 20) c0),kn (.st none 1 (ux 24) (ux 23))])
 (.seq (.seq (.regN [1,3,4] [
 kx 5 (.mv cT)])
 (.block 0
 (.loop [1,3,4,5] GL)))
 (.seq (.regN [4] [
 kx 92 (um 4),kx 2 (um 92)])
 .ret)))))))
def t66:AFn:=⟨1,KA,
 [.tmp 2],true⟩
def GM:AC:=(.seq (.seq (.regN [1,2,3,7] [
 kx 18 (um 7),kx 19 (um 2),kx 20 (.len false (ux 19)),kx 21 (.bini .lss (ux 18) (ux 20))])
 (.cond (ux 21)
 .skip
 (.exit 0)))
 (.seq (.block 1
 (.seq (.regD [1,2,3,7] 0 [
 kx 24 (um 2),kx 25 (um 7),kx 26 (.ixA 1 (ux 24) (ux 25)),kx 27 (.ld1 none (ux 26)),kx 28 (.bini .lss (ux 27) c0),kx 29 (um 28),kz 30 29 (um 2),kz 31 29 (um 7),kz 32 29 (.ixA 1 (ux 30) (ux 31)),kz 33 29 (.ld1 none (ux 32)),kz 34 29 (.fldA 0 (ux 3)),kz 35 29 (.ld1 (some 3) (ux 34)),kz 36 29 (.fldA 1 (ux 3)),kz 37 29 (.ld1 (some 3) (ux 36)),kz 38 29 (.bini .add (ux 35) (ux 37)),kz 39 29 (.bini .geq (ux 33) (ux 38)),kx 40 (.pick (ux 29) cT (ux 39))])
 (.cond (ux 40)
 (.seq (.regN [] [
 kx 6 (.mv (.con .e0))])
 .ret)
 .skip)))
 (.regN [1,2,3,7] [
 kx 22 (um 7),kx 23 (.bini .add (ux 22) c1),kx 7 (um 23)])))
def KB:AC:=(.seq (.regN [0,1,2] [
 kx 3 (.boxR 4 (ux 0)),kx 6 (.mv (.con .e0))])
 (.seq (.seq (.regN [1,2,3] [
 kx 8 (.ldA (some 3) 4 (ux 3)),kx 9 (.call 39 [.tmp 8]),kx 10 (.bini .neq (ux 9) c0),kx 11 (um 10),kz 12 11 (um 1),kz 13 11 (.len false (ux 12)),kz 14 11 (.fldA 1 (ux 3)),kz 15 11 (.ld1 (some 3) (ux 14)),kz 16 11 (.bini .neq (ux 13) (ux 15)),kx 17 (.pick (ux 11) cT (ux 16))])
 (.cond (ux 17)
 (.seq (.regN [] [
 kx 6 (.mv (.con .e0))])
 .ret)
 .skip))
 (.seq (.seq (.regN [1,2,3] [
 kx 7 (.mv c0)])
 (.block 0
 (.loop [1,2,3,7] GM)))
 (.seq (.regN [1,2,3] [
 kx 41 (.ldA (some 3) 4 (ux 3)),kx 42 (um 1),kx 43 (um 2),kx 44 (.call 92 [(ux 41),(ux 42),(ux 43)]),kx 6 (um 44)])
 .ret))))
def t68:AFn:=⟨3,KB,
 [.tmp 6],true⟩
def BU:AC:=(.seq (.seq (.regN [2,3,4,6,7,8,9] [
 kx 50 (um 9),kx 51 (.fldA 0 (ux 3)),kx 52 (.ld1 (some 3) (ux 51)),kx 53 (um 7),kx 54 (.ixA 1 (ux 52) (ux 53)),kx 55 (.ld1 none (ux 54)),kx 56 (.len false (ux 55)),kx 57 (.bini .lss (ux 50) (ux 56))])
 (.cond (ux 57)
 .skip
 (.exit 6)))
 (.seq (.block 7
 (.seq (.regD [2,3,4,6,7,8,9] 0 [
 kx 60 (.fldA 0 (ux 3)),kx 61 (.ld1 (some 3) (ux 60)),kx 62 (um 8),kx 63 (.ixA 1 (ux 61) (ux 62)),kx 64 (.ld1 none (ux 63)),kx 65 (.fldA 0 (ux 3)),kx 66 (.ld1 (some 3) (ux 65)),kx 67 (um 7),kx 68 (.ixA 1 (ux 66) (ux 67)),kx 69 (.ld1 none (ux 68)),kx 70 (um 9),kx 71 (.ixA 1 (ux 69) (ux 70)),kx 72 (.ld1 none (ux 71)),kf 73 (.call 69 [(ux 64),(ux 72)])])
 (.cond (ux 73)
 (.seq (.regN [3,4,6,7,8,9] [
 kx 74 (um 6),kx 75 (um 7),kx 76 (um 8),kx 77 (.fldA 0 (ux 3)),kx 78 (.ld1 (some 3) (ux 77)),kx 79 (um 7),kx 80 (.ixA 1 (ux 78) (ux 79)),kx 81 (.ld1 none (ux 80)),kx 82 (um 9),kx 83 (.ixA 1 (ux 81) (ux 82)),kx 84 (.ld1 none (ux 83)),kx 85 (.build [(.val (.int .i64 0)),(.val (.int .i64 0)),(.val (.int .i64 0)),(.val (.string ⟨#[]⟩))] [(0,1,(ux 74)),(1,1,(ux 75)),(2,1,(ux 76)),(3,1,(ux 84))]),kn (.st (some 4) 4 (ux 4) (ux 85)),kx 5 (.mv cT)])
 .ret)
 .skip)))
 (.regN [2,3,4,6,7,8,9] [
 kx 58 (um 9),kx 59 (.bini .add (ux 58) c1),kx 9 (um 59)])))
def BV:AC:=(.seq (.seq (.regN [2,3,4,6,7,8] [
 kx 25 (um 8),kx 26 (.fldA 3 (ux 2)),kx 27 (.ld1 (some 2) (ux 26)),kx 28 (.len false (ux 27)),kx 29 (.bini .lss (ux 25) (ux 28))])
 (.cond (ux 29)
 .skip
 (.exit 4)))
 (.seq (.block 5
 (.seq (.seq (.regN [2,3,4,6,7,8] [
 kx 32 (.fldA 3 (ux 2)),kx 33 (.ld1 (some 2) (ux 32)),kx 34 (um 7),kx 35 (.ixA 2 (ux 33) (ux 34)),kx 36 (.fldA 0 (ux 35)),kx 37 (.ld1 none (ux 36)),kx 38 (um 6),kx 39 (.bini .neq (ux 37) (ux 38)),kx 40 (um 39),kz 41 40 (.fldA 3 (ux 2)),kz 42 40 (.ld1 (some 2) (ux 41)),kz 43 40 (um 8),kz 44 40 (.ixA 2 (ux 42) (ux 43)),kz 45 40 (.fldA 0 (ux 44)),kz 46 40 (.ld1 none (ux 45)),kz 47 40 (um 6),kz 48 40 (.bini .neq (ux 46) (ux 47)),kx 49 (.pick (ux 40) cT (ux 48))])
 (.cond (ux 49)
 (.exit 5)
 .skip))
 (.seq (.regN [2,3,4,6,7,8] [
 kx 9 (.mv c0)])
 (.block 6
 (.loop [2,3,4,6,7,8,9] BU)))))
 (.regN [2,3,4,6,7,8] [
 kx 30 (um 8),kx 31 (.bini .add (ux 30) c1),kx 8 (um 31)])))
def BW:AC:=(.seq (.seq (.regN [2,3,4,6,7] [
 kx 16 (um 7),kx 17 (.fldA 3 (ux 2)),kx 18 (.ld1 (some 2) (ux 17)),kx 19 (.len false (ux 18)),kx 20 (.bini .lss (ux 16) (ux 19))])
 (.cond (ux 20)
 .skip
 (.exit 2)))
 (.seq (.block 3
 (.seq (.regN [2,3,4,6,7] [
 kx 23 (um 7),kx 24 (.bini .add (ux 23) c1),kx 8 (um 24)])
 (.block 4
 (.loop [2,3,4,6,7,8] BV))))
 (.regN [2,3,4,6,7] [
 kx 21 (um 7),kx 22 (.bini .add (ux 21) c1),kx 7 (um 22)])))
def BX:AC:=(.seq (.seq (.regN [2,3,4,6] [
 kx 10 (um 6),kx 11 (.fldA 1 (ux 2)),kx 12 (.ld1 (some 2) (ux 11)),kx 13 (.bini .lss (ux 10) (ux 12))])
 (.cond (ux 13)
 .skip
 (.exit 0)))
 (.seq (.block 1
 (.seq (.regN [2,3,4,6] [
 kx 7 (.mv c0)])
 (.block 2
 (.loop [2,3,4,6,7] BW))))
 (.regN [2,3,4,6] [
 kx 14 (um 6),kx 15 (.bini .add (ux 14) c1),kx 6 (um 15)])))
def KC:AC:=(.seq (.regN [0,1] [
 kx 2 (.boxR 4 (ux 0)),kx 3 (.boxR 1 (ux 1)),kx 4 (.allocR [(.val (.int .i64 0)),(.val (.int .i64 0)),(.val (.int .i64 0)),(.val (.string ⟨#[]⟩))]),kx 5 (.mv cF)])
 (.seq (.seq (.regN [2,3,4] [
 kx 6 (.mv c0)])
 (.block 0
 (.loop [2,3,4,6] BX)))
 (.seq (.regN [4] [
 kx 86 (.build [(.val (.int .i64 0)),(.val (.int .i64 0)),(.val (.int .i64 0)),(.val (.string ⟨#[]⟩))] []),kn (.st (some 4) 4 (ux 4) (ux 86)),kx 5 (.mv cF)])
 .ret)))
def t47:AFn:=⟨2,KC,
 [.cell 4 4 true,.tmp 5],true⟩
def BZ:AC:=(.seq (.seq (.regN [0,1,5] [
 kx 6 (um 5),kx 7 (um 0),kx 8 (.len false (ux 7)),kx 9 (.bini .lss (ux 6) (ux 8))])
 (.cond (ux 9)
 .skip
 (.exit 0)))
 (.seq (.block 1
 (.seq (.regN [0,1,5] [
 kx 12 (um 0),kx 13 (um 5),kx 14 (.ixA 1 (ux 12) (ux 13)),kx 15 (.ld1 none (ux 14)),kx 16 (um 1),kx 17 (.bins .eql (ux 15) (ux 16))])
 (.cond (ux 17)
 (.seq (.regN [] [
 kx 4 (.mv cT)])
 .ret)
 .skip)))
 (.regN [0,1,5] [
 kx 10 (um 5),kx 11 (.bini .add (ux 10) c1),kx 5 (um 11)])))
def IS:AC:=(.seq (.regN [0,1] [
 kx 4 (.mv cF)])
 (.seq (.seq (.regN [0,1] [
 kx 5 (.mv c0)])
 (.block 0
 (.loop [0,1,5] BZ)))
 (.seq (.regN [] [
 kx 4 (.mv cF)])
 .ret)))
def t69:AFn:=⟨2,IS,
 [.tmp 4],true⟩
def KD:AC:=(.seq (.regN [0,1,2] [
 kx 3 (.boxR 4 (ux 0)),kx 4 (.boxR 1 (ux 1)),kx 6 (.mv (.con .e0)),kx 7 (.mv cF)])
 (.seq (.regN [2,3,4] [
 kx 9 (.ldA (some 3) 4 (ux 3)),kx 10 (.ldA (some 4) 1 (ux 4)),kx 11 (um 2),kx 12 (.call 29 [(ux 9),(ux 10),(ux 11)]),kx 8 (um 12)])
 (.seq (.seq (.regN [8] [
 kx 13 (um 8),kx 14 (.eqp false (ux 13) (.con (.val (.pointer none))))])
 (.cond (ux 14)
 (.seq (.regN [] [
 kx 6 (.mv (.con .e0)),kx 7 (.mv cF)])
 .ret)
 .skip))
 (.seq (.regN [8] [
 kx 15 (um 8),kx 16 (.nilc (ux 15)),kx 17 (.fldA 7 (ux 16)),kx 18 (.ld1 none (ux 17)),kx 6 (um 18),kx 7 (.mv cT)])
 .ret))))
def t11:AFn:=⟨3,KD,
 [.tmp 6,.tmp 7],true⟩
def B0:AC:=(.seq (.seq (.regN [10,36] [
 kx 37 (um 10),kx 38 (.nilc (ux 37)),kx 39 (.fldA 6 (ux 38)),kx 40 (.ld1 none (ux 39)),kx 41 (.len false (ux 40)),kx 42 (.bini .gtr (ux 41) c0)])
 (.cond (ux 42)
 .skip
 (.exit 0)))
 (.block 1
 (.seq (.regN [10,36] [
 kx 43 (um 10),kx 44 (.call 45 [.tmp 43]),kx 45 (.not (ux 44))])
 (.cond (ux 45)
 (.seq (.regN [] [
 kx 6 (.mv (.con (.val (.pointer none))))])
 .ret)
 .skip))))
def IT:AC:=(.seq (.regN [0,1,2] [
 kx 3 (.boxR 4 (ux 0)),kx 4 (.boxR 1 (ux 1)),kx 6 (.mv (.con (.val (.pointer none))))])
 (.seq (.seq (.regN [2,3,4] [
 kx 11 (.ldA (some 3) 4 (ux 3)),kx 12 (.call 31 [.tmp 11]),kx 13 (.bini .neq (ux 12) c0),kx 14 (um 13),kz 15 14 (.ldA (some 3) 4 (ux 3)),kz 16 14 (.call 16 [.tmp 15]),kz 17 14 (.bini .gtr (ux 16) (.con (.val (.int .i64 65536)))),kx 18 (.pick (ux 14) cT (ux 17))])
 (.cond (ux 18)
 (.seq (.regN [] [
 kx 6 (.mv (.con (.val (.pointer none))))])
 .ret)
 .skip))
 (.seq (.seq (.regN [2,3,4] [
 kx 20 (.ldA (some 3) 4 (ux 3)),kx 21 (.call 43 [.tmp 20]),kx 19 (um 21),kx 22 (.ext (ux 19) 0),kx 23 (.ext (ux 19) 1),kx 24 (.ext (ux 19) 2),kx 7 (.allocR [.e0]),kx 8 (.allocR [(.val (.int .i64 0)),(.val (.int .i64 0)),(.val (.int .i64 0)),(.val (.string ⟨#[]⟩))]),kn (.st (some 7) 1 (ux 7) (ux 22)),kn (.st (some 8) 4 (ux 8) (ux 23)),kx 9 (um 24)])
 (.seq (.regN [2,3,4,7] [
 kx 25 (.ldA (some 7) 1 (ux 7)),kx 26 (.ldA (some 4) 1 (ux 4)),kx 27 (.call 44 [(ux 25),(ux 26)]),kx 28 (.not (ux 27))])
 (.cond (ux 28)
 (.seq (.regN [] [
 kx 6 (.mv (.con (.val (.pointer none))))])
 .ret)
 .skip)))
 (.seq (.regN [2,3,4] [
 kx 29 (.ldA (some 3) 4 (ux 3)),kx 30 (.ldA (some 4) 1 (ux 4)),kx 31 (um 2),kx 32 (.fldA 0 (ux 3)),kx 33 (.ld1 (some 3) (ux 32)),kx 34 (.buildH 1 1 [(.val (.int .i64 0))] [(0,1,(ux 33))]),kx 35 (.build [(.val (.int .i64 0)),(.val (.int .i64 0)),(.val (.int .i64 0)),.e0,.e0,(.val (.string ⟨#[]⟩)),.e0,.e0,(.val (.int .i64 0))] [(0,4,(ux 29)),(4,1,(ux 30)),(5,1,(ux 31)),(6,1,(ux 34))]),kx 36 (.boxH 9 (ux 35)),kx 10 (um 36)])
 (.seq (.block 0
 (.loop [10,36] B0))
 (.seq (.seq (.regN [10,36] [
 kx 46 (um 10),kx 47 (.nilc (ux 46)),kx 48 (.fldA 5 (ux 47)),kx 49 (.ld1 none (ux 48)),kx 50 (.bins .neq (ux 49) (.con (.val (.string ⟨#[]⟩))))])
 (.cond (ux 50)
 (.seq (.regN [] [
 kx 6 (.mv (.con (.val (.pointer none))))])
 .ret)
 .skip))
 (.seq (.regN [10,36] [
 kx 51 (um 10),kx 6 (um 51)])
 .ret)))))))
def t29:AFn:=⟨3,IT,
 [.tmp 6],true⟩
def KE:AC:=(.seq (.regN [0] [
 kx 1 (.boxR 4 (ux 0)),kx 2 (.mv c0)])
 (.seq (.seq (.regN [1] [
 kx 11 (.ldA (some 1) 4 (ux 1)),kx 12 (.call 48 [.tmp 11]),kx 3 (um 12)])
 (.seq (.regN [1,3] [
 kx 13 (um 3),kx 14 (.bini .neq (ux 13) c0)])
 (.cond (ux 14)
 (.seq (.regN [3] [
 kx 15 (um 3),kx 2 (um 15)])
 .ret)
 .skip)))
 (.seq (.seq (.regN [1] [
 kx 17 (.ldA (some 1) 4 (ux 1)),kx 18 (.call 49 [.tmp 17]),kx 16 (um 18),kx 19 (.ext (ux 16) 0),kx 20 (.ext (ux 16) 1),kx 4 (um 19),kx 5 (um 20)])
 (.seq (.regN [1,5] [
 kx 21 (um 5),kx 22 (.not (ux 21))])
 (.cond (ux 22)
 (.seq (.regN [] [
 kx 2 (.mv (.con (.val (.int .i64 5))))])
 .ret)
 .skip)))
 (.seq (.seq (.regN [1] [
 kx 24 (.ldA (some 1) 4 (ux 1)),kx 25 (.call 50 [.tmp 24]),kx 23 (um 25),kx 26 (.ext (ux 23) 0),kx 27 (.ext (ux 23) 1),kx 6 (um 26),kx 7 (um 27)])
 (.seq (.regN [1,7] [
 kx 28 (um 7)])
 (.cond (ux 28)
 (.seq (.regN [] [
 kx 2 (.mv (.con (.val (.int .i64 4))))])
 .ret)
 .skip)))
 (.seq (.regN [1] [
 kx 30 (.ldA (some 1) 4 (ux 1)),kx 31 (.call 43 [.tmp 30]),kx 29 (um 31),kx 32 (.ext (ux 29) 0),kx 33 (.ext (ux 29) 1),kx 34 (.ext (ux 29) 2),kx 8 (.allocR [.e0]),kx 9 (.allocR [(.val (.int .i64 0)),(.val (.int .i64 0)),(.val (.int .i64 0)),(.val (.string ⟨#[]⟩))]),kn (.st (some 8) 1 (ux 8) (ux 32)),kn (.st (some 9) 4 (ux 9) (ux 33)),kx 10 (um 34)])
 (.seq (.regN [10] [
 kx 35 (um 10),kx 2 (um 35)])
 .ret))))))
def t31:AFn:=⟨1,KE,
 [.tmp 2],true⟩
def B1:AC:=(.seq (.regN [1,39,40,41] [
 kx 42 (.bini .lss (ux 41) (ux 40))])
 (.seq (.cond (ux 42)
 .skip
 (.exit 0))
 (.seq (.block 1
 (.seq (.regN [1,39,40,41] [
 kx 43 (.ixA 2 (ux 39) (ux 41)),kx 44 (.ldA none 2 (ux 43)),kx 4 (.allocR [(.val (.int .i64 0)),.e0]),kn (.st (some 4) 2 (ux 4) (ux 44))])
 (.seq (.regN [1,4,39,40,41] [
 kx 45 (.fldA 0 (ux 4)),kx 46 (.ld1 (some 4) (ux 45)),kx 47 (.bini .lss (ux 46) c0),kx 48 (um 47),kz 49 48 (.fldA 0 (ux 4)),kz 50 48 (.ld1 (some 4) (ux 49)),kz 51 48 (.fldA 1 (ux 1)),kz 52 48 (.ld1 none (ux 51)),kz 53 48 (.bini .geq (ux 50) (ux 52)),kx 54 (.pick (ux 48) cT (ux 53)),kx 55 (um 54),kz 56 55 (.fldA 1 (ux 4)),kz 57 55 (.ld1 (some 4) (ux 56)),kz 58 55 (.mkf 73 [.tmp 1]),kz 59 55 (.call 72 [(ux 57),(ux 58)]),kx 60 (.pick (ux 55) cT (ux 59))])
 (.cond (ux 60)
 (.seq (.regN [] [
 kx 2 (.mv (.con (.val (.int .i64 2))))])
 .ret)
 .skip))))
 (.regN [1,39,40,41] [
 kx 61 (.bini .add (ux 41) c1),kx 41 (um 61)]))))
def IU:AC:=(.seq (.regN [0] [
 kx 1 (.boxH 4 (ux 0)),kx 2 (.mv c0)])
 (.seq (.seq (.regN [1] [
 kx 5 (.fldA 0 (ux 1)),kx 6 (.ld1 none (ux 5)),kx 7 (.bini .gtr (ux 6) (.con (.val (.int .i64 8)))),kx 8 (um 7),kz 9 8 (.fldA 1 (ux 1)),kz 10 8 (.ld1 none (ux 9)),kz 11 8 (.bini .gtr (ux 10) (.con (.val (.int .i64 16)))),kx 12 (.pick (ux 8) cT (ux 11)),kx 13 (um 12),kz 14 13 (.fldA 2 (ux 1)),kz 15 13 (.ld1 none (ux 14)),kz 16 13 (.bini .gtr (ux 15) (.con (.val (.int .i64 3)))),kx 17 (.pick (ux 13) cT (ux 16)),kx 18 (um 17),kz 19 18 (.fldA 3 (ux 1)),kz 20 18 (.ld1 none (ux 19)),kz 21 18 (.len false (ux 20)),kz 22 18 (.bini .gtr (ux 21) (.con (.val (.int .i64 64)))),kx 23 (.pick (ux 18) cT (ux 22))])
 (.cond (ux 23)
 (.seq (.regN [] [
 kx 2 (.mv (.con (.val (.int .i64 3))))])
 .ret)
 .skip))
 (.seq (.seq (.regN [1] [
 kx 24 (.fldA 3 (ux 1)),kx 25 (.ld1 none (ux 24)),kx 26 (.call 70 [(ux 25),(.con (.fn 71 []))])])
 (.cond (ux 26)
 (.seq (.regN [] [
 kx 2 (.mv (.con (.val (.int .i64 3))))])
 .ret)
 .skip))
 (.seq (.seq (.regN [1] [
 kx 27 (.fldA 0 (ux 1)),kx 28 (.ld1 none (ux 27)),kx 29 (.fldA 1 (ux 1)),kx 30 (.ld1 none (ux 29)),kx 31 (.fldA 2 (ux 1)),kx 32 (.ld1 none (ux 31)),kx 33 (.fldA 3 (ux 1)),kx 34 (.ld1 none (ux 33)),kx 35 (.len false (ux 34)),kx 36 (.mm false [(ux 28),(ux 30),(ux 32),(ux 35)]),kx 37 (.bini .lss (ux 36) c1)])
 (.cond (ux 37)
 (.seq (.regN [] [
 kx 2 (.mv (.con (.val (.int .i64 2))))])
 .ret)
 .skip))
 (.seq (.seq (.regN [1] [
 kx 38 (.fldA 3 (ux 1)),kx 39 (.ld1 none (ux 38)),kx 40 (.len false (ux 39)),kx 41 (.mv c0)])
 (.block 0
 (.loop [1,39,40,41] B1)))
 (.seq (.regN [] [
 kx 2 (.mv c0)])
 .ret))))))
def t48:AFn:=⟨1,IU,
 [.tmp 2],true⟩
def IW:AC:=(.seq (.regN [0,1] [
 kx 4 (.mv cF)])
 (.seq (.regN [0,1] [
 kx 5 (um 0),kx 6 (um 1),kx 7 (.call 96 [(ux 5),(ux 6)]),kx 8 (.bini .geq (ux 7) c0),kx 4 (um 8)])
 .ret))
def t70:AFn:=⟨2,IW,
 [.tmp 4],true⟩
def B2:AC:=(.seq (.regN [0,1,7,8] [
 kx 9 (.bini .lss (ux 8) (ux 7))])
 (.seq (.cond (ux 9)
 .skip
 (.exit 0))
 (.seq (.block 1
 (.seq (.regN [0,1,7,8] [
 kx 10 (um 8),kx 5 (um 10)])
 (.seq (.regN [0,1,5,7,8] [
 kx 11 (um 1),kx 12 (um 0),kx 13 (um 5),kx 14 (.ixA 2 (ux 12) (ux 13)),kx 15 (.ldA none 2 (ux 14)),kx 16 (.callv (ux 11) [.tmp 15])])
 (.cond (ux 16)
 (.seq (.regN [5] [
 kx 17 (um 5),kx 4 (um 17)])
 .ret)
 .skip))))
 (.regN [0,1,7,8] [
 kx 18 (.bini .add (ux 8) c1),kx 8 (um 18)]))))
def IX:AC:=(.seq (.regN [0,1] [
 kx 4 (.mv c0)])
 (.seq (.seq (.regN [0,1] [
 kx 6 (um 0),kx 7 (.len false (ux 6)),kx 8 (.mv c0)])
 (.block 0
 (.loop [0,1,7,8] B2)))
 (.seq (.regN [] [
 kx 4 (.mv (.con (.val (.int .i64 (-1)))))])
 .ret)))
def t96:AFn:=⟨2,IX,
 [.tmp 4],true⟩
def IY:AC:=(.seq (.regN [0] [
 kx 1 (.boxR 2 (ux 0)),kx 2 (.mv cF)])
 (.seq (.regN [1] [
 kx 3 (.fldA 1 (ux 1)),kx 4 (.ld1 (some 1) (ux 3)),kx 5 (.len false (ux 4)),kx 6 (.bini .gtr (ux 5) (.con (.val (.int .i64 8)))),kx 2 (um 6)])
 .ret))
def t71:AFn:=⟨1,IY,
 [.tmp 2],true⟩
def IZ:AC:=(.seq (.regN [0,1] [
 kx 3 (.mv cF)])
 (.seq (.regN [0,1] [
 kx 4 (um 0),kx 5 (.bini .lss (ux 4) c0),kx 6 (um 5),kz 7 6 (um 0),kz 8 6 (.fldA 0 (ux 1)),kz 9 6 (.ld1 none (ux 8)),kz 10 6 (.fldA 1 (ux 1)),kz 11 6 (.ld1 none (ux 10)),kz 12 6 (.bini .add (ux 9) (ux 11)),kz 13 6 (.bini .geq (ux 7) (ux 12)),kx 14 (.pick (ux 6) cT (ux 13)),kx 3 (um 14)])
 .ret))
def t73:AFn:=⟨2,IZ,
 [.tmp 3],true⟩
def I0:AC:=(.seq (.regN [0,1] [
 kx 4 (.mv cF)])
 (.seq (.regN [0,1] [
 kx 5 (um 0),kx 6 (um 1),kx 7 (.call 97 [(ux 5),(ux 6)]),kx 8 (.bini .geq (ux 7) c0),kx 4 (um 8)])
 .ret))
def t72:AFn:=⟨2,I0,
 [.tmp 4],true⟩
def B3:AC:=(.seq (.regN [0,1,7,8] [
 kx 9 (.bini .lss (ux 8) (ux 7))])
 (.seq (.cond (ux 9)
 .skip
 (.exit 0))
 (.seq (.block 1
 (.seq (.regN [0,1,7,8] [
 kx 10 (um 8),kx 5 (um 10)])
 (.seq (.regN [0,1,5,7,8] [
 kx 11 (um 1),kx 12 (um 0),kx 13 (um 5),kx 14 (.ixA 1 (ux 12) (ux 13)),kx 15 (.ld1 none (ux 14)),kx 16 (.callv (ux 11) [.tmp 15])])
 (.cond (ux 16)
 (.seq (.regN [5] [
 kx 17 (um 5),kx 4 (um 17)])
 .ret)
 .skip))))
 (.regN [0,1,7,8] [
 kx 18 (.bini .add (ux 8) c1),kx 8 (um 18)]))))
def I3:AC:=(.seq (.regN [0,1] [
 kx 4 (.mv c0)])
 (.seq (.seq (.regN [0,1] [
 kx 6 (um 0),kx 7 (.len false (ux 6)),kx 8 (.mv c0)])
 (.block 0
 (.loop [0,1,7,8] B3)))
 (.seq (.regN [] [
 kx 4 (.mv (.con (.val (.int .i64 (-1)))))])
 .ret)))
def t97:AFn:=⟨2,I3,
 [.tmp 4],true⟩
def GN:AC:=(.seq (.regN [4,5,15,16] [
 kx 17 (.bini .lss (ux 16) (ux 15))])
 (.seq (.cond (ux 17)
 .skip
 (.exit 0))
 (.seq (.block 1
 (.seq (.regN [4,5,15,16] [
 kx 18 (um 16),kx 6 (um 18)])
 (.seq (.regN [4,5,6,15,16] [
 kx 19 (um 4),kx 20 (um 6),kx 21 (.ixA 1 (ux 19) (ux 20)),kx 22 (.ld1 none (ux 21)),kx 23 (.not (ux 22)),kx 24 (um 23),kz 25 24 (um 5),kz 26 24 (um 6),kz 27 24 (.ixA 1 (ux 25) (ux 26)),kz 28 24 (.ld1 none (ux 27)),kz 29 24 (.not (ux 28)),kx 30 (.pick (ux 24) cT (ux 29))])
 (.cond (ux 30)
 (.seq (.regN [6] [
 kx 31 (um 6),kx 2 (um 31),kx 3 (.mv cF)])
 .ret)
 .skip))))
 (.regN [4,5,15,16] [
 kx 32 (.bini .add (ux 16) c1),kx 16 (um 32)]))))
def KI:AC:=(.seq (.regN [0] [
 kx 1 (.boxR 4 (ux 0)),kx 2 (.mv c0),kx 3 (.mv cF)])
 (.seq (.seq (.regN [1] [
 kx 7 (.ldA (some 1) 4 (ux 1)),kx 8 (.call 48 [.tmp 7]),kx 9 (.bini .neq (ux 8) c0)])
 (.cond (ux 9)
 (.seq (.regN [] [
 kx 2 (.mv c0),kx 3 (.mv cF)])
 .ret)
 .skip))
 (.seq (.regD [1] 0 [
 kx 10 (.ldA (some 1) 4 (ux 1)),kf 11 (.call 74 [.tmp 10]),kx 12 (.ldA (some 1) 4 (ux 1)),kf 13 (.call 75 [.tmp 12]),kx 4 (um 11),kx 5 (um 13)])
 (.seq (.seq (.regN [1,4,5] [
 kx 14 (.fldA 1 (ux 1)),kx 15 (.ld1 (some 1) (ux 14)),kx 16 (.mv c0)])
 (.block 0
 (.loop [4,5,15,16] GN)))
 (.seq (.regN [] [
 kx 2 (.mv c0),kx 3 (.mv cT)])
 .ret)))))
def t49:AFn:=⟨1,KI,
 [.tmp 2,.tmp 3],true⟩
def KK:AC:=(.seq (.regN [0] [
 kx 1 (.boxR 4 (ux 0)),kx 2 (.mv (.con .e0))])
 (.seq (.regN [1] [
 kx 3 (.ldA (some 1) 4 (ux 1)),kx 4 (.call 52 [(ux 3),cT]),kx 2 (um 4)])
 .ret))
def t74:AFn:=⟨1,KK,
 [.tmp 2],true⟩
def KL:AC:=(.seq (.regN [0,1] [
 kx 2 (.boxH 4 (ux 0)),kx 3 (.boxH 1 (ux 1)),kx 4 (.mv (.con .e0))])
 (.seq (.seq (.regN [2,3] [
 kx 7 (.ldA none 4 (ux 2)),kx 8 (.call 48 [.tmp 7]),kx 9 (.bini .neq (ux 8) c0)])
 (.cond (ux 9)
 (.seq (.regN [] [
 kx 4 (.mv (.con .e0))])
 .ret)
 .skip))
 (.seq (.regN [2,3] [
 kx 10 (.fldA 1 (ux 2)),kx 11 (.ld1 none (ux 10)),kx 12 (.mks 1 1 [(.val (.bool false))] (ux 11)),kx 5 (.allocH [.e0]),kn (.st none 1 (ux 5) (ux 12))])
 (.seq (.regN [2,3,5] [
 kx 13 (.mkf 81 [(ux 2),(ux 3),(ux 5)]),kx 6 (.allocH [(.val .nilFunc)]),kn (.st none 1 (ux 6) (ux 13))])
 (.seq (.regN [2,5,6] [
 kx 14 (.fldA 3 (ux 2)),kx 15 (.ld1 none (ux 14)),kx 16 (.mkf 82 [(ux 5),(ux 6)]),kx 17 (.call 76 [(ux 15),(ux 16)])])
 (.seq (.regN [5] [
 kx 18 (.ld1 none (ux 5)),kx 4 (um 18)])
 .ret))))))
def t52:AFn:=⟨2,KL,
 [.tmp 4],true⟩
def KM:AC:=(.seq (.regN [0,1,2,3] [
 kx 5 (.mv cF)])
 (.seq (.regN [0,1,2,3] [
 kx 6 (um 0),kx 7 (.fldA 0 (ux 1)),kx 8 (.ld1 none (ux 7)),kx 9 (.bini .lss (ux 6) (ux 8)),kx 10 (um 9),ky 11 10 (.ld1 none (ux 2)),ky 12 10 (.not (ux 11)),kx 13 (.pick (ux 10) (ux 12) cF),kx 14 (um 13),kz 15 14 (um 0),kz 16 14 (.fldA 0 (ux 1)),kz 17 14 (.ld1 none (ux 16)),kz 18 14 (.bini .geq (ux 15) (ux 17)),kz 19 14 (um 18),ky 20 19 (.ld1 none (ux 3)),ky 21 19 (um 0),ky 22 19 (.fldA 0 (ux 1)),ky 23 19 (.ld1 none (ux 22)),ky 24 19 (.bini .sub (ux 21) (ux 23)),ky 25 19 (.ixA 1 (ux 20) (ux 24)),ky 26 19 (.ld1 none (ux 25)),ky 27 19 (.not (ux 26)),kz 28 14 (.pick (ux 19) (ux 27) cF),kx 29 (.pick (ux 14) cT (ux 28)),kx 5 (um 29)])
 .ret))
def t81:AFn:=⟨4,KM,
 [.tmp 5],true⟩
def KN:AC:=(.seq (.regN [0,1,2] [
 kx 3 (.boxR 2 (ux 0)),kx 4 (.mv cF)])
 (.seq (.seq (.regN [1,2,3] [
 kx 5 (.ld1 none (ux 1)),kx 6 (.fldA 0 (ux 3)),kx 7 (.ld1 (some 3) (ux 6)),kx 8 (.ixA 1 (ux 5) (ux 7)),kx 9 (.ld1 none (ux 8)),kx 10 (um 9),kz 11 10 (.fldA 1 (ux 3)),kz 12 10 (.ld1 (some 3) (ux 11)),kz 13 10 (.ld1 none (ux 2)),kz 14 10 (.call 72 [(ux 12),(ux 13)]),kx 15 (.pick (ux 10) cT (ux 14))])
 (.cond (ux 15)
 (.seq (.regN [] [
 kx 4 (.mv cF)])
 .ret)
 .skip))
 (.seq (.regN [1,3] [
 kx 16 (.ld1 none (ux 1)),kx 17 (.fldA 0 (ux 3)),kx 18 (.ld1 (some 3) (ux 17)),kx 19 (.ixA 1 (ux 16) (ux 18)),kn (.st none 1 (ux 19) cT)])
 (.seq (.regN [] [
 kx 4 (.mv cT)])
 .ret))))
def t82:AFn:=⟨3,KN,
 [.tmp 4],true⟩
def GP:AC:=(.seq (.regN [0,1,4,8,9,10] [
 kx 11 (.bini .lss (ux 10) (ux 9))])
 (.seq (.cond (ux 11)
 .skip
 (.exit 2))
 (.seq (.block 3
 (.seq (.regN [0,1,4,8,9,10] [
 kx 12 (.ixA 2 (ux 8) (ux 10)),kx 13 (.ldA none 2 (ux 12)),kx 6 (.allocR [(.val (.int .i64 0)),.e0]),kn (.st (some 6) 2 (ux 6) (ux 13))])
 (.regN [0,1,4,6,8,9,10] [
 kx 14 (um 1),kx 15 (.ldA (some 6) 2 (ux 6)),kx 16 (.callv (ux 14) [.tmp 15]),kx 17 (um 16),kz 18 17 (um 4),kx 19 (.pick (ux 17) cT (ux 18)),kx 4 (um 19)])))
 (.regN [0,1,4,8,9,10] [
 kx 20 (.bini .add (ux 10) c1),kx 10 (um 20)]))))
def GQ:AC:=(.seq (.seq (.regN [0,1,4] [
 kx 7 (um 4)])
 (.cond (ux 7)
 .skip
 (.exit 0)))
 (.block 1
 (.seq (.regN [0,1] [
 kx 4 (.mv cF)])
 (.seq (.regN [0,1,4] [
 kx 8 (um 0),kx 9 (.len false (ux 8)),kx 10 (.mv c0)])
 (.block 2
 (.loop [0,1,4,8,9,10] GP))))))
def KO:AC:=(.seq (.regN [0,1] [
 kx 4 (.mv cT)])
 (.block 0
 (.loop [0,1,4] GQ)))
def t76:AFn:=⟨2,KO,
 [],true⟩
def KQ:AC:=(.seq (.regN [0] [
 kx 1 (.boxH 4 (ux 0)),kx 2 (.mv (.con .e0))])
 (.seq (.seq (.regN [1] [
 kx 4 (.ldA none 4 (ux 1)),kx 5 (.call 48 [.tmp 4]),kx 6 (.bini .neq (ux 5) c0)])
 (.cond (ux 6)
 (.seq (.regN [] [
 kx 2 (.mv (.con .e0))])
 .ret)
 .skip))
 (.seq (.regN [1] [
 kx 7 (.fldA 1 (ux 1)),kx 8 (.ld1 none (ux 7)),kx 9 (.mks 1 1 [(.val (.bool false))] (ux 8)),kx 3 (.allocH [.e0]),kn (.st none 1 (ux 3) (ux 9))])
 (.seq (.regN [1,3] [
 kx 10 (.ld1 none (ux 3)),kx 11 (.ixA 1 (ux 10) c0),kn (.st none 1 (ux 11) cT)])
 (.seq (.regN [1,3] [
 kx 12 (.fldA 3 (ux 1)),kx 13 (.ld1 none (ux 12)),kx 14 (.mkf 98 [(ux 3),(ux 1)]),kx 15 (.call 76 [(ux 13),(ux 14)])])
 (.seq (.regN [3] [
 kx 16 (.ld1 none (ux 3)),kx 2 (um 16)])
 .ret))))))
def t75:AFn:=⟨1,KQ,
 [.tmp 2],true⟩
def GR:AC:=(.seq (.regN [1,2,4,14,15,16] [
 kx 17 (.bini .lss (ux 16) (ux 15))])
 (.seq (.cond (ux 17)
 .skip
 (.exit 0))
 (.seq (.block 1
 (.seq (.regN [1,2,4,14,15,16] [
 kx 18 (.ixA 1 (ux 14) (ux 16)),kx 19 (.ld1 none (ux 18)),kx 6 (um 19)])
 (.seq (.seq (.regN [1,2,4,6,14,15,16] [
 kx 20 (um 6),kx 21 (.fldA 0 (ux 2)),kx 22 (.ld1 none (ux 21)),kx 23 (.bini .lss (ux 20) (ux 22)),kx 24 (um 23),kz 25 24 (.ld1 none (ux 1)),kz 26 24 (um 6),kz 27 24 (.fldA 0 (ux 2)),kz 28 24 (.ld1 none (ux 27)),kz 29 24 (.bini .sub (ux 26) (ux 28)),kz 30 24 (.ixA 1 (ux 25) (ux 29)),kz 31 24 (.ld1 none (ux 30)),kx 32 (.pick (ux 24) cT (ux 31))])
 (.cond (ux 32)
 (.exit 1)
 .skip))
 (.regN [1,2,6,14,15,16] [
 kx 33 (.ld1 none (ux 1)),kx 34 (um 6),kx 35 (.fldA 0 (ux 2)),kx 36 (.ld1 none (ux 35)),kx 37 (.bini .sub (ux 34) (ux 36)),kx 38 (.ixA 1 (ux 33) (ux 37)),kn (.st none 1 (ux 38) cT),kx 4 (.mv cT)]))))
 (.regN [1,2,4,14,15,16] [
 kx 39 (.bini .add (ux 16) c1),kx 16 (um 39)]))))
def KS:AC:=(.seq (.regN [0,1,2] [
 kx 3 (.boxR 2 (ux 0)),kx 4 (.mv cF)])
 (.seq (.seq (.regN [1,2,3,4] [
 kx 7 (.ld1 none (ux 1)),kx 8 (.fldA 0 (ux 3)),kx 9 (.ld1 (some 3) (ux 8)),kx 10 (.ixA 1 (ux 7) (ux 9)),kx 11 (.ld1 none (ux 10)),kx 12 (.not (ux 11))])
 (.cond (ux 12)
 (.seq (.regN [] [
 kx 4 (.mv cF)])
 .ret)
 .skip))
 (.seq .skip
 (.seq (.seq (.regN [1,2,3,4] [
 kx 13 (.fldA 1 (ux 3)),kx 14 (.ld1 (some 3) (ux 13)),kx 15 (.len false (ux 14)),kx 16 (.mv c0)])
 (.block 0
 (.loop [1,2,4,14,15,16] GR)))
 (.seq (.regN [4] [
 kx 40 (um 4),kx 4 (um 40)])
 .ret)))))
def t98:AFn:=⟨3,KS,
 [.tmp 4],true⟩
def GS:AC:=(.seq (.regN [1,4,5,17,18] [
 kx 19 (.bini .lss (ux 18) (ux 17))])
 (.seq (.cond (ux 19)
 .skip
 (.exit 0))
 (.seq (.block 1
 (.seq (.regN [1,4,5,17,18] [
 kx 20 (um 18),kx 6 (um 20)])
 (.regD [1,4,5,6,17,18] 1 [
 kx 21 (.ld1 none (ux 5)),kx 22 (um 6),kx 23 (.fldA 1 (ux 1)),kx 24 (.ld1 none (ux 23)),kx 25 (.mks 1 1 [(.val (.bool false))] (ux 24)),kx 26 (.ixA 1 (ux 21) (ux 22)),kn (.st none 1 (ux 26) (ux 25))])))
 (.regN [1,4,5,17,18] [
 kx 27 (.bini .add (ux 18) c1),kx 18 (um 27)]))))
def GU:AC:=(.seq (.regN [5,33,34] [
 kx 35 (.bini .lss (ux 34) (ux 33))])
 (.seq (.cond (ux 35)
 .skip
 (.exit 2))
 (.seq (.block 3
 (.seq (.regN [5,33,34] [
 kx 36 (um 34),kx 7 (um 36)])
 (.seq (.regN [5,7,33,34] [
 kx 37 (.ld1 none (ux 5)),kx 38 (um 7),kx 39 (.ixA 1 (ux 37) (ux 38)),kx 40 (.ld1 none (ux 39)),kx 41 (um 7),kx 42 (.ixA 1 (ux 40) (ux 41)),kx 43 (.ld1 none (ux 42))])
 (.cond (ux 43)
 (.seq (.regN [7] [
 kx 44 (um 7),kx 2 (um 44),kx 3 (.mv cT)])
 .ret)
 .skip))))
 (.regN [5,33,34] [
 kx 45 (.bini .add (ux 34) c1),kx 34 (um 45)]))))
def KT:AC:=(.seq (.regN [0] [
 kx 1 (.boxH 4 (ux 0)),kx 2 (.mv c0),kx 3 (.mv cF)])
 (.seq (.seq (.regN [1] [
 kx 8 (.ldA none 4 (ux 1)),kx 9 (.call 48 [.tmp 8]),kx 10 (.bini .neq (ux 9) c0)])
 (.cond (ux 10)
 (.seq (.regN [] [
 kx 2 (.mv c0),kx 3 (.mv cF)])
 .ret)
 .skip))
 (.seq (.regN [1] [
 kx 11 (.ldA none 4 (ux 1)),kx 12 (.call 34 [.tmp 11]),kx 4 (.allocH [.e0]),kn (.st none 1 (ux 4) (ux 12))])
 (.seq (.regN [1,4] [
 kx 13 (.fldA 1 (ux 1)),kx 14 (.ld1 none (ux 13)),kx 15 (.mks 1 24 [.e0] (ux 14)),kx 5 (.allocH [.e0]),kn (.st none 1 (ux 5) (ux 15))])
 (.seq (.seq (.regN [1,4,5] [
 kx 16 (.ld1 none (ux 5)),kx 17 (.len false (ux 16)),kx 18 (.mv c0)])
 (.block 0
 (.loop [1,4,5,17,18] GS)))
 (.seq (.regN [1,4,5] [
 kx 28 (.fldA 3 (ux 1)),kx 29 (.ld1 none (ux 28)),kx 30 (.mkf 77 [(ux 5),(ux 1),(ux 4)]),kx 31 (.call 76 [(ux 29),(ux 30)])])
 (.seq (.seq (.regN [1,5] [
 kx 32 (.fldA 1 (ux 1)),kx 33 (.ld1 none (ux 32)),kx 34 (.mv c0)])
 (.block 2
 (.loop [5,33,34] GU)))
 (.seq (.regN [] [
 kx 2 (.mv c0),kx 3 (.mv cF)])
 .ret))))))))
def t50:AFn:=⟨1,KT,
 [.tmp 2,.tmp 3],true⟩
def KU:AC:=(.seq (.regN [0] [
 kx 1 (.boxR 4 (ux 0)),kx 2 (.mv (.con .e0))])
 (.seq (.regN [1] [
 kx 3 (.ldA (some 1) 4 (ux 1)),kx 4 (.call 52 [(ux 3),cF]),kx 2 (um 4)])
 .ret))
def t34:AFn:=⟨1,KU,
 [.tmp 2],true⟩
def B4:AC:=(.seq (.regN [1,5,6,8,20,21,22,29,30,31] [
 kx 32 (.bini .lss (ux 31) (ux 30))])
 (.seq (.cond (ux 32)
 .skip
 (.exit 2))
 (.seq (.block 3
 (.seq (.regN [1,5,6,8,20,21,22,29,30,31] [
 kx 33 (um 31),kx 34 (.ixA 1 (ux 29) (ux 31)),kx 35 (.ld1 none (ux 34)),kx 9 (um 33),kx 10 (um 35)])
 (.seq (.regN [1,5,6,8,9,10,20,21,22,29,30,31] [
 kx 36 (um 10),kx 37 (um 36),kz 38 37 (um 9),kz 39 37 (um 8),kz 40 37 (.bini .eql (ux 38) (ux 39)),kx 41 (.pick (ux 37) cT (ux 40)),kx 42 (um 41),ky 43 42 (um 6),ky 44 42 (um 9),ky 45 42 (.ixA 1 (ux 43) (ux 44)),ky 46 42 (.ld1 none (ux 45)),ky 47 42 (.not (ux 46)),kx 48 (.pick (ux 42) (ux 47) cF)])
 (.cond (ux 48)
 (.regN [1,6,8,9,20,21,22,29,30,31] [
 kx 49 (um 6),kx 50 (um 9),kx 51 (.ixA 1 (ux 49) (ux 50)),kn (.st none 1 (ux 51) cT),kx 5 (.mv cT)])
 .skip))))
 (.regN [1,5,6,8,20,21,22,29,30,31] [
 kx 52 (.bini .add (ux 31) c1),kx 31 (um 52)]))))
def xL:AC:=(.seq (.regN [1,5,6,20,21,22] [
 kx 23 (.bini .lss (ux 22) (ux 21))])
 (.seq (.cond (ux 23)
 .skip
 (.exit 0))
 (.seq (.block 1
 (.seq (.regN [1,5,6,20,21,22] [
 kx 24 (.ixA 1 (ux 20) (ux 22)),kx 25 (.ld1 none (ux 24)),kx 8 (um 25)])
 (.seq (.regN [1,5,6,8,20,21,22] [
 kx 26 (.ld1 none (ux 1)),kx 27 (um 8),kx 28 (.ixA 1 (ux 26) (ux 27)),kx 29 (.ld1 none (ux 28)),kx 30 (.len false (ux 29)),kx 31 (.mv c0)])
 (.block 2
 (.loop [1,5,6,8,20,21,22,29,30,31] B4)))))
 (.regN [1,5,6,20,21,22] [
 kx 53 (.bini .add (ux 22) c1),kx 22 (um 53)]))))
def KV:AC:=(.seq (.regN [0,1,2,3] [
 kx 4 (.boxR 2 (ux 0)),kx 5 (.mv cF)])
 (.seq (.regN [1,2,3,4,5] [
 kx 11 (.ld1 none (ux 1)),kx 12 (.fldA 0 (ux 4)),kx 13 (.ld1 (some 4) (ux 12)),kx 14 (.ixA 1 (ux 11) (ux 13)),kx 15 (.ld1 none (ux 14)),kx 6 (um 15)])
 (.seq (.seq (.regN [1,2,3,4,5,6] [
 kx 16 (.ldA none 4 (ux 2)),kx 17 (.ld1 none (ux 3)),kx 18 (.fldA 1 (ux 4)),kx 19 (.ld1 (some 4) (ux 18)),kx 20 (.call 78 [(ux 16),(ux 17),(ux 19)]),kx 21 (.len false (ux 20)),kx 22 (.mv c0)])
 (.block 0
 (.loop [1,5,6,20,21,22] xL)))
 (.seq (.regN [5] [
 kx 54 (um 5),kx 5 (um 54)])
 .ret))))
def t77:AFn:=⟨4,KV,
 [.tmp 5],true⟩
def GV:AC:=(.seq (.regN [1,3,6,9,10,11] [
 kx 12 (.bini .lss (ux 11) (ux 10))])
 (.seq (.cond (ux 12)
 .skip
 (.exit 0))
 (.seq (.block 1
 (.seq (.regN [1,3,6,9,10,11] [
 kx 13 (.ixA 1 (ux 9) (ux 11)),kx 14 (.ld1 none (ux 13)),kx 8 (um 14)])
 (.seq (.seq (.regN [1,3,6,8,9,10,11] [
 kx 15 (um 8),kx 16 (.fldA 0 (ux 3)),kx 17 (.ld1 (some 3) (ux 16)),kx 18 (.bini .lss (ux 15) (ux 17))])
 (.cond (ux 18)
 (.exit 0)
 .skip))
 (.seq (.regN [1,3,6,8,9,10,11] [
 kx 19 (um 6),kx 20 (um 8),kx 21 (.fldA 0 (ux 3)),kx 22 (.ld1 (some 3) (ux 21)),kx 23 (.bini .sub (ux 20) (ux 22)),kx 24 (.buildS 1 [(.val (.int .i64 0))] [(0,1,(ux 23))]),kx 25 (.app 1 8 (ux 19) (ux 24)),kx 6 (um 25)])
 (.seq (.regN [1,3,6,8,9,10,11] [
 kx 26 (um 1),kx 27 (um 8),kx 28 (.fldA 0 (ux 3)),kx 29 (.ld1 (some 3) (ux 28)),kx 30 (.bini .sub (ux 27) (ux 29)),kx 31 (.ixA 1 (ux 26) (ux 30)),kx 32 (.ld1 none (ux 31)),kx 33 (.not (ux 32))])
 (.cond (ux 33)
 (.exit 0)
 .skip))))))
 (.regN [1,3,6,9,10,11] [
 kx 34 (.bini .add (ux 11) c1),kx 11 (um 34)]))))
def KW:AC:=(.seq (.regN [0,1,2] [
 kx 3 (.boxR 4 (ux 0)),kx 6 (.mv (.con .e0))])
 (.seq (.seq (.regN [1,2,3,6] [
 kx 9 (um 2),kx 10 (.len false (ux 9)),kx 11 (.mv c0)])
 (.block 0
 (.loop [1,3,6,9,10,11] GV)))
 (.seq (.regN [6] [
 kx 35 (um 6),kx 6 (um 35)])
 .ret)))
def t78:AFn:=⟨3,KW,
 [.tmp 6],true⟩
def KX:AC:=(.seq (.regN [0] [
 kx 1 (.boxR 4 (ux 0)),kx 2 (.allocR [.e0]),kx 3 (.allocR [(.val (.int .i64 0)),(.val (.int .i64 0)),(.val (.int .i64 0)),(.val (.string ⟨#[]⟩))]),kx 4 (.mv c0)])
 (.seq (.seq (.regN [1,2,3] [
 kx 8 (.ldA (some 1) 4 (ux 1)),kx 9 (.call 48 [.tmp 8]),kx 5 (um 9)])
 (.seq (.regN [1,2,3,5] [
 kx 10 (um 5),kx 11 (.bini .neq (ux 10) c0)])
 (.cond (ux 11)
 (.seq (.regD [2,3,5] 0 [
 kx 12 (.ldA (some 2) 1 (ux 2)),kx 13 (.ldA (some 3) 4 (ux 3)),kx 14 (um 5),kn (.st (some 2) 1 (ux 2) (ux 12)),kn (.st (some 3) 4 (ux 3) (ux 13)),kx 4 (um 14)])
 .ret)
 .skip)))
 (.seq (.regN [1,2,3] [
 kx 15 (.ldA (some 1) 4 (ux 1)),kx 16 (.call 59 [.tmp 15]),kn (.st (some 2) 1 (ux 2) (ux 16))])
 (.seq (.seq (.regN [1,2,3] [
 kx 18 (.ldA (some 1) 4 (ux 1)),kx 19 (.ldA (some 2) 1 (ux 2)),kx 20 (.call 60 [(ux 18),(ux 19)]),kx 17 (um 20),kx 21 (.ext (ux 17) 0),kx 22 (.ext (ux 17) 1),kx 6 (.allocR [(.val (.int .i64 0)),(.val (.int .i64 0)),(.val (.int .i64 0)),(.val (.string ⟨#[]⟩))]),kn (.st (some 6) 4 (ux 6) (ux 21)),kx 7 (um 22)])
 (.seq (.regN [2,3,6,7] [
 kx 23 (um 7)])
 (.cond (ux 23)
 (.seq (.regD [2,3,6] 0 [
 kx 24 (.build [.e0] []),kx 25 (.ldA (some 6) 4 (ux 6)),kn (.st (some 2) 1 (ux 2) (ux 24)),kn (.st (some 3) 4 (ux 3) (ux 25)),kx 4 (.mv (.con (.val (.int .i64 9))))])
 .ret)
 .skip)))
 (.seq (.regD [2,3] 0 [
 kx 26 (.ldA (some 2) 1 (ux 2)),kx 27 (.ldA (some 3) 4 (ux 3)),kn (.st (some 2) 1 (ux 2) (ux 26)),kn (.st (some 3) 4 (ux 3) (ux 27)),kx 4 (.mv c0)])
 .ret)))))
def t43:AFn:=⟨1,KX,
 [.cell 2 1 true,.cell 3 4 true,.tmp 4],true⟩
def GW:AC:=(.seq (.regN [1,2,3,4,12,13,14] [
 kx 15 (.bini .lss (ux 14) (ux 13))])
 (.seq (.cond (ux 15)
 .skip
 (.exit 0))
 (.seq (.block 1
 (.seq (.regN [1,2,3,4,12,13,14] [
 kx 16 (.ixA 2 (ux 12) (ux 14)),kx 17 (.ldA none 2 (ux 16)),kx 6 (.allocR [(.val (.int .i64 0)),.e0]),kn (.st (some 6) 2 (ux 6) (ux 17))])
 (.regD [1,2,3,4,6,12,13,14] 0 [
 kx 18 (.fldA 0 (ux 2)),kx 19 (.ld1 (some 2) (ux 18)),kx 20 (.fldA 2 (ux 1)),kx 21 (.ld1 (some 1) (ux 20)),kx 22 (.ldA (some 1) 4 (ux 1)),kx 23 (um 3),kx 24 (.fldA 1 (ux 6)),kx 25 (.ld1 (some 6) (ux 24)),kx 26 (.call 86 [(ux 22),(ux 23),(ux 25)]),kx 27 (um 4),kx 28 (.fldA 0 (ux 6)),kx 29 (.ld1 (some 6) (ux 28)),kx 30 (.ixA 1 (ux 27) (ux 29)),kx 31 (.ld1 none (ux 30)),kf 32 (.call 85 [(ux 21),(ux 26),(ux 31)]),kx 33 (.buildS 1 [.e0] [(0,1,(ux 32))]),kx 34 (.app 1 24 (ux 19) (ux 33)),kx 35 (.fldA 0 (ux 2)),kn (.st (some 2) 1 (ux 35) (ux 34))])))
 (.regN [1,2,3,4,12,13,14] [
 kx 36 (.bini .add (ux 14) c1),kx 14 (um 36)]))))
def KY:AC:=(.seq (.regN [0] [
 kx 1 (.boxR 4 (ux 0)),kx 2 (.allocR [.e0])])
 (.seq (.regD [1,2] 0 [
 kx 7 (.ldA (some 1) 4 (ux 1)),kf 8 (.call 83 [.tmp 7]),kx 9 (.ldA (some 1) 4 (ux 1)),kf 10 (.call 84 [.tmp 9]),kx 3 (um 8),kx 4 (um 10)])
 (.seq (.seq (.regN [1,2,3,4] [
 kx 11 (.fldA 3 (ux 1)),kx 12 (.ld1 (some 1) (ux 11)),kx 13 (.len false (ux 12)),kx 14 (.mv c0)])
 (.block 0
 (.loop [1,2,3,4,12,13,14] GW)))
 (.seq (.regN [2] [
 kx 37 (.ldA (some 2) 1 (ux 2)),kn (.st (some 2) 1 (ux 2) (ux 37))])
 .ret))))
def t59:AFn:=⟨1,KY,
 [.cell 2 1 true],true⟩
def GX:AC:=(.seq (.regN [1,3,4,16,17,18] [
 kx 19 (.bini .lss (ux 18) (ux 17))])
 (.seq (.cond (ux 19)
 .skip
 (.exit 2))
 (.seq (.block 3
 (.seq (.regN [1,3,4,16,17,18] [
 kx 20 (.ixA 2 (ux 16) (ux 18)),kx 21 (.ldA none 2 (ux 20)),kx 6 (.allocR [(.val (.int .i64 0)),.e0]),kn (.st (some 6) 2 (ux 6) (ux 21))])
 (.seq (.regD [1,3,4,6,16,17,18] 0 [
 kx 22 (um 3),kx 23 (.fldA 0 (ux 6)),kx 24 (.ld1 (some 6) (ux 23)),kx 25 (.ixA 1 (ux 22) (ux 24)),kx 26 (.ld1 none (ux 25)),kx 27 (.ldA (some 1) 4 (ux 1)),kx 28 (um 3),kx 29 (.fldA 1 (ux 6)),kx 30 (.ld1 (some 6) (ux 29)),kx 31 (.call 100 [(ux 27),(ux 28),(ux 30)]),kf 32 (.call 99 [(ux 26),(ux 31)]),kx 7 (um 32)])
 (.seq (.regN [1,3,4,6,7,16,17,18] [
 kx 33 (um 4),kx 34 (um 33),kz 35 34 (um 7),kz 36 34 (.len false (ux 35)),kz 37 34 (um 3),kz 38 34 (.fldA 0 (ux 6)),kz 39 34 (.ld1 (some 6) (ux 38)),kz 40 34 (.ixA 1 (ux 37) (ux 39)),kz 41 34 (.ld1 none (ux 40)),kz 42 34 (.len false (ux 41)),kz 43 34 (.bini .gtr (ux 36) (ux 42)),kx 44 (.pick (ux 34) cT (ux 43)),kx 4 (um 44)])
 (.regN [1,3,4,6,7,16,17,18] [
 kx 45 (um 3),kx 46 (.fldA 0 (ux 6)),kx 47 (.ld1 (some 6) (ux 46)),kx 48 (um 7),kx 49 (.ixA 1 (ux 45) (ux 47)),kn (.st none 1 (ux 49) (ux 48))])))))
 (.regN [1,3,4,16,17,18] [
 kx 50 (.bini .add (ux 18) c1),kx 18 (um 50)]))))
def GY:AC:=(.seq (.seq (.regN [1,3,4] [
 kx 14 (um 4)])
 (.cond (ux 14)
 .skip
 (.exit 0)))
 (.block 1
 (.seq (.regN [1,3] [
 kx 4 (.mv cF)])
 (.seq (.regN [1,3,4] [
 kx 15 (.fldA 3 (ux 1)),kx 16 (.ld1 (some 1) (ux 15)),kx 17 (.len false (ux 16)),kx 18 (.mv c0)])
 (.block 2
 (.loop [1,3,4,16,17,18] GX))))))
def KZ:AC:=(.seq (.regN [0] [
 kx 1 (.boxR 4 (ux 0)),kx 2 (.mv (.con .e0))])
 (.seq (.seq (.regN [1] [
 kx 8 (.ldA (some 1) 4 (ux 1)),kx 9 (.call 48 [.tmp 8]),kx 10 (.bini .neq (ux 9) c0)])
 (.cond (ux 10)
 (.seq (.regN [] [
 kx 2 (.mv (.con .e0))])
 .ret)
 .skip))
 (.seq (.regN [1] [
 kx 11 (.fldA 1 (ux 1)),kx 12 (.ld1 (some 1) (ux 11)),kx 13 (.mks 1 24 [.e0] (ux 12)),kx 3 (um 13)])
 (.seq (.seq (.regN [1,3] [
 kx 4 (.mv cT)])
 (.block 0
 (.loop [1,3,4] GY)))
 (.seq (.regN [3] [
 kx 51 (um 3),kx 2 (um 51)])
 .ret)))))
def t83:AFn:=⟨1,KZ,
 [.tmp 2],true⟩
def wk:AC:=(.seq (.regN [1,3,7,12,13,14] [
 kx 15 (.bini .lss (ux 14) (ux 13))])
 (.seq (.cond (ux 15)
 .skip
 (.exit 0))
 (.seq (.block 1
 (.seq (.regN [1,3,7,12,13,14] [
 kx 16 (.ixA 1 (ux 12) (ux 14)),kx 17 (.ld1 none (ux 16)),kx 9 (um 17)])
 (.seq (.regN [1,3,7,9,12,13,14] [
 kx 18 (um 9),kx 19 (.cvi .u8 (ux 18)),kx 20 (.buildS 1 [(.val (.int .u8 0))] [(0,1,(ux 19))]),kx 21 (.b2s (ux 20)),kx 22 (.buildS 1 [(.val (.string ⟨#[]⟩))] [(0,1,(ux 21))]),kx 10 (um 22)])
 (.seq (.seq (.regN [1,3,7,9,10,12,13,14] [
 kx 23 (um 9),kx 24 (.fldA 0 (ux 3)),kx 25 (.ld1 (some 3) (ux 24)),kx 26 (.bini .geq (ux 23) (ux 25))])
 (.cond (ux 26)
 (.regN [1,3,7,9,12,13,14] [
 kx 27 (um 1),kx 28 (um 9),kx 29 (.fldA 0 (ux 3)),kx 30 (.ld1 (some 3) (ux 29)),kx 31 (.bini .sub (ux 28) (ux 30)),kx 32 (.ixA 1 (ux 27) (ux 31)),kx 33 (.ld1 none (ux 32)),kx 10 (um 33)])
 .skip))
 (.regN [1,3,7,10,12,13,14] [
 kx 34 (.fldA 2 (ux 3)),kx 35 (.ld1 (some 3) (ux 34)),kx 36 (um 7),kx 37 (um 10),kx 38 (.call 85 [(ux 35),(ux 36),(ux 37)]),kx 7 (um 38)])))))
 (.regN [1,3,7,12,13,14] [
 kx 39 (.bini .add (ux 14) c1),kx 14 (um 39)]))))
def B5:AC:=(.seq (.regN [0,1,2] [
 kx 3 (.boxR 4 (ux 0)),kx 6 (.mv (.con .e0))])
 (.seq (.regN [1,2,3] [
 kx 11 (.buildS 1 [(.val (.string ⟨#[]⟩))] [(0,1,(.con (.val (.string ⟨#[]⟩))))]),kx 7 (um 11)])
 (.seq (.seq (.regN [1,2,3,7] [
 kx 12 (um 2),kx 13 (.len false (ux 12)),kx 14 (.mv c0)])
 (.block 0
 (.loop [1,3,7,12,13,14] wk)))
 (.seq (.regN [7] [
 kx 40 (um 7),kx 6 (um 40)])
 .ret))))
def I4:AFn:=⟨3,B5,
 [.tmp 6],true⟩
def GZ:AC:=(.seq (.regN [0,2,7,9,19,20,21,37,38,39] [
 kx 40 (.bini .lss (ux 39) (ux 38))])
 (.seq (.cond (ux 40)
 .skip
 (.exit 2))
 (.seq (.block 3
 (.seq (.regN [0,2,7,9,19,20,21,37,38,39] [
 kx 41 (.ixA 1 (ux 37) (ux 39)),kx 42 (.ld1 none (ux 41)),kx 11 (um 42)])
 (.seq (.regN [0,2,7,9,11,19,20,21,37,38,39] [
 kx 43 (um 9),kx 44 (um 11),kx 45 (.bins .add (ux 43) (ux 44)),kx 12 (um 45)])
 (.regN [0,2,7,9,12,19,20,21,37,38,39] [
 kx 46 (um 7),kx 47 (um 12),kx 48 (um 0),kx 49 (um 12),kx 50 (.len true (ux 49)),kx 51 (.mm false [(ux 48),(ux 50)]),kx 52 (.slS (ux 47) none (some (ux 51))),kx 53 (.buildS 1 [(.val (.string ⟨#[]⟩))] [(0,1,(ux 52))]),kx 54 (.call 104 [(ux 46),(ux 53)])]))))
 (.regN [0,2,7,9,19,20,21,37,38,39] [
 kx 55 (.bini .add (ux 39) c1),kx 39 (um 55)]))))
def B6:AC:=(.seq (.regN [0,2,7,19,20,21] [
 kx 22 (.bini .lss (ux 21) (ux 20))])
 (.seq (.cond (ux 22)
 .skip
 (.exit 0))
 (.seq (.block 1
 (.seq (.regN [0,2,7,19,20,21] [
 kx 23 (.ixA 1 (ux 19) (ux 21)),kx 24 (.ld1 none (ux 23)),kx 9 (um 24)])
 (.seq (.seq (.regN [0,2,7,9,19,20,21] [
 kx 25 (um 0),kx 26 (um 9),kx 27 (.call 103 [(ux 25),(ux 26)])])
 (.cond (ux 27)
 (.seq (.regN [0,2,7,9,19,20,21] [
 kx 28 (um 7),kx 29 (um 9),kx 30 (um 0),kx 31 (um 9),kx 32 (.len true (ux 31)),kx 33 (.mm false [(ux 30),(ux 32)]),kx 34 (.slS (ux 29) none (some (ux 33))),kx 35 (.buildS 1 [(.val (.string ⟨#[]⟩))] [(0,1,(ux 34))]),kx 36 (.call 104 [(ux 28),(ux 35)])])
 (.exit 1))
 .skip))
 (.seq (.regN [0,2,7,9,19,20,21] [
 kx 37 (um 2),kx 38 (.len false (ux 37)),kx 39 (.mv c0)])
 (.block 2
 (.loop [0,2,7,9,19,20,21,37,38,39] GZ))))))
 (.regN [0,2,7,19,20,21] [
 kx 56 (.bini .add (ux 21) c1),kx 21 (um 56)]))))
def FE:AC:=(.seq (.regN [0,1,2] [
 kx 6 (.mv (.con .e0))])
 (.seq (.seq (.regN [0,1,2] [
 kx 13 (um 2),kx 14 (.len false (ux 13)),kx 15 (.bini .eql (ux 14) c0)])
 (.cond (ux 15)
 (.seq (.regN [] [
 kx 6 (.mv (.con .e0))])
 .ret)
 .skip))
 (.seq (.regN [0,1,2] [
 kx 16 (um 0),kx 17 (.mm true [c0,(ux 16)]),kx 0 (um 17)])
 (.seq (.regN [0,1,2] [
 kx 18 (.mkm),kx 7 (um 18)])
 (.seq (.seq (.regN [0,1,2,7] [
 kx 19 (um 1),kx 20 (.len false (ux 19)),kx 21 (.mv c0)])
 (.block 0
 (.loop [0,2,7,19,20,21] B6)))
 (.seq (.regN [7] [
 kx 57 (um 7),kx 58 (.call 105 [.tmp 57]),kx 6 (um 58)])
 .ret))))))
def t85:AFn:=⟨3,FE,
 [.tmp 6],true⟩
def G0:AC:=(.seq (.regN [0,1] [
 kx 4 (.mv cF)])
 (.seq (.regN [0,1] [
 kx 5 (um 1),kx 6 (.len true (ux 5)),kx 7 (um 0),kx 8 (.bini .geq (ux 6) (ux 7)),kx 9 (um 8),kz 10 9 (um 1),kz 11 9 (.bins .neq (ux 10) (.con (.val (.string ⟨#[]⟩)))),kz 12 9 (um 11),ky 13 12 (um 1),ky 14 12 (um 1),ky 15 12 (.len true (ux 14)),ky 16 12 (.bini .sub (ux 15) c1),ky 17 12 (.ixS (ux 13) (ux 16)),ky 18 12 (.bini .eql (ux 17) (.con (.val (.int .u8 255)))),kz 19 9 (.pick (ux 12) (ux 18) cF),kx 20 (.pick (ux 9) cT (ux 19)),kx 4 (um 20)])
 .ret))
def I5:AFn:=⟨2,G0,
 [.tmp 4],true⟩
def B7:AC:=(.seq (.regN [0,6,7,8] [
 kx 9 (.bini .lss (ux 8) (ux 7))])
 (.seq (.cond (ux 9)
 .skip
 (.exit 0))
 (.seq (.block 1
 (.seq (.regN [0,6,7,8] [
 kx 10 (.ixA 1 (ux 6) (ux 8)),kx 11 (.ld1 none (ux 10)),kx 5 (um 11)])
 (.regN [0,5,6,7,8] [
 kx 12 (um 0),kx 13 (um 5),kx 14 (.build [] []),kn (.mup false [2] (ux 12) (ux 13) (ux 14))])))
 (.regN [0,6,7,8] [
 kx 15 (.bini .add (ux 8) c1),kx 8 (um 15)]))))
def G3:AC:=(.seq (.regN [0,1] [
 kx 6 (um 1),kx 7 (.len false (ux 6)),kx 8 (.mv c0)])
 (.block 0
 (.loop [0,6,7,8] B7)))
def I6:AFn:=⟨2,G3,
 [],true⟩
def xM:AC:=(.seq (.regN [1,2,3,4,5,6,38,39,40] [
 kx 41 (.bini .lss (ux 40) (ux 39))])
 (.seq (.cond (ux 41)
 .skip
 (.exit 2))
 (.seq (.block 3
 (.seq (.regN [1,2,3,4,5,6,38,39,40] [
 kx 42 (.ixA 1 (ux 38) (ux 40)),kx 43 (.ld1 none (ux 42)),kx 9 (um 43)])
 (.seq (.regN [1,2,3,4,5,6,9,38,39,40] [
 kx 44 (.fldA 3 (ux 1)),kx 45 (.ld1 none (ux 44)),kx 46 (um 9),kx 47 (.ixA 2 (ux 45) (ux 46)),kx 48 (.fldA 1 (ux 47)),kx 49 (.ld1 none (ux 48)),kx 10 (.allocH [.e0]),kn (.st none 1 (ux 10) (ux 49))])
 (.seq (.regN [1,2,3,4,5,6,10,38,39,40] [
 kx 50 (.ld1 none (ux 10)),kx 51 (.call 64 [.tmp 50])])
 (.block 4
 (.rangeF [1,2,3,4,5,6,10,38,39,40,51] az (ux 51) [52,53]
 (.seq (.regN [1,3,4,5,6,10,52,53] [
 kx 11 (um 52)])
 (.regN [1,3,4,5,6,10,11,53] [
 kx 12 (um 53)]))
 (.block 5
 (.seq (.seq (.regN [1,3,4,5,6,10,11,12] [
 kx 54 (um 12),kx 55 (.fldA 0 (ux 1)),kx 56 (.ld1 none (ux 55)),kx 57 (.bini .lss (ux 54) (ux 56))])
 (.cond (ux 57)
 (.exit 5)
 .skip))
 (.seq (.regN [1,3,4,5,6,10,11,12] [
 kx 58 (um 12),kx 59 (.fldA 0 (ux 1)),kx 60 (.ld1 none (ux 59)),kx 61 (.bini .sub (ux 58) (ux 60)),kx 13 (um 61)])
 (.seq (.regD [1,3,4,5,6,10,11,13] 0 [
 kx 62 (.ld1 none (ux 4)),kx 63 (um 13),kx 64 (.ixA 1 (ux 62) (ux 63)),kx 65 (.ld1 none (ux 64)),kx 66 (.fldA 2 (ux 1)),kx 67 (.ld1 none (ux 66)),kx 68 (.ldA none 4 (ux 1)),kx 69 (.ld1 none (ux 3)),kx 70 (.ld1 none (ux 10)),kx 71 (um 11),kx 72 (.bini .add (ux 71) c1),kx 73 (.slC 1 (ux 70) (some (ux 72)) none),kx 74 (.call 86 [(ux 68),(ux 69),(ux 73)]),kx 75 (.ld1 none (ux 4)),kx 76 (.ld1 none (ux 6)),kx 77 (.ixA 1 (ux 75) (ux 76)),kx 78 (.ld1 none (ux 77)),kx 79 (.call 85 [(ux 67),(ux 74),(ux 78)]),kf 80 (.call 99 [(ux 65),(ux 79)]),kx 14 (um 80)])
 (.seq (.regN [4,5,13,14] [
 kx 81 (um 14),kx 82 (.len false (ux 81)),kx 83 (.ld1 none (ux 4)),kx 84 (um 13),kx 85 (.ixA 1 (ux 83) (ux 84)),kx 86 (.ld1 none (ux 85)),kx 87 (.len false (ux 86)),kx 88 (.bini .gtr (ux 82) (ux 87))])
 (.cond (ux 88)
 (.seq (.regN [4,5,13,14] [
 kx 89 (.ld1 none (ux 4)),kx 90 (um 13),kx 91 (um 14),kx 92 (.ixA 1 (ux 89) (ux 90)),kn (.st none 1 (ux 92) (ux 91))])
 (.regN [5,13] [
 kx 93 (um 13),kx 94 (.call 101 [(ux 5),(ux 93)])]))
 .skip))))))))))))
 (.regN [1,2,3,4,5,6,38,39,40] [
 kx 95 (.bini .add (ux 40) c1),kx 40 (um 95)]))))
def B8:AC:=(.seq (.seq (.regN [1,2,3,4,5,6,7] [
 kx 31 (um 7)])
 (.cond (ux 31)
 .skip
 (.exit 0)))
 (.seq (.block 1
 (.seq (.regN [1,2,3,4,5,6] [
 kx 36 (.ldA none 4 (ux 1)),kx 37 (.ld1 none (ux 6)),kx 38 (.call 53 [(ux 36),(ux 37)]),kx 39 (.len false (ux 38)),kx 40 (.mv c0)])
 (.block 2
 (.loop [1,2,3,4,5,6,38,39,40] xM))))
 (.seq (.seq (.regN [1,2,3,4,5,6] [
 kx 96 (.ld1 none (ux 6))])
 (.regN [1,2,3,4,5,96] [
 kx 6 (.allocH [(.val (.int .i64 0))]),kn (.st none 1 (ux 6) (ux 96))]))
 (.regN [1,2,3,4,5,6] [
 kx 33 (.call 102 [.tmp 5]),kx 32 (um 33),kx 34 (.ext (ux 32) 0),kx 35 (.ext (ux 32) 1),kn (.st none 1 (ux 6) (ux 34)),kx 7 (um 35)]))))
def K0:AC:=(.seq (.regN [0] [
 kx 1 (.boxH 4 (ux 0)),kx 2 (.mv (.con .e0))])
 (.seq (.seq (.regN [1,2] [
 kx 15 (.ldA none 4 (ux 1)),kx 16 (.call 48 [.tmp 15]),kx 17 (.bini .neq (ux 16) c0)])
 (.cond (ux 17)
 (.seq (.regN [] [
 kx 2 (.mv (.con .e0))])
 .ret)
 .skip))
 (.seq (.regN [1,2] [
 kx 18 (.ldA none 4 (ux 1)),kx 19 (.call 83 [.tmp 18]),kx 3 (.allocH [.e0]),kn (.st none 1 (ux 3) (ux 19))])
 (.seq (.regN [1,2,3] [
 kx 20 (.fldA 1 (ux 1)),kx 21 (.ld1 none (ux 20)),kx 22 (.mks 1 24 [.e0] (ux 21)),kx 4 (.allocH [.e0]),kn (.st none 1 (ux 4) (ux 22))])
 (.seq (.regN [1,2,3,4] [
 kx 23 (.ld1 none (ux 4)),kx 24 (.buildS 1 [(.val (.string ⟨#[]⟩))] [(0,1,(.con (.val (.string ⟨#[255]⟩))))]),kx 25 (.ixA 1 (ux 23) c0),kn (.st none 1 (ux 25) (ux 24))])
 (.seq (.regN [1,2,3,4] [
 kx 5 (.allocH [.e0,(.val (.bool false)),(.val (.bool false)),(.val (.bool false)),(.val (.bool false)),(.val (.bool false)),(.val (.bool false)),(.val (.bool false)),(.val (.bool false)),(.val (.bool false)),(.val (.bool false)),(.val (.bool false)),(.val (.bool false)),(.val (.bool false)),(.val (.bool false)),(.val (.bool false)),(.val (.bool false))])])
 (.seq (.regN [1,2,3,4,5] [
 kx 26 (.call 101 [(ux 5),c0])])
 (.seq (.seq (.regN [1,2,3,4,5] [
 kx 28 (.call 102 [.tmp 5]),kx 27 (um 28),kx 29 (.ext (ux 27) 0),kx 30 (.ext (ux 27) 1),kx 6 (.allocH [(.val (.int .i64 0))]),kn (.st none 1 (ux 6) (ux 29)),kx 7 (um 30)])
 (.block 0
 (.loop [1,2,3,4,5,6,7] B8)))
 (.seq (.regN [4] [
 kx 97 (.ld1 none (ux 4)),kx 2 (um 97)])
 .ret)))))))))
def t84:AFn:=⟨1,K0,
 [.tmp 2],true⟩
def B9:AC:=(.seq (.regN [0,1] [
 kx 4 (um 0),kx 5 (um 1),kx 6 (.nilc (ux 4)),kx 7 (.fldA 1 (ux 6)),kx 8 (.ixR 16 1 (ux 7) (ux 5)),kx 9 (.ld1 none (ux 8)),kx 10 (.not (ux 9))])
 (.cond (ux 10)
 (.seq (.regN [0,1] [
 kx 11 (um 0),kx 12 (um 1),kx 13 (.nilc (ux 11)),kx 14 (.fldA 1 (ux 13)),kx 15 (.ixR 16 1 (ux 14) (ux 12)),kn (.st none 1 (ux 15) cT)])
 (.regN [0,1] [
 kx 16 (um 0),kx 17 (um 0),kx 18 (.nilc (ux 17)),kx 19 (.fldA 0 (ux 18)),kx 20 (.ld1 none (ux 19)),kx 21 (um 1),kx 22 (.buildS 1 [(.val (.int .i64 0))] [(0,1,(ux 21))]),kx 23 (.app 1 8 (ux 20) (ux 22)),kx 24 (.nilc (ux 16)),kx 25 (.fldA 0 (ux 24)),kn (.st none 1 (ux 25) (ux 23))]))
 .skip))
def I7:AFn:=⟨2,B9,
 [],false⟩
def G4:AC:=(.seq (.regN [0] [
 kx 2 (.mv c0),kx 3 (.mv cF)])
 (.seq (.seq (.regN [0] [
 kx 5 (um 0),kx 6 (.nilc (ux 5)),kx 7 (.fldA 0 (ux 6)),kx 8 (.ld1 none (ux 7)),kx 9 (.len false (ux 8)),kx 10 (.bini .eql (ux 9) c0)])
 (.cond (ux 10)
 (.seq (.regN [] [
 kx 2 (.mv c0),kx 3 (.mv cF)])
 .ret)
 .skip))
 (.seq (.regN [0] [
 kx 11 (um 0),kx 12 (.nilc (ux 11)),kx 13 (.fldA 0 (ux 12)),kx 14 (.ld1 none (ux 13)),kx 15 (.ixA 1 (ux 14) c0),kx 16 (.ld1 none (ux 15)),kx 4 (um 16)])
 (.seq (.regD [0,4] 0 [
 kx 17 (um 0),kx 18 (um 0),kx 19 (um 4),kx 20 (um 0),kx 21 (.nilc (ux 20)),kx 22 (.fldA 0 (ux 21)),kx 23 (.ld1 none (ux 22)),kx 24 (.slC 1 (ux 23) (some c1) none),kx 25 (.nilc (ux 17)),kx 26 (.fldA 0 (ux 25)),kn (.st none 1 (ux 26) (ux 24)),kx 27 (.nilc (ux 18)),kx 28 (.fldA 1 (ux 27)),kx 29 (.ixR 16 1 (ux 28) (ux 19)),kn (.st none 1 (ux 29) cF)])
 (.seq (.regN [4] [
 kx 30 (um 4),kx 2 (um 30),kx 3 (.mv cT)])
 .ret)))))
def I8:AFn:=⟨1,G4,
 [.tmp 2,.tmp 3],false⟩
def Ca:AC:=(.seq (.regN [1,4,11,12,13] [
 kx 14 (.bini .lss (ux 13) (ux 12))])
 (.seq (.cond (ux 14)
 .skip
 (.exit 0))
 (.seq (.block 1
 (.seq (.regN [1,4,11,12,13] [
 kx 15 (um 13),kx 16 (.ixA 2 (ux 11) (ux 13)),kx 17 (.ldA none 2 (ux 16)),kx 6 (.allocR [(.val (.int .i64 0)),.e0]),kx 5 (um 15),kn (.st (some 6) 2 (ux 6) (ux 17))])
 (.seq (.regN [1,4,5,6,11,12,13] [
 kx 18 (.fldA 0 (ux 6)),kx 19 (.ld1 (some 6) (ux 18)),kx 20 (um 1),kx 21 (.bini .eql (ux 19) (ux 20))])
 (.cond (ux 21)
 (.regN [1,4,5,11,12,13] [
 kx 22 (um 4),kx 23 (um 5),kx 24 (.buildS 1 [(.val (.int .i64 0))] [(0,1,(ux 23))]),kx 25 (.app 1 8 (ux 22) (ux 24)),kx 4 (um 25)])
 .skip))))
 (.regN [1,4,11,12,13] [
 kx 26 (.bini .add (ux 13) c1),kx 13 (um 26)]))))
def I9:AC:=(.seq (.regN [0,1] [
 kx 2 (.boxR 4 (ux 0)),kx 4 (.mv (.con .e0))])
 (.seq (.seq (.regN [1,2,4] [
 kx 7 (.ldA (some 2) 4 (ux 2)),kx 8 (.call 48 [.tmp 7]),kx 9 (.bini .neq (ux 8) c0)])
 (.cond (ux 9)
 (.seq (.regN [] [
 kx 4 (.mv (.con .e0))])
 .ret)
 .skip))
 (.seq (.seq (.regN [1,2,4] [
 kx 10 (.fldA 3 (ux 2)),kx 11 (.ld1 (some 2) (ux 10)),kx 12 (.len false (ux 11)),kx 13 (.mv c0)])
 (.block 0
 (.loop [1,4,11,12,13] Ca)))
 (.seq (.regN [4] [
 kx 27 (um 4),kx 4 (um 27)])
 .ret))))
def t53:AFn:=⟨2,I9,
 [.tmp 4],true⟩
def K1:AC:=(.seq (.regN [0] [
 kx 1 (.boxH 1 (ux 0)),kx 2 (.mv (.con (.val .nilFunc)))])
 (.seq (.regN [1] [
 kx 3 (.mkf 90 [.tmp 1]),kx 2 (um 3)])
 .ret))
def t64:AFn:=⟨1,K1,
 [.tmp 2],true⟩
def K3:AC:=(.seq (.seq (.regN [0,1,3] [
 kx 7 (um 3),kx 8 (.bini .geq (ux 7) c0)])
 (.cond (ux 8)
 .skip
 (.exit 0)))
 (.seq (.block 1
 (.seq (.regN [0,1,3] [
 kx 11 (um 0),kx 12 (um 3),kx 13 (.ld1 none (ux 1)),kx 14 (um 3),kx 15 (.ixA 1 (ux 13) (ux 14)),kx 16 (.ld1 none (ux 15)),kx 17 (.callv (ux 11) [(ux 12),(ux 16)]),kx 18 (.not (ux 17))])
 (.cond (ux 18)
 .ret
 .skip)))
 (.regN [0,1,3] [
 kx 9 (um 3),kx 10 (.bini .sub (ux 9) c1),kx 3 (um 10)])))
def Mk:AC:=(.seq (.regN [0,1] [
 kx 4 (.ld1 none (ux 1)),kx 5 (.len false (ux 4)),kx 6 (.bini .sub (ux 5) c1),kx 3 (um 6)])
 (.block 0
 (.loop [0,1,3] K3)))
def t90:AFn:=⟨2,Mk,
 [],true⟩
def K4:AC:=(.seq (.regN [0,1,2] [
 kx 3 (.boxH 4 (ux 0)),kx 6 (.mv (.con .e0))])
 (.seq (.seq (.regN [1,2,3] [
 kx 7 (.ldA none 4 (ux 3)),kx 8 (.call 48 [.tmp 7]),kx 9 (.bini .neq (ux 8) c0),kx 10 (um 9),kz 11 10 (um 1),kz 12 10 (.len false (ux 11)),kz 13 10 (.fldA 1 (ux 3)),kz 14 10 (.ld1 none (ux 13)),kz 15 10 (.bini .neq (ux 12) (ux 14)),kx 16 (.pick (ux 10) cT (ux 15)),kx 17 (um 16),kz 18 17 (um 2),kz 19 17 (.mkf 106 [.tmp 3]),kz 20 17 (.call 72 [(ux 18),(ux 19)]),kx 21 (.pick (ux 17) cT (ux 20))])
 (.cond (ux 21)
 (.seq (.regN [] [
 kx 6 (.mv (.con .e0))])
 .ret)
 .skip))
 (.seq (.regN [1,2,3] [
 kx 22 (.ldA none 4 (ux 3)),kx 23 (um 1),kx 24 (um 2),kx 25 (.call 100 [(ux 22),(ux 23),(ux 24)]),kx 6 (um 25)])
 .ret)))
def t86:AFn:=⟨3,K4,
 [.tmp 6],true⟩
def G5:AC:=(.seq (.regN [0,1] [
 kx 3 (.mv cF)])
 (.seq (.regN [0,1] [
 kx 4 (um 0),kx 5 (.bini .lss (ux 4) c0),kx 6 (um 5),kz 7 6 (um 0),kz 8 6 (.fldA 0 (ux 1)),kz 9 6 (.ld1 none (ux 8)),kz 10 6 (.fldA 1 (ux 1)),kz 11 6 (.ld1 none (ux 10)),kz 12 6 (.bini .add (ux 9) (ux 11)),kz 13 6 (.bini .geq (ux 7) (ux 12)),kx 14 (.pick (ux 6) cT (ux 13)),kx 3 (um 14)])
 .ret))
def Ja:AFn:=⟨2,G5,
 [.tmp 3],true⟩
def Cb:AC:=(.seq (.regN [1,3,4,13,14,15] [
 kx 16 (.bini .lss (ux 15) (ux 14))])
 (.seq (.cond (ux 16)
 .skip
 (.exit 0))
 (.seq (.block 1
 (.seq (.regN [1,3,4,13,14,15] [
 kx 17 (.ixA 2 (ux 13) (ux 15)),kx 18 (.ldA none 2 (ux 17)),kx 6 (.allocR [(.val (.int .i64 0)),.e0]),kn (.st (some 6) 2 (ux 6) (ux 18))])
 (.regN [1,3,4,6,13,14,15] [
 kx 19 (um 4),kx 20 (.fldA 1 (ux 6)),kx 21 (.ld1 (some 6) (ux 20)),kx 22 (.len false (ux 21)),kx 23 (.mm true [(ux 19),(ux 22)]),kx 4 (um 23)])))
 (.regN [1,3,4,13,14,15] [
 kx 24 (.bini .add (ux 15) c1),kx 15 (um 24)]))))
def K5:AC:=(.seq (.regN [0] [
 kx 1 (.boxR 4 (ux 0)),kx 2 (.mv c0)])
 (.seq (.regN [1] [
 kx 7 (.ldA (some 1) 4 (ux 1)),kx 8 (.call 15 [.tmp 7]),kx 3 (um 8)])
 (.seq (.seq (.regN [1,3] [
 kx 9 (um 3),kx 10 (.len false (ux 9)),kx 11 (.bini .eql (ux 10) c0)])
 (.cond (ux 11)
 (.seq (.regN [] [
 kx 2 (.mv c0)])
 .ret)
 .skip))
 (.seq (.regN [1,3] [
 kx 4 (.mv c0)])
 (.seq (.seq (.regN [1,3,4] [
 kx 12 (.fldA 3 (ux 1)),kx 13 (.ld1 (some 1) (ux 12)),kx 14 (.len false (ux 13)),kx 15 (.mv c0)])
 (.block 0
 (.loop [1,3,4,13,14,15] Cb)))
 (.seq (.regD [1,3,4] 0 [
 kx 25 (um 3),kf 26 (.call 36 [.tmp 25]),kx 27 (um 4),kx 28 (.ldA (some 1) 4 (ux 1)),kf 29 (.call 14 [.tmp 28]),kf 30 (.call 36 [.tmp 29]),kx 31 (.mm true [c0,(ux 30)]),kx 32 (.bini .mul (ux 27) (ux 31)),kx 33 (.bini .add c1 (ux 32)),kx 34 (.bini .mul (ux 26) (ux 33)),kx 35 (.bini .add (ux 34) c1),kx 2 (um 35)])
 .ret))))))
def t16:AFn:=⟨1,K5,
 [.tmp 2],true⟩
def Cc:AC:=(.seq (.regN [3,4,14,16,17] [
 kx 18 (.bini .lss (ux 17) (ux 16))])
 (.seq (.cond (ux 18)
 .skip
 (.exit 0))
 (.seq (.block 1
 (.seq (.regN [3,4,14,16,17] [
 kx 19 (um 17),kx 5 (um 19)])
 (.regN [3,4,5,14,16,17] [
 kx 20 (um 4),kx 21 (um 3),kx 22 (um 5),kx 23 (.call 35 [(ux 21),(ux 22)]),kx 24 (.buildS 1 [(.val (.int .i64 0))] [(0,1,(ux 23))]),kx 25 (.app 1 8 (ux 20) (ux 24)),kx 4 (um 25)])))
 (.regN [3,4,14,16,17] [
 kx 26 (.bini .add (ux 17) c1),kx 17 (um 26)]))))
def K6:AC:=(.seq (.regN [0] [
 kx 1 (.boxR 4 (ux 0)),kx 2 (.mv (.con .e0))])
 (.seq (.seq (.regN [1] [
 kx 6 (.ldA (some 1) 4 (ux 1)),kx 7 (.call 31 [.tmp 6]),kx 8 (.bini .neq (ux 7) c0)])
 (.cond (ux 8)
 (.seq (.regN [] [
 kx 2 (.mv (.con .e0))])
 .ret)
 .skip))
 (.seq (.regD [1] 2 [
 kx 9 (.ldA (some 1) 4 (ux 1)),kx 10 (.ldA (some 1) 4 (ux 1)),kx 11 (.call 34 [.tmp 10]),kx 12 (.mkm),kx 13 (.build [(.val (.int .i64 0)),(.val (.int .i64 0)),(.val (.int .i64 0)),.e0,.e0,(.val (.map none))] [(0,4,(ux 9)),(4,1,(ux 11)),(5,1,(ux 12))]),⟨some 14,none,.boxH 6 (ux 13),1,false⟩,kx 3 (um 14)])
 (.seq (.regN [1,3,14] [
 kx 4 (.mv (.con .e0))])
 (.seq (.seq (.regN [1,3,4,14] [
 kx 15 (.fldA 1 (ux 1)),kx 16 (.ld1 (some 1) (ux 15)),kx 17 (.mv c0)])
 (.block 0
 (.loop [3,4,14,16,17] Cc)))
 (.seq (.regN [4] [
 kx 27 (um 4),kx 2 (um 27)])
 .ret))))))
def t15:AFn:=⟨1,K6,
 [.tmp 2],true⟩
def Cd:AC:=(.seq (.regN [0,1,7,28,29,30,42,43,44] [
 kx 45 (.bini .lss (ux 44) (ux 43))])
 (.seq (.cond (ux 45)
 .skip
 (.exit 2))
 (.seq (.block 3
 (.seq (.regN [0,1,7,28,29,30,42,43,44] [
 kx 46 (.ixA 1 (ux 42) (ux 44)),kx 47 (.ld1 none (ux 46)),kx 11 (um 47)])
 (.seq (.seq (.regN [0,1,7,11,28,29,30,42,43,44] [
 kx 48 (um 11),kx 49 (um 0),kx 50 (.nilc (ux 49)),kx 51 (.fldA 0 (ux 50)),kx 52 (.fldA 0 (ux 51)),kx 53 (.ld1 none (ux 52)),kx 54 (.bini .lss (ux 48) (ux 53))])
 (.cond (ux 54)
 (.exit 2)
 .skip))
 (.seq (.regN [0,1,7,11,28,29,30,42,43,44] [
 kx 55 (um 7),kx 56 (um 0),kx 57 (um 11),kx 58 (um 0),kx 59 (.nilc (ux 58)),kx 60 (.fldA 0 (ux 59)),kx 61 (.fldA 0 (ux 60)),kx 62 (.ld1 none (ux 61)),kx 63 (.bini .sub (ux 57) (ux 62)),kx 64 (.call 35 [(ux 56),(ux 63)]),kx 65 (.mm true [(ux 55),(ux 64)]),kx 7 (um 65)])
 (.seq (.regD [0,1,7,11,28,29,30,42,43,44] 0 [
 kx 66 (um 0),kx 67 (.nilc (ux 66)),kx 68 (.fldA 4 (ux 67)),kx 69 (.ld1 none (ux 68)),kx 70 (um 11),kx 71 (um 0),kx 72 (.nilc (ux 71)),kx 73 (.fldA 0 (ux 72)),kx 74 (.fldA 0 (ux 73)),kx 75 (.ld1 none (ux 74)),kx 76 (.bini .sub (ux 70) (ux 75)),kx 77 (.ixA 1 (ux 69) (ux 76)),kx 78 (.ld1 none (ux 77)),kx 79 (.not (ux 78))])
 (.cond (ux 79)
 (.exit 2)
 .skip))))))
 (.regN [0,1,7,28,29,30,42,43,44] [
 kx 80 (.bini .add (ux 44) c1),kx 44 (um 80)]))))
def Ce:AC:=(.seq (.regN [0,1,7,28,29,30] [
 kx 31 (.bini .lss (ux 30) (ux 29))])
 (.seq (.cond (ux 31)
 .skip
 (.exit 0))
 (.seq (.block 1
 (.seq (.regN [0,1,7,28,29,30] [
 kx 32 (.ixA 1 (ux 28) (ux 30)),kx 33 (.ld1 none (ux 32)),kx 9 (um 33)])
 (.seq (.regN [0,1,7,9,28,29,30] [
 kx 34 (um 0),kx 35 (.nilc (ux 34)),kx 36 (.fldA 0 (ux 35)),kx 37 (.fldA 3 (ux 36)),kx 38 (.ld1 none (ux 37)),kx 39 (um 9),kx 40 (.ixA 2 (ux 38) (ux 39)),kx 41 (.fldA 1 (ux 40)),kx 42 (.ld1 none (ux 41)),kx 43 (.len false (ux 42)),kx 44 (.mv c0)])
 (.block 2
 (.loop [0,1,7,28,29,30,42,43,44] Cd)))))
 (.regN [0,1,7,28,29,30] [
 kx 81 (.bini .add (ux 30) c1),kx 30 (um 81)]))))
def Jb:AC:=(.seq (.regN [0,1] [
 kx 4 (.mv c0)])
 (.seq (.seq (.regN [0,1] [
 kx 13 (um 0),kx 14 (.nilc (ux 13)),kx 15 (.fldA 5 (ux 14)),kx 16 (.ld1 none (ux 15)),kx 17 (um 1),kx 18 (.mlk false [1] (.val (.int .i64 0)) true (ux 16) (ux 17)),kx 12 (um 18),kx 19 (.ext (ux 12) 0),kx 20 (.ext (ux 12) 1),kx 5 (um 19),kx 6 (um 20)])
 (.seq (.regN [0,1,5,6] [
 kx 21 (um 6)])
 (.cond (ux 21)
 (.seq (.regN [5] [
 kx 22 (um 5),kx 4 (um 22)])
 .ret)
 .skip)))
 (.seq (.regN [0,1] [
 kx 7 (.mv c0)])
 (.seq (.seq (.regN [0,1,7] [
 kx 23 (um 0),kx 24 (.nilc (ux 23)),kx 25 (.fldA 0 (ux 24)),kx 26 (.ldA none 4 (ux 25)),kx 27 (um 1),kx 28 (.call 53 [(ux 26),(ux 27)]),kx 29 (.len false (ux 28)),kx 30 (.mv c0)])
 (.block 0
 (.loop [0,1,7,28,29,30] Ce)))
 (.seq (.regN [0,1,7] [
 kx 82 (um 0),kx 83 (.nilc (ux 82)),kx 84 (.fldA 5 (ux 83)),kx 85 (.ld1 none (ux 84)),kx 86 (um 1),kx 87 (um 7),kx 88 (.bini .add (ux 87) c1),kn (.mup false [1] (ux 85) (ux 86) (ux 88))])
 (.seq (.regN [7] [
 kx 89 (um 7),kx 90 (.bini .add (ux 89) c1),kx 4 (um 90)])
 .ret))))))
def t35:AFn:=⟨2,Jb,
 [.tmp 4],false⟩
def G6:AC:=(.seq (.seq (.regN [0,3,4] [
 kx 12 (um 4),kx 13 (um 0),kx 14 (.len false (ux 13)),kx 15 (.bini .lss (ux 12) (ux 14))])
 (.cond (ux 15)
 .skip
 (.exit 0)))
 (.seq (.block 1
 (.regN [0,3,4] [
 kx 18 (um 3),kx 19 (um 0),kx 20 (um 4),kx 21 (.ixA 1 (ux 19) (ux 20)),kx 22 (.ld1 none (ux 21)),kx 23 (.mm true [(ux 18),(ux 22)]),kx 3 (um 23)]))
 (.regN [0,3,4] [
 kx 16 (um 4),kx 17 (.bini .add (ux 16) c1),kx 4 (um 17)])))
def K7:AC:=(.seq (.regN [0] [
 kx 2 (.mv c0)])
 (.seq (.seq (.regN [0] [
 kx 5 (um 0),kx 6 (.len false (ux 5)),kx 7 (.bini .lss (ux 6) c1)])
 (.cond (ux 7)
 (.regN [0] [
 kx 8 (.bad),kn (.bad)])
 .skip))
 (.seq (.regN [0] [
 kx 9 (um 0),kx 10 (.ixA 1 (ux 9) c0),kx 11 (.ld1 none (ux 10)),kx 3 (um 11)])
 (.seq (.seq (.regN [0,3] [
 kx 4 (.mv c1)])
 (.block 0
 (.loop [0,3,4] G6)))
 (.seq (.regN [3] [
 kx 24 (um 3),kx 2 (um 24)])
 .ret)))))
def t36:AFn:=⟨1,K7,
 [.tmp 2],true⟩
def Cf:AC:=(.seq (.regN [1,3,4,18,19,20] [
 kx 21 (.bini .lss (ux 20) (ux 19))])
 (.seq (.cond (ux 21)
 .skip
 (.exit 2))
 (.seq (.block 3
 (.seq (.regN [1,3,4,18,19,20] [
 kx 22 (.ixA 2 (ux 18) (ux 20)),kx 23 (.ldA none 2 (ux 22)),kx 6 (.allocR [(.val (.int .i64 0)),.e0]),kn (.st (some 6) 2 (ux 6) (ux 23))])
 (.seq (.regN [1,3,4,6,18,19,20] [
 kx 25 (.ldA (some 1) 4 (ux 1)),kx 26 (um 3),kx 27 (.fldA 1 (ux 6)),kx 28 (.ld1 (some 6) (ux 27)),kx 29 (.call 33 [(ux 25),(ux 26),(ux 28)]),kx 24 (um 29),kx 30 (.ext (ux 24) 0),kx 31 (.ext (ux 24) 1),kx 7 (um 30),kx 8 (um 31)])
 (.seq (.regN [1,3,4,6,7,8,18,19,20] [
 kx 32 (um 8),kx 33 (um 32),ky 34 33 (um 3),ky 35 33 (.fldA 0 (ux 6)),ky 36 33 (.ld1 (some 6) (ux 35)),ky 37 33 (.ixA 1 (ux 34) (ux 36)),ky 38 33 (.ld1 none (ux 37)),ky 39 33 (.bini .lss (ux 38) c0),ky 40 33 (um 39),kz 41 40 (um 7),kz 42 40 (.bini .add (ux 41) c1),kz 43 40 (um 3),kz 44 40 (.fldA 0 (ux 6)),kz 45 40 (.ld1 (some 6) (ux 44)),kz 46 40 (.ixA 1 (ux 43) (ux 45)),kz 47 40 (.ld1 none (ux 46)),kz 48 40 (.bini .lss (ux 42) (ux 47)),ky 49 33 (.pick (ux 40) cT (ux 48)),kx 50 (.pick (ux 33) (ux 49) cF)])
 (.cond (ux 50)
 (.regN [1,3,6,7,18,19,20] [
 kx 51 (um 3),kx 52 (.fldA 0 (ux 6)),kx 53 (.ld1 (some 6) (ux 52)),kx 54 (um 7),kx 55 (.bini .add (ux 54) c1),kx 56 (.ixA 1 (ux 51) (ux 53)),kn (.st none 1 (ux 56) (ux 55)),kx 4 (.mv cT)])
 .skip)))))
 (.regN [1,3,4,18,19,20] [
 kx 57 (.bini .add (ux 20) c1),kx 20 (um 57)]))))
def Cg:AC:=(.seq (.seq (.regN [1,3,4] [
 kx 16 (um 4)])
 (.cond (ux 16)
 .skip
 (.exit 0)))
 (.block 1
 (.seq (.regN [1,3] [
 kx 4 (.mv cF)])
 (.seq (.regN [1,3,4] [
 kx 17 (.fldA 3 (ux 1)),kx 18 (.ld1 (some 1) (ux 17)),kx 19 (.len false (ux 18)),kx 20 (.mv c0)])
 (.block 2
 (.loop [1,3,4,18,19,20] Cf))))))
def K8:AC:=(.seq (.regN [0] [
 kx 1 (.boxR 4 (ux 0)),kx 2 (.mv (.con .e0))])
 (.seq (.seq (.regN [1] [
 kx 9 (.ldA (some 1) 4 (ux 1)),kx 10 (.call 31 [.tmp 9]),kx 11 (.bini .neq (ux 10) c0)])
 (.cond (ux 11)
 (.seq (.regN [] [
 kx 2 (.mv (.con .e0))])
 .ret)
 .skip))
 (.seq (.regN [1] [
 kx 12 (.buildS 1 [(.val (.int .i64 0))] [(0,1,(.con (.val (.int .i64 (-1)))))]),kx 13 (.fldA 1 (ux 1)),kx 14 (.ld1 (some 1) (ux 13)),kx 15 (.call 32 [(ux 12),(ux 14)]),kx 3 (um 15)])
 (.seq (.seq (.regN [1,3] [
 kx 4 (.mv cT)])
 (.block 0
 (.loop [1,3,4] Cg)))
 (.seq (.regN [3] [
 kx 58 (um 3),kx 2 (um 58)])
 .ret)))))
def t14:AFn:=⟨1,K8,
 [.tmp 2],true⟩
def G7:AC:=(.seq (.regN [1,3,8,11,12,13] [
 kx 14 (.bini .lss (ux 13) (ux 12))])
 (.seq (.cond (ux 14)
 .skip
 (.exit 0))
 (.seq (.block 1
 (.seq (.regN [1,3,8,11,12,13] [
 kx 15 (.ixA 1 (ux 11) (ux 13)),kx 16 (.ld1 none (ux 15)),kx 10 (um 16)])
 (.seq (.seq (.regN [1,3,8,10,11,12,13] [
 kx 17 (um 10),kx 18 (.fldA 0 (ux 3)),kx 19 (.ld1 (some 3) (ux 18)),kx 20 (.bini .lss (ux 17) (ux 19)),kx 21 (um 20),kz 22 21 (um 1),kz 23 21 (um 10),kz 24 21 (.fldA 0 (ux 3)),kz 25 21 (.ld1 (some 3) (ux 24)),kz 26 21 (.bini .sub (ux 23) (ux 25)),kz 27 21 (.ixA 1 (ux 22) (ux 26)),kz 28 21 (.ld1 none (ux 27)),kz 29 21 (.bini .lss (ux 28) c0),kx 30 (.pick (ux 21) cT (ux 29))])
 (.cond (ux 30)
 (.seq (.regN [] [
 kx 6 (.mv c0),kx 7 (.mv cF)])
 .ret)
 .skip))
 (.regN [1,3,8,10,11,12,13] [
 kx 31 (um 8),kx 32 (um 1),kx 33 (um 10),kx 34 (.fldA 0 (ux 3)),kx 35 (.ld1 (some 3) (ux 34)),kx 36 (.bini .sub (ux 33) (ux 35)),kx 37 (.ixA 1 (ux 32) (ux 36)),kx 38 (.ld1 none (ux 37)),kx 39 (.bini .add (ux 31) (ux 38)),kx 8 (um 39)]))))
 (.regN [1,3,8,11,12,13] [
 kx 40 (.bini .add (ux 13) c1),kx 13 (um 40)]))))
def K9:AC:=(.seq (.regN [0,1,2] [
 kx 3 (.boxR 4 (ux 0)),kx 6 (.mv c0),kx 7 (.mv cF)])
 (.seq (.regN [1,2,3] [
 kx 8 (.mv c0)])
 (.seq (.seq (.regN [1,2,3,8] [
 kx 11 (um 2),kx 12 (.len false (ux 11)),kx 13 (.mv c0)])
 (.block 0
 (.loop [1,3,8,11,12,13] G7)))
 (.seq (.regN [8] [
 kx 41 (um 8),kx 6 (um 41),kx 7 (.mv cT)])
 .ret))))
def t33:AFn:=⟨3,K9,
 [.tmp 6,.tmp 7],true⟩
def La:AC:=(.seq (.regN [0,1] [
 kx 2 (.boxR 1 (ux 0)),kx 3 (.boxR 1 (ux 1)),kx 4 (.mv cF)])
 (.seq (.regN [2,3] [
 kx 5 (.fldA 0 (ux 2)),kx 6 (.ld1 (some 2) (ux 5)),kx 7 (.fldA 0 (ux 3)),kx 8 (.ld1 (some 3) (ux 7)),kx 9 (.call 61 [(ux 6),(ux 8),(.con (.fn 62 []))]),kx 4 (um 9)])
 .ret))
def t44:AFn:=⟨2,La,
 [.tmp 4],true⟩
def Ch:AC:=(.seq (.regN [1,2,15,16,17] [
 kx 18 (.bini .lss (ux 17) (ux 16))])
 (.seq (.cond (ux 18)
 .skip
 (.exit 0))
 (.seq (.block 1
 (.seq (.regN [1,2,15,16,17] [
 kx 19 (um 17),kx 20 (.ixA 1 (ux 15) (ux 17)),kx 21 (.ld1 none (ux 20)),kx 7 (um 19),kx 8 (um 21)])
 (.seq (.regN [1,2,7,8,15,16,17] [
 kx 22 (um 1),kx 23 (um 7),kx 24 (.ixA 1 (ux 22) (ux 23)),kx 25 (.ld1 none (ux 24)),kx 9 (um 25)])
 (.seq (.regN [1,2,8,9,15,16,17] [
 kx 26 (um 2),kx 27 (um 8),kx 28 (um 9),kx 29 (.callv (ux 26) [(ux 27),(ux 28)]),kx 30 (.not (ux 29))])
 (.cond (ux 30)
 (.seq (.regN [] [
 kx 6 (.mv cF)])
 .ret)
 .skip)))))
 (.regN [1,2,15,16,17] [
 kx 31 (.bini .add (ux 17) c1),kx 17 (um 31)]))))
def Lb:AC:=(.seq (.regN [0,1,2] [
 kx 6 (.mv cF)])
 (.seq (.seq (.regN [0,1,2] [
 kx 10 (um 0),kx 11 (.len false (ux 10)),kx 12 (um 1),kx 13 (.len false (ux 12)),kx 14 (.bini .neq (ux 11) (ux 13))])
 (.cond (ux 14)
 (.seq (.regN [] [
 kx 6 (.mv cF)])
 .ret)
 .skip))
 (.seq (.seq (.regN [0,1,2] [
 kx 15 (um 0),kx 16 (.len false (ux 15)),kx 17 (.mv c0)])
 (.block 0
 (.loop [1,2,15,16,17] Ch)))
 (.seq (.regN [] [
 kx 6 (.mv cT)])
 .ret))))
def t61:AFn:=⟨3,Lb,
 [.tmp 6],true⟩
def Ci:AC:=(.seq (.regN [0,1,12,13] [
 kx 14 (.bini .lss (ux 13) (ux 12))])
 (.seq (.cond (ux 14)
 .skip
 (.exit 0))
 (.seq (.block 1
 (.seq (.regN [0,1,12,13] [
 kx 15 (um 13),kx 5 (um 15)])
 (.seq (.regD [0,1,5,12,13] 0 [
 kx 16 (um 0),kx 17 (um 5),kx 18 (.ixA 1 (ux 16) (ux 17)),kx 19 (.ld1 none (ux 18)),kx 20 (um 1),kx 21 (um 5),kx 22 (.ixA 1 (ux 20) (ux 21)),kx 23 (.ld1 none (ux 22)),kx 24 (.bins .neq (ux 19) (ux 23))])
 (.cond (ux 24)
 (.seq (.regN [] [
 kx 4 (.mv cF)])
 .ret)
 .skip))))
 (.regN [0,1,12,13] [
 kx 25 (.bini .add (ux 13) c1),kx 13 (um 25)]))))
def Lc:AC:=(.seq (.regN [0,1] [
 kx 4 (.mv cF)])
 (.seq (.seq (.regN [0,1] [
 kx 6 (um 0),kx 7 (.len false (ux 6)),kx 8 (um 1),kx 9 (.len false (ux 8)),kx 10 (.bini .neq (ux 7) (ux 9))])
 (.cond (ux 10)
 (.seq (.regN [] [
 kx 4 (.mv cF)])
 .ret)
 .skip))
 (.seq (.seq (.regN [0,1] [
 kx 11 (um 0),kx 12 (.len false (ux 11)),kx 13 (.mv c0)])
 (.block 0
 (.loop [0,1,12,13] Ci)))
 (.seq (.regN [] [
 kx 4 (.mv cT)])
 .ret))))
def t62:AFn:=⟨2,Lc,
 [.tmp 4],true⟩
def Ld:AC:=(.seq (.regN [0] [
 kx 1 (.boxH 1 (ux 0)),kx 2 (.mv cF)])
 (.seq (.regN [1,2] [
 kx 9 (.ld1 none (ux 1)),kx 10 (.nilc (ux 9)),kx 11 (.fldA 6 (ux 10)),kx 12 (.ld1 none (ux 11)),kx 13 (.len false (ux 12)),kx 14 (.bini .sub (ux 13) c1),kx 3 (um 14)])
 (.seq (.regN [1,2,3] [
 kx 15 (.ld1 none (ux 1)),kx 16 (.nilc (ux 15)),kx 17 (.fldA 6 (ux 16)),kx 18 (.ld1 none (ux 17)),kx 19 (um 3),kx 20 (.ixA 1 (ux 18) (ux 19)),kx 21 (.ld1 none (ux 20)),kx 4 (um 21)])
 (.seq (.regD [1,2,3,4] 0 [
 kx 22 (.ld1 none (ux 1)),kx 23 (.ld1 none (ux 1)),kx 24 (.nilc (ux 23)),kx 25 (.fldA 6 (ux 24)),kx 26 (.ld1 none (ux 25)),kx 27 (um 3),kx 28 (.slC 1 (ux 26) none (some (ux 27))),kx 29 (.nilc (ux 22)),kx 30 (.fldA 6 (ux 29)),kn (.st none 1 (ux 30) (ux 28))])
 (.seq (.regN [1,2,4] [
 kx 31 (.ld1 none (ux 1)),kx 32 (.nilc (ux 31)),kx 33 (.fldA 8 (ux 32)),kx 34 (.ld1 none (ux 33)),kx 35 (.bini .add (ux 34) c1),kx 36 (.nilc (ux 31)),kx 37 (.fldA 8 (ux 36)),kn (.st none 1 (ux 37) (ux 35))])
 (.seq (.seq (.regN [1,2,4] [
 kx 38 (um 4),kx 39 (.ld1 none (ux 1)),kx 40 (.nilc (ux 39)),kx 41 (.fldA 0 (ux 40)),kx 42 (.fldA 0 (ux 41)),kx 43 (.ld1 none (ux 42)),kx 44 (.bini .lss (ux 38) (ux 43))])
 (.cond (ux 44)
 (.seq (.seq (.regN [1,4] [
 kx 45 (.ld1 none (ux 1)),kx 46 (.nilc (ux 45)),kx 47 (.fldA 5 (ux 46)),kx 48 (.ld1 none (ux 47)),kx 49 (.bins .eql (ux 48) (.con (.val (.string ⟨#[]⟩)))),kx 50 (um 49),kz 51 50 (.ld1 none (ux 1)),kz 52 50 (.nilc (ux 51)),kz 53 50 (.fldA 5 (ux 52)),kz 54 50 (.ld1 none (ux 53)),kz 55 50 (.ixS (ux 54) c0),kz 56 50 (.cvi .i64 (ux 55)),kz 57 50 (um 4),kz 58 50 (.bini .neq (ux 56) (ux 57)),kx 59 (.pick (ux 50) cT (ux 58))])
 (.cond (ux 59)
 (.seq (.regN [] [
 kx 2 (.mv cF)])
 .ret)
 .skip))
 (.seq (.regD [1] 0 [
 kx 60 (.ld1 none (ux 1)),kx 61 (.ld1 none (ux 1)),kx 62 (.nilc (ux 61)),kx 63 (.fldA 5 (ux 62)),kx 64 (.ld1 none (ux 63)),kx 65 (.slS (ux 64) (some c1) none),kx 66 (.nilc (ux 60)),kx 67 (.fldA 5 (ux 66)),kn (.st none 1 (ux 67) (ux 65))])
 (.seq (.regN [] [
 kx 2 (.mv cT)])
 .ret)))
 .skip))
 (.seq (.regD [1,2,4] 0 [
 kx 68 (.ld1 none (ux 1)),kx 69 (.nilc (ux 68)),kx 70 (.fldA 5 (ux 69)),kx 71 (.ld1 none (ux 70)),kx 72 (.buildS 1 [(.val (.int .u8 0))] [(0,1,(.con (.val (.int .u8 255))))]),kx 73 (.b2s (ux 72)),kx 74 (.bins .add (ux 71) (ux 73)),kx 5 (um 74)])
 (.seq (.regD [1,2,4,5] 0 [
 kx 75 (.ld1 none (ux 1)),kx 76 (.nilc (ux 75)),kx 77 (.fldA 0 (ux 76)),kx 78 (.ldA none 4 (ux 77)),kx 79 (.ld1 none (ux 1)),kx 80 (.nilc (ux 79)),kx 81 (.fldA 4 (ux 80)),kx 82 (.ldA none 1 (ux 81)),kx 83 (um 4),kx 84 (.ld1 none (ux 1)),kx 85 (.nilc (ux 84)),kx 86 (.fldA 0 (ux 85)),kx 87 (.fldA 0 (ux 86)),kx 88 (.ld1 none (ux 87)),kx 89 (.bini .sub (ux 83) (ux 88)),kx 90 (um 5),kx 91 (.ld1 none (ux 1)),kx 92 (.nilc (ux 91)),kx 93 (.fldA 0 (ux 92)),kx 94 (.fldA 2 (ux 93)),kx 95 (.ld1 none (ux 94)),kx 96 (um 5),kx 97 (.len true (ux 96)),kx 98 (.mm false [(ux 95),(ux 97)]),kx 99 (.slS (ux 90) none (some (ux 98))),kf 100 (.call 63 [(ux 78),(ux 82),(ux 89),(ux 99)]),kx 6 (um 100)])
 (.seq (.seq (.regN [1,2,6] [
 kx 101 (um 6),kx 102 (.bini .lss (ux 101) c0)])
 (.cond (ux 102)
 (.seq (.regN [] [
 kx 2 (.mv cF)])
 .ret)
 .skip))
 (.seq (.regD [1,2,6] 0 [
 kx 103 (.ld1 none (ux 1)),kx 104 (.ld1 none (ux 1)),kx 105 (.nilc (ux 104)),kx 106 (.fldA 7 (ux 105)),kx 107 (.ld1 none (ux 106)),kx 108 (um 6),kx 109 (.buildS 1 [(.val (.int .i64 0))] [(0,1,(ux 108))]),kf 110 (.app 1 8 (ux 107) (ux 109)),kx 111 (.nilc (ux 103)),kx 112 (.fldA 7 (ux 111)),kn (.st none 1 (ux 112) (ux 110))])
 (.seq (.seq (.regN [1,2,6] [
 kx 113 (.ld1 none (ux 1)),kx 114 (.nilc (ux 113)),kx 115 (.fldA 0 (ux 114)),kx 116 (.fldA 3 (ux 115)),kx 117 (.ld1 none (ux 116)),kx 118 (um 6),kx 119 (.ixA 2 (ux 117) (ux 118)),kx 120 (.fldA 1 (ux 119)),kx 121 (.ld1 none (ux 120)),kx 122 (.call 64 [.tmp 121])])
 (.block 0
 (.rangeF [1,2,122] az (ux 122) [123,124]
 (.regN [1,124] [
 kx 8 (um 124)])
 (.block 1
 (.regD [1,8] 0 [
 kx 125 (.ld1 none (ux 1)),kx 126 (.ld1 none (ux 1)),kx 127 (.nilc (ux 126)),kx 128 (.fldA 6 (ux 127)),kx 129 (.ld1 none (ux 128)),kx 130 (um 8),kx 131 (.buildS 1 [(.val (.int .i64 0))] [(0,1,(ux 130))]),kf 132 (.app 1 8 (ux 129) (ux 131)),kx 133 (.nilc (ux 125)),kx 134 (.fldA 6 (ux 133)),kn (.st none 1 (ux 134) (ux 132))])))))
 (.seq (.regN [] [
 kx 2 (.mv cT)])
 .ret))))))))))))
def t45:AFn:=⟨1,Ld,
 [.tmp 2],false⟩
def Cj:AC:=(.seq (.regN [3,5,20,21,22] [
 kx 23 (.bini .lss (ux 22) (ux 21))])
 (.seq (.cond (ux 23)
 .skip
 (.exit 0))
 (.seq (.block 1
 (.seq (.regN [3,5,20,21,22] [
 kx 24 (.ixA 1 (ux 20) (ux 22)),kx 25 (.ld1 none (ux 24)),kx 10 (um 25)])
 (.seq (.regN [3,5,10,20,21,22] [
 kx 26 (.fldA 0 (ux 5)),kx 27 (.ld1 (some 5) (ux 26)),kx 28 (um 10),kx 29 (.ixA 1 (ux 27) (ux 28)),kx 30 (.ld1 none (ux 29)),kx 31 (um 3),kx 32 (.call 89 [(ux 30),(ux 31)])])
 (.cond (ux 32)
 (.seq (.regN [10] [
 kx 33 (um 10),kx 8 (um 33)])
 .ret)
 .skip))))
 (.regN [3,5,20,21,22] [
 kx 34 (.bini .add (ux 22) c1),kx 22 (um 34)]))))
def Lf:AC:=(.seq (.regN [0,1,2,3] [
 kx 4 (.boxR 4 (ux 0)),kx 5 (.boxR 1 (ux 1)),kx 8 (.mv c0)])
 (.seq (.seq (.regN [2,3,4,5] [
 kx 11 (.fldA 0 (ux 5)),kx 12 (.ld1 (some 5) (ux 11)),kx 13 (.len false (ux 12)),kx 14 (.fldA 3 (ux 4)),kx 15 (.ld1 (some 4) (ux 14)),kx 16 (.len false (ux 15)),kx 17 (.bini .neq (ux 13) (ux 16))])
 (.cond (ux 17)
 (.seq (.regN [] [
 kx 8 (.mv (.con (.val (.int .i64 (-1)))))])
 .ret)
 .skip))
 (.seq (.seq (.regN [2,3,4,5] [
 kx 18 (.ldA (some 4) 4 (ux 4)),kx 19 (um 2),kx 20 (.call 53 [(ux 18),(ux 19)]),kx 21 (.len false (ux 20)),kx 22 (.mv c0)])
 (.block 0
 (.loop [3,5,20,21,22] Cj)))
 (.seq (.regN [] [
 kx 8 (.mv (.con (.val (.int .i64 (-1)))))])
 .ret))))
def t63:AFn:=⟨4,Lf,
 [.tmp 8],true⟩
def Lg:AC:=(.seq (.regN [0,1] [
 kx 4 (.mv cF)])
 (.seq (.regN [0,1] [
 kx 5 (um 0),kx 6 (um 1),kx 7 (.call 108 [(ux 5),(ux 6)]),kx 4 (um 7)])
 .ret))
def t89:AFn:=⟨2,Lg,
 [.tmp 4],true⟩
def G8:AC:=(.seq (.regN [0,1] [
 kx 4 (.mv cF)])
 (.seq (.regN [0,1] [
 kx 5 (um 0),kx 6 (um 1),kx 7 (.call 115 [(ux 5),(ux 6)]),kx 8 (.bini .geq (ux 7) c0),kx 4 (um 8)])
 .ret))
def Jc:AFn:=⟨2,G8,
 [.tmp 4],true⟩
def wl:AC:=(.seq (.regN [0,1,7,8] [
 kx 9 (.bini .lss (ux 8) (ux 7))])
 (.seq (.cond (ux 9)
 .skip
 (.exit 0))
 (.seq (.block 1
 (.seq (.regN [0,1,7,8] [
 kx 10 (um 8),kx 5 (um 10)])
 (.seq (.regN [0,1,5,7,8] [
 kx 11 (um 1),kx 12 (um 0),kx 13 (um 5),kx 14 (.ixA 1 (ux 12) (ux 13)),kx 15 (.ld1 none (ux 14)),kx 16 (.bins .eql (ux 11) (ux 15))])
 (.cond (ux 16)
 (.seq (.regN [5] [
 kx 17 (um 5),kx 4 (um 17)])
 .ret)
 .skip))))
 (.regN [0,1,7,8] [
 kx 18 (.bini .add (ux 8) c1),kx 8 (um 18)]))))
def Ck:AC:=(.seq (.regN [0,1] [
 kx 4 (.mv c0)])
 (.seq (.seq (.regN [0,1] [
 kx 6 (um 0),kx 7 (.len false (ux 6)),kx 8 (.mv c0)])
 (.block 0
 (.loop [0,1,7,8] wl)))
 (.seq (.regN [] [
 kx 4 (.mv (.con (.val (.int .i64 (-1)))))])
 .ret)))
def Jd:AFn:=⟨2,Ck,
 [.tmp 4],true⟩
def Lh:AC:=(.seq (.regN [0,1,2] [
 kx 3 (.boxR 4 (ux 0)),kx 4 (.boxR 1 (ux 1)),kx 6 (.mv c0),kx 7 (.mv cF)])
 (.seq (.regN [2,3,4] [
 kx 9 (.ldA (some 3) 4 (ux 3)),kx 10 (.ldA (some 4) 1 (ux 4)),kx 11 (um 2),kx 12 (.call 29 [(ux 9),(ux 10),(ux 11)]),kx 8 (um 12)])
 (.seq (.seq (.regN [8] [
 kx 13 (um 8),kx 14 (.eqp false (ux 13) (.con (.val (.pointer none))))])
 (.cond (ux 14)
 (.seq (.regN [] [
 kx 6 (.mv c0),kx 7 (.mv cF)])
 .ret)
 .skip))
 (.seq (.regN [8] [
 kx 15 (um 8),kx 16 (.nilc (ux 15)),kx 17 (.fldA 8 (ux 16)),kx 18 (.ld1 none (ux 17)),kx 6 (um 18),kx 7 (.mv cT)])
 .ret))))
def t19:AFn:=⟨3,Lh,
 [.tmp 6,.tmp 7],true⟩
def qg:AC:=(.seq (.seq (.regN [0,1,5] [
 kx 11 (um 5),kx 12 (um 0),kx 13 (.len false (ux 12)),kx 14 (.bini .lss (ux 11) (ux 13))])
 (.cond (ux 14)
 .skip
 (.exit 0)))
 (.seq (.block 1
 (.seq (.regD [0,1,5] 0 [
 kx 17 (um 0),kx 18 (um 5),kx 19 (.ixA 1 (ux 17) (ux 18)),kx 20 (.ld1 none (ux 19)),kx 21 (um 1),kx 22 (um 5),kx 23 (.ixA 1 (ux 21) (ux 22)),kx 24 (.ld1 none (ux 23)),kx 25 (.bini .neq (ux 20) (ux 24))])
 (.cond (ux 25)
 (.seq (.regN [] [
 kx 4 (.mv cF)])
 .ret)
 .skip)))
 (.regN [0,1,5] [
 kx 15 (um 5),kx 16 (.bini .add (ux 15) c1),kx 5 (um 16)])))
def FF:AC:=(.seq (.regN [0,1] [
 kx 4 (.mv cF)])
 (.seq (.seq (.regN [0,1] [
 kx 6 (um 0),kx 7 (.len false (ux 6)),kx 8 (um 1),kx 9 (.len false (ux 8)),kx 10 (.bini .neq (ux 7) (ux 9))])
 (.cond (ux 10)
 (.seq (.regN [] [
 kx 4 (.mv cF)])
 .ret)
 .skip))
 (.seq (.seq (.regN [0,1] [
 kx 5 (.mv c0)])
 (.block 0
 (.loop [0,1,5] qg)))
 (.seq (.regN [] [
 kx 4 (.mv cT)])
 .ret))))
def t13:AFn:=⟨2,FF,
 [.tmp 4],true⟩
def G9:AC:=(.seq (.seq (.regN [1,3] [
 kx 8 (um 3),kx 9 (.fldA 3 (ux 1)),kx 10 (.ld1 (some 1) (ux 9)),kx 11 (.len false (ux 10)),kx 12 (.bini .lss (ux 8) (ux 11))])
 (.cond (ux 12)
 .skip
 (.exit 0)))
 (.seq (.block 1
 (.seq (.regN [1,3] [
 kx 15 (.fldA 3 (ux 1)),kx 16 (.ld1 (some 1) (ux 15)),kx 17 (um 3),kx 18 (.ixA 2 (ux 16) (ux 17)),kx 19 (.fldA 1 (ux 18)),kx 20 (.ld1 none (ux 19)),kx 21 (.len false (ux 20)),kx 22 (.bini .gtr (ux 21) (.con (.val (.int .i64 5)))),kx 23 (um 22),ky 24 23 (.fldA 3 (ux 1)),ky 25 23 (.ld1 (some 1) (ux 24)),ky 26 23 (um 3),ky 27 23 (.ixA 2 (ux 25) (ux 26)),ky 28 23 (.fldA 1 (ux 27)),ky 29 23 (.ld1 none (ux 28)),ky 30 23 (.len false (ux 29)),ky 31 23 (.bini .leq (ux 30) (.con (.val (.int .i64 8)))),kx 32 (.pick (ux 23) (ux 31) cF),kx 33 (um 32),kz 34 33 (.fldA 3 (ux 1)),kz 35 33 (.ld1 (some 1) (ux 34)),kz 36 33 (um 3),kz 37 33 (.ixA 2 (ux 35) (ux 36)),kz 38 33 (.fldA 1 (ux 37)),kz 39 33 (.ld1 none (ux 38)),kz 40 33 (.len false (ux 39)),kz 41 33 (.bini .gtr (ux 40) (.con (.val (.int .i64 100)))),kx 42 (.pick (ux 33) cT (ux 41))])
 (.cond (ux 42)
 (.seq (.regN [] [
 kx 2 (.mv cF)])
 .ret)
 .skip)))
 (.regN [1,3] [
 kx 13 (um 3),kx 14 (.bini .add (ux 13) c1),kx 3 (um 14)])))
def Li:AC:=(.seq (.regN [0] [
 kx 1 (.boxR 4 (ux 0)),kx 2 (.mv cF)])
 (.seq (.seq (.regN [1] [
 kx 4 (.fldA 3 (ux 1)),kx 5 (.ld1 (some 1) (ux 4)),kx 6 (.len false (ux 5)),kx 7 (.bini .gtr (ux 6) (.con (.val (.int .i64 100))))])
 (.cond (ux 7)
 (.seq (.regN [] [
 kx 2 (.mv cF)])
 .ret)
 .skip))
 (.seq (.seq (.regN [1] [
 kx 3 (.mv c0)])
 (.block 0
 (.loop [1,3] G9)))
 (.seq (.seq (.regN [1] [
 kx 43 (.fldA 0 (ux 1)),kx 44 (.ld1 (some 1) (ux 43)),kx 45 (.bini .gtr (ux 44) (.con (.val (.int .i64 8)))),kx 46 (um 45),kz 47 46 (.fldA 1 (ux 1)),kz 48 46 (.ld1 (some 1) (ux 47)),kz 49 46 (.bini .gtr (ux 48) (.con (.val (.int .i64 16)))),kx 50 (.pick (ux 46) cT (ux 49)),kx 51 (um 50),kz 52 51 (.fldA 2 (ux 1)),kz 53 51 (.ld1 (some 1) (ux 52)),kz 54 51 (.bini .gtr (ux 53) (.con (.val (.int .i64 3)))),kx 55 (.pick (ux 51) cT (ux 54)),kx 56 (um 55),kz 57 56 (.fldA 3 (ux 1)),kz 58 56 (.ld1 (some 1) (ux 57)),kz 59 56 (.len false (ux 58)),kz 60 56 (.bini .gtr (ux 59) (.con (.val (.int .i64 64)))),kx 61 (.pick (ux 56) cT (ux 60))])
 (.cond (ux 61)
 (.seq (.regN [] [
 kx 2 (.mv cT)])
 .ret)
 .skip))
 (.seq (.regN [1] [
 kx 62 (.fldA 0 (ux 1)),kx 63 (.ld1 (some 1) (ux 62)),kx 64 (.bini .leq (ux 63) (.con (.val (.int .i64 4)))),kx 65 (um 64),ky 66 65 (.fldA 1 (ux 1)),ky 67 65 (.ld1 (some 1) (ux 66)),ky 68 65 (.bini .leq (ux 67) (.con (.val (.int .i64 6)))),kx 69 (.pick (ux 65) (ux 68) cF),kx 70 (um 69),ky 71 70 (.fldA 3 (ux 1)),ky 72 70 (.ld1 (some 1) (ux 71)),ky 73 70 (.len false (ux 72)),ky 74 70 (.bini .leq (ux 73) (.con (.val (.int .i64 14)))),kx 75 (.pick (ux 70) (ux 74) cF),kx 76 (um 75),ky 77 76 (.fldA 2 (ux 1)),ky 78 76 (.ld1 (some 1) (ux 77)),ky 79 76 (.bini .leq (ux 78) (.con (.val (.int .i64 2)))),ky 80 76 (um 79),kz 81 80 (.fldA 0 (ux 1)),kz 82 80 (.ld1 (some 1) (ux 81)),kz 83 80 (.bini .leq (ux 82) (.con (.val (.int .i64 3)))),ky 84 76 (.pick (ux 80) cT (ux 83)),kx 85 (.pick (ux 76) (ux 84) cF),kx 2 (um 85)])
 .ret)))))
def t17:AFn:=⟨1,Li,
 [.tmp 2],true⟩
def Lj:AC:=(.seq (.regN [0] [
 kx 1 (.boxR 4 (ux 0)),kx 2 (.mv c0)])
 (.seq (.regN [1] [
 kx 8 (.ldA (some 1) 4 (ux 1)),kx 9 (.call 39 [.tmp 8]),kx 3 (um 9)])
 (.seq (.seq (.regN [1,3] [
 kx 10 (um 3),kx 11 (.bini .neq (ux 10) c0)])
 (.cond (ux 11)
 (.seq (.regN [3] [
 kx 12 (um 3),kx 2 (um 12)])
 .ret)
 .skip))
 (.seq (.regN [1] [
 kx 14 (.ldA (some 1) 4 (ux 1)),kx 15 (.call 40 [.tmp 14]),kx 13 (um 15),kx 16 (.ext (ux 13) 0),kx 17 (.ext (ux 13) 1),kx 4 (um 16),kx 5 (um 17)])
 (.seq (.seq (.regN [1,5] [
 kx 18 (um 5),kx 19 (.not (ux 18))])
 (.cond (ux 19)
 (.seq (.regN [] [
 kx 2 (.mv (.con (.val (.int .i64 5))))])
 .ret)
 .skip))
 (.seq (.regN [1] [
 kx 21 (.ldA (some 1) 4 (ux 1)),kx 22 (.call 41 [.tmp 21]),kx 20 (um 22),kx 23 (.ext (ux 20) 0),kx 24 (.ext (ux 20) 1),kx 6 (um 23),kx 7 (um 24)])
 (.seq (.seq (.regN [1,7] [
 kx 25 (um 7)])
 (.cond (ux 25)
 (.seq (.regN [] [
 kx 2 (.mv (.con (.val (.int .i64 4))))])
 .ret)
 .skip))
 (.seq (.regN [1] [
 kx 27 (.ldA (some 1) 4 (ux 1)),kx 28 (.call 30 [.tmp 27]),kx 26 (um 28),kx 29 (.ext (ux 26) 0),kx 30 (.ext (ux 26) 1),kx 31 (.ext (ux 26) 2),kx 3 (um 31)])
 (.seq (.regN [3] [
 kx 32 (um 3),kx 2 (um 32)])
 .ret)))))))))
def t24:AFn:=⟨1,Lj,
 [.tmp 2],true⟩
def Hc:AC:=(.seq (.seq (.regN [1,4,5,6] [
 kx 14 (um 6),kx 15 (.fldA 1 (ux 1)),kx 16 (.ld1 (some 1) (ux 15)),kx 17 (.bini .lss (ux 14) (ux 16))])
 (.cond (ux 17)
 .skip
 (.exit 0)))
 (.seq (.block 1
 (.seq (.regN [1,4,5,6] [
 kx 20 (um 4),kx 21 (um 6),kx 22 (.ixA 1 (ux 20) (ux 21)),kx 23 (.ld1 none (ux 22)),kx 24 (.not (ux 23)),kx 25 (um 24),kz 26 25 (um 5),kz 27 25 (um 6),kz 28 25 (.ixA 1 (ux 26) (ux 27)),kz 29 25 (.ld1 none (ux 28)),kz 30 25 (.not (ux 29)),kx 31 (.pick (ux 25) cT (ux 30))])
 (.cond (ux 31)
 (.seq (.regN [6] [
 kx 32 (um 6),kx 2 (um 32),kx 3 (.mv cF)])
 .ret)
 .skip)))
 (.regN [1,4,5,6] [
 kx 18 (um 6),kx 19 (.bini .add (ux 18) c1),kx 6 (um 19)])))
def Lk:AC:=(.seq (.regN [0] [
 kx 1 (.boxR 4 (ux 0)),kx 2 (.mv c0),kx 3 (.mv cF)])
 (.seq (.seq (.regN [1] [
 kx 7 (.ldA (some 1) 4 (ux 1)),kx 8 (.call 39 [.tmp 7]),kx 9 (.bini .neq (ux 8) c0)])
 (.cond (ux 9)
 (.seq (.regN [] [
 kx 2 (.mv c0),kx 3 (.mv cF)])
 .ret)
 .skip))
 (.seq (.regD [1] 0 [
 kx 10 (.ldA (some 1) 4 (ux 1)),kf 11 (.call 57 [.tmp 10]),kx 12 (.ldA (some 1) 4 (ux 1)),kf 13 (.call 58 [.tmp 12]),kx 4 (um 11),kx 5 (um 13)])
 (.seq (.seq (.regN [1,4,5] [
 kx 6 (.mv c0)])
 (.block 0
 (.loop [1,4,5,6] Hc)))
 (.seq (.regN [] [
 kx 2 (.mv c0),kx 3 (.mv cT)])
 .ret)))))
def t40:AFn:=⟨1,Lk,
 [.tmp 2,.tmp 3],true⟩
def Ll:AC:=(.seq (.regN [0] [
 kx 1 (.boxR 4 (ux 0)),kx 2 (.mv (.con .e0))])
 (.seq (.regN [1] [
 kx 3 (.ldA (some 1) 4 (ux 1)),kx 4 (.call 42 [(ux 3),cT]),kx 2 (um 4)])
 .ret))
def t57:AFn:=⟨1,Ll,
 [.tmp 2],true⟩
def He:AC:=(.seq (.seq (.regN [1,2,5,6,7,8,9,10] [
 kx 37 (um 10),kx 38 (.fldA 1 (ux 8)),kx 39 (.ld1 (some 8) (ux 38)),kx 40 (.len false (ux 39)),kx 41 (.bini .lss (ux 37) (ux 40)),kx 42 (um 41),ky 43 42 (um 9),kx 44 (.pick (ux 42) (ux 43) cF)])
 (.cond (ux 44)
 .skip
 (.exit 4)))
 (.seq (.block 5
 (.seq (.regN [1,2,5,6,7,8,10] [
 kx 47 (.fldA 1 (ux 8)),kx 48 (.ld1 (some 8) (ux 47)),kx 49 (um 10),kx 50 (.ixA 1 (ux 48) (ux 49)),kx 51 (.ld1 none (ux 50)),kx 11 (um 51)])
 (.regN [1,2,5,6,7,8,10,11] [
 kx 52 (um 11),kx 53 (.fldA 0 (ux 2)),kx 54 (.ld1 (some 2) (ux 53)),kx 55 (.bini .lss (ux 52) (ux 54)),kx 56 (um 55),ky 57 56 (um 1),kx 58 (.pick (ux 56) (ux 57) cF),kx 59 (um 58),kz 60 59 (um 11),kz 61 59 (.fldA 0 (ux 2)),kz 62 59 (.ld1 (some 2) (ux 61)),kz 63 59 (.bini .geq (ux 60) (ux 62)),kz 64 59 (um 63),ky 65 64 (um 5),ky 66 64 (um 11),ky 67 64 (.fldA 0 (ux 2)),ky 68 64 (.ld1 (some 2) (ux 67)),ky 69 64 (.bini .sub (ux 66) (ux 68)),ky 70 64 (.ixA 1 (ux 65) (ux 69)),ky 71 64 (.ld1 none (ux 70)),kz 72 59 (.pick (ux 64) (ux 71) cF),kx 73 (.pick (ux 59) cT (ux 72)),kx 9 (um 73)])))
 (.regN [1,2,5,6,7,8,9,10] [
 kx 45 (um 10),kx 46 (.bini .add (ux 45) c1),kx 10 (um 46)])))
def Hg:AC:=(.seq (.seq (.regN [1,2,5,6,7] [
 kx 19 (um 7),kx 20 (.fldA 3 (ux 2)),kx 21 (.ld1 (some 2) (ux 20)),kx 22 (.len false (ux 21)),kx 23 (.bini .lss (ux 19) (ux 22))])
 (.cond (ux 23)
 .skip
 (.exit 2)))
 (.seq (.block 3
 (.seq (.regN [1,2,5,6,7] [
 kx 26 (.fldA 3 (ux 2)),kx 27 (.ld1 (some 2) (ux 26)),kx 28 (um 7),kx 29 (.ixA 2 (ux 27) (ux 28)),kx 30 (.ldA none 2 (ux 29)),kx 8 (.allocR [(.val (.int .i64 0)),.e0]),kn (.st (some 8) 2 (ux 8) (ux 30))])
 (.seq (.regN [1,2,5,6,7,8] [
 kx 31 (um 5),kx 32 (.fldA 0 (ux 8)),kx 33 (.ld1 (some 8) (ux 32)),kx 34 (.ixA 1 (ux 31) (ux 33)),kx 35 (.ld1 none (ux 34)),kx 36 (.not (ux 35)),kx 9 (um 36)])
 (.seq (.seq (.regN [1,2,5,6,7,8,9] [
 kx 10 (.mv c0)])
 (.block 4
 (.loop [1,2,5,6,7,8,9,10] He)))
 (.seq (.regN [1,2,5,6,7,8,9] [
 kx 74 (um 9)])
 (.cond (ux 74)
 (.regN [1,2,5,7,8] [
 kx 75 (um 5),kx 76 (.fldA 0 (ux 8)),kx 77 (.ld1 (some 8) (ux 76)),kx 78 (.ixA 1 (ux 75) (ux 77)),kn (.st none 1 (ux 78) cT),kx 6 (.mv cT)])
 .skip))))))
 (.regN [1,2,5,6,7] [
 kx 24 (um 7),kx 25 (.bini .add (ux 24) c1),kx 7 (um 25)])))
def Hh:AC:=(.seq (.seq (.regN [1,2,5,6] [
 kx 18 (um 6)])
 (.cond (ux 18)
 .skip
 (.exit 0)))
 (.block 1
 (.seq (.regN [1,2,5] [
 kx 6 (.mv cF)])
 (.seq (.regN [1,2,5,6] [
 kx 7 (.mv c0)])
 (.block 2
 (.loop [1,2,5,6,7] Hg))))))
def Lm:AC:=(.seq (.regN [0,1] [
 kx 2 (.boxR 4 (ux 0)),kx 4 (.mv (.con .e0))])
 (.seq (.seq (.regN [1,2] [
 kx 12 (.ldA (some 2) 4 (ux 2)),kx 13 (.call 39 [.tmp 12]),kx 14 (.bini .neq (ux 13) c0)])
 (.cond (ux 14)
 (.seq (.regN [] [
 kx 4 (.mv (.con .e0))])
 .ret)
 .skip))
 (.seq (.regN [1,2] [
 kx 15 (.fldA 1 (ux 2)),kx 16 (.ld1 (some 2) (ux 15)),kx 17 (.mks 1 1 [(.val (.bool false))] (ux 16)),kx 5 (um 17)])
 (.seq (.seq (.regN [1,2,5] [
 kx 6 (.mv cT)])
 (.block 0
 (.loop [1,2,5,6] Hh)))
 (.seq (.regN [5] [
 kx 79 (um 5),kx 4 (um 79)])
 .ret)))))
def t42:AFn:=⟨2,Lm,
 [.tmp 4],true⟩
def Hi:AC:=(.seq (.seq (.regN [1,3,4,5,6,7] [
 kx 30 (um 7),kx 31 (.fldA 1 (ux 6)),kx 32 (.ld1 (some 6) (ux 31)),kx 33 (.len false (ux 32)),kx 34 (.bini .lss (ux 30) (ux 33)),kx 35 (um 34),ky 36 35 (um 3),ky 37 35 (.fldA 0 (ux 6)),ky 38 35 (.ld1 (some 6) (ux 37)),ky 39 35 (.ixA 1 (ux 36) (ux 38)),ky 40 35 (.ld1 none (ux 39)),kx 41 (.pick (ux 35) (ux 40) cF)])
 (.cond (ux 41)
 .skip
 (.exit 4)))
 (.seq (.block 5
 (.seq (.regD [1,3,4,5,6,7] 0 [
 kx 44 (.fldA 1 (ux 6)),kx 45 (.ld1 (some 6) (ux 44)),kx 46 (um 7),kx 47 (.ixA 1 (ux 45) (ux 46)),kx 48 (.ld1 none (ux 47)),kx 49 (.fldA 0 (ux 1)),kx 50 (.ld1 (some 1) (ux 49)),kx 51 (.bini .sub (ux 48) (ux 50)),kx 8 (um 51)])
 (.seq (.regN [1,3,4,5,6,7,8] [
 kx 52 (um 8),kx 53 (.bini .geq (ux 52) c0),kx 54 (um 53),ky 55 54 (um 3),ky 56 54 (um 8),ky 57 54 (.ixA 1 (ux 55) (ux 56)),ky 58 54 (.ld1 none (ux 57)),ky 59 54 (.not (ux 58)),kx 60 (.pick (ux 54) (ux 59) cF)])
 (.cond (ux 60)
 (.regN [1,3,5,6,7,8] [
 kx 61 (um 3),kx 62 (um 8),kx 63 (.ixA 1 (ux 61) (ux 62)),kn (.st none 1 (ux 63) cT),kx 4 (.mv cT)])
 .skip))))
 (.regN [1,3,4,5,6,7] [
 kx 42 (um 7),kx 43 (.bini .add (ux 42) c1),kx 7 (um 43)])))
def Hj:AC:=(.seq (.seq (.regN [1,3,4,5] [
 kx 18 (um 5),kx 19 (.fldA 3 (ux 1)),kx 20 (.ld1 (some 1) (ux 19)),kx 21 (.len false (ux 20)),kx 22 (.bini .lss (ux 18) (ux 21))])
 (.cond (ux 22)
 .skip
 (.exit 2)))
 (.seq (.block 3
 (.seq (.regN [1,3,4,5] [
 kx 25 (.fldA 3 (ux 1)),kx 26 (.ld1 (some 1) (ux 25)),kx 27 (um 5),kx 28 (.ixA 2 (ux 26) (ux 27)),kx 29 (.ldA none 2 (ux 28)),kx 6 (.allocR [(.val (.int .i64 0)),.e0]),kn (.st (some 6) 2 (ux 6) (ux 29))])
 (.seq (.regN [1,3,4,5,6] [
 kx 7 (.mv c0)])
 (.block 4
 (.loop [1,3,4,5,6,7] Hi)))))
 (.regN [1,3,4,5] [
 kx 23 (um 5),kx 24 (.bini .add (ux 23) c1),kx 5 (um 24)])))
def Hk:AC:=(.seq (.seq (.regN [1,3,4] [
 kx 17 (um 4)])
 (.cond (ux 17)
 .skip
 (.exit 0)))
 (.block 1
 (.seq (.regN [1,3] [
 kx 4 (.mv cF)])
 (.seq (.regN [1,3,4] [
 kx 5 (.mv c0)])
 (.block 2
 (.loop [1,3,4,5] Hj))))))
def Ln:AC:=(.seq (.regN [0] [
 kx 1 (.boxR 4 (ux 0)),kx 2 (.mv (.con .e0))])
 (.seq (.seq (.regN [1] [
 kx 9 (.ldA (some 1) 4 (ux 1)),kx 10 (.call 39 [.tmp 9]),kx 11 (.bini .neq (ux 10) c0)])
 (.cond (ux 11)
 (.seq (.regN [] [
 kx 2 (.mv (.con .e0))])
 .ret)
 .skip))
 (.seq (.regN [1] [
 kx 12 (.fldA 1 (ux 1)),kx 13 (.ld1 (some 1) (ux 12)),kx 14 (.mks 1 1 [(.val (.bool false))] (ux 13)),kx 3 (um 14)])
 (.seq (.regN [1,3] [
 kx 15 (um 3),kx 16 (.ixA 1 (ux 15) c0),kn (.st none 1 (ux 16) cT)])
 (.seq (.seq (.regN [1,3] [
 kx 4 (.mv cT)])
 (.block 0
 (.loop [1,3,4] Hk)))
 (.seq (.regN [3] [
 kx 64 (um 3),kx 2 (um 64)])
 .ret))))))
def t58:AFn:=⟨1,Ln,
 [.tmp 2],true⟩
def Cm:AC:=(.seq (.seq (.regN [1,4,5,6] [
 kx 23 (um 6),kx 24 (.fldA 1 (ux 1)),kx 25 (.ld1 (some 1) (ux 24)),kx 26 (.bini .lss (ux 23) (ux 25))])
 (.cond (ux 26)
 .skip
 (.exit 0)))
 (.seq (.block 1
 (.regN [1,4,5,6] [
 kx 29 (um 5),kx 30 (um 6),kx 31 (.fldA 1 (ux 1)),kx 32 (.ld1 (some 1) (ux 31)),kx 33 (.mks 1 1 [(.val (.bool false))] (ux 32)),kx 34 (.ixA 1 (ux 29) (ux 30)),kn (.st none 1 (ux 34) (ux 33))]))
 (.regN [1,4,5,6] [
 kx 27 (um 6),kx 28 (.bini .add (ux 27) c1),kx 6 (um 28)])))
def Cn:AC:=(.seq (.seq (.regD [1,4,5,7,8,9] 0 [
 kx 47 (um 9),kx 48 (.fldA 1 (ux 8)),kx 49 (.ld1 (some 8) (ux 48)),kx 50 (.len false (ux 49)),kx 51 (.bini .lss (ux 47) (ux 50)),kx 52 (um 51),ky 53 52 (.fldA 1 (ux 8)),ky 54 52 (.ld1 (some 8) (ux 53)),ky 55 52 (um 9),ky 56 52 (.ixA 1 (ux 54) (ux 55)),ky 57 52 (.ld1 none (ux 56)),ky 58 52 (.fldA 0 (ux 1)),ky 59 52 (.ld1 (some 1) (ux 58)),ky 60 52 (.bini .geq (ux 57) (ux 59)),kx 61 (.pick (ux 52) (ux 60) cF)])
 (.cond (ux 61)
 .skip
 (.exit 4)))
 (.seq (.block 5
 (.seq (.regD [1,4,5,7,8,9] 0 [
 kx 64 (.fldA 1 (ux 8)),kx 65 (.ld1 (some 8) (ux 64)),kx 66 (um 9),kx 67 (.ixA 1 (ux 65) (ux 66)),kx 68 (.ld1 none (ux 67)),kx 69 (.fldA 0 (ux 1)),kx 70 (.ld1 (some 1) (ux 69)),kx 71 (.bini .sub (ux 68) (ux 70)),kx 10 (um 71)])
 (.seq (.regN [1,4,5,7,8,9,10] [
 kx 72 (um 5),kx 73 (.fldA 0 (ux 8)),kx 74 (.ld1 (some 8) (ux 73)),kx 75 (.ixA 1 (ux 72) (ux 74)),kx 76 (.ld1 none (ux 75)),kx 77 (um 10),kx 78 (.ixA 1 (ux 76) (ux 77)),kn (.st none 1 (ux 78) cT)])
 (.seq (.regN [1,4,5,7,8,9,10] [
 kx 79 (um 4),kx 80 (um 10),kx 81 (.ixA 1 (ux 79) (ux 80)),kx 82 (.ld1 none (ux 81)),kx 83 (.not (ux 82))])
 (.cond (ux 83)
 (.exit 4)
 .skip)))))
 (.regN [1,4,5,7,8,9] [
 kx 62 (um 9),kx 63 (.bini .add (ux 62) c1),kx 9 (um 63)])))
def Co:AC:=(.seq (.seq (.regN [1,4,5,7] [
 kx 35 (um 7),kx 36 (.fldA 3 (ux 1)),kx 37 (.ld1 (some 1) (ux 36)),kx 38 (.len false (ux 37)),kx 39 (.bini .lss (ux 35) (ux 38))])
 (.cond (ux 39)
 .skip
 (.exit 2)))
 (.seq (.block 3
 (.seq (.regN [1,4,5,7] [
 kx 42 (.fldA 3 (ux 1)),kx 43 (.ld1 (some 1) (ux 42)),kx 44 (um 7),kx 45 (.ixA 2 (ux 43) (ux 44)),kx 46 (.ldA none 2 (ux 45)),kx 8 (.allocR [(.val (.int .i64 0)),.e0]),kn (.st (some 8) 2 (ux 8) (ux 46))])
 (.seq (.regN [1,4,5,7,8] [
 kx 9 (.mv c0)])
 (.block 4
 (.loop [1,4,5,7,8,9] Cn)))))
 (.regN [1,4,5,7] [
 kx 40 (um 7),kx 41 (.bini .add (ux 40) c1),kx 7 (um 41)])))
def qh:AC:=(.seq (.seq (.regN [1,5,11,12,13] [
 kx 96 (um 13),kx 97 (.fldA 1 (ux 1)),kx 98 (.ld1 (some 1) (ux 97)),kx 99 (.bini .lss (ux 96) (ux 98))])
 (.cond (ux 99)
 .skip
 (.exit 10)))
 (.seq (.block 11
 (.regD [1,5,11,12,13] 0 [
 kx 102 (um 5),kx 103 (um 12),kx 104 (.ixA 1 (ux 102) (ux 103)),kx 105 (.ld1 none (ux 104)),kx 106 (um 13),kx 107 (um 5),kx 108 (um 12),kx 109 (.ixA 1 (ux 107) (ux 108)),kx 110 (.ld1 none (ux 109)),kx 111 (um 13),kx 112 (.ixA 1 (ux 110) (ux 111)),kx 113 (.ld1 none (ux 112)),kx 114 (um 113),kz 115 114 (um 5),kz 116 114 (um 12),kz 117 114 (.ixA 1 (ux 115) (ux 116)),kz 118 114 (.ld1 none (ux 117)),kz 119 114 (um 11),kz 120 114 (.ixA 1 (ux 118) (ux 119)),kz 121 114 (.ld1 none (ux 120)),kz 122 114 (um 121),ky 123 122 (um 5),ky 124 122 (um 11),ky 125 122 (.ixA 1 (ux 123) (ux 124)),ky 126 122 (.ld1 none (ux 125)),ky 127 122 (um 13),ky 128 122 (.ixA 1 (ux 126) (ux 127)),ky 129 122 (.ld1 none (ux 128)),kz 130 114 (.pick (ux 122) (ux 129) cF),kx 131 (.pick (ux 114) cT (ux 130)),kx 132 (.ixA 1 (ux 105) (ux 106)),kn (.st none 1 (ux 132) (ux 131))]))
 (.regN [1,5,11,12,13] [
 kx 100 (um 13),kx 101 (.bini .add (ux 100) c1),kx 13 (um 101)])))
def Cp:AC:=(.seq (.seq (.regN [1,5,11,12] [
 kx 90 (um 12),kx 91 (.fldA 1 (ux 1)),kx 92 (.ld1 (some 1) (ux 91)),kx 93 (.bini .lss (ux 90) (ux 92))])
 (.cond (ux 93)
 .skip
 (.exit 8)))
 (.seq (.block 9
 (.seq (.regN [1,5,11,12] [
 kx 13 (.mv c0)])
 (.block 10
 (.loop [1,5,11,12,13] qh))))
 (.regN [1,5,11,12] [
 kx 94 (um 12),kx 95 (.bini .add (ux 94) c1),kx 12 (um 95)])))
def Cq:AC:=(.seq (.seq (.regN [1,5,11] [
 kx 84 (um 11),kx 85 (.fldA 1 (ux 1)),kx 86 (.ld1 (some 1) (ux 85)),kx 87 (.bini .lss (ux 84) (ux 86))])
 (.cond (ux 87)
 .skip
 (.exit 6)))
 (.seq (.block 7
 (.seq (.regN [1,5,11] [
 kx 12 (.mv c0)])
 (.block 8
 (.loop [1,5,11,12] Cp))))
 (.regN [1,5,11] [
 kx 88 (um 11),kx 89 (.bini .add (ux 88) c1),kx 11 (um 89)])))
def Hl:AC:=(.seq (.seq (.regN [1,5,14] [
 kx 133 (um 14),kx 134 (.fldA 1 (ux 1)),kx 135 (.ld1 (some 1) (ux 134)),kx 136 (.bini .lss (ux 133) (ux 135))])
 (.cond (ux 136)
 .skip
 (.exit 12)))
 (.seq (.block 13
 (.seq (.regN [1,5,14] [
 kx 139 (um 5),kx 140 (um 14),kx 141 (.ixA 1 (ux 139) (ux 140)),kx 142 (.ld1 none (ux 141)),kx 143 (um 14),kx 144 (.ixA 1 (ux 142) (ux 143)),kx 145 (.ld1 none (ux 144))])
 (.cond (ux 145)
 (.seq (.regN [14] [
 kx 146 (um 14),kx 2 (um 146),kx 3 (.mv cT)])
 .ret)
 .skip)))
 (.regN [1,5,14] [
 kx 137 (um 14),kx 138 (.bini .add (ux 137) c1),kx 14 (um 138)])))
def Lo:AC:=(.seq (.regN [0] [
 kx 1 (.boxR 4 (ux 0)),kx 2 (.mv c0),kx 3 (.mv cF)])
 (.seq (.seq (.regN [1] [
 kx 15 (.ldA (some 1) 4 (ux 1)),kx 16 (.call 39 [.tmp 15]),kx 17 (.bini .neq (ux 16) c0)])
 (.cond (ux 17)
 (.seq (.regN [] [
 kx 2 (.mv c0),kx 3 (.mv cF)])
 .ret)
 .skip))
 (.seq (.regN [1] [
 kx 18 (.ldA (some 1) 4 (ux 1)),kx 19 (.call 28 [.tmp 18]),kx 4 (um 19)])
 (.seq (.regN [1,4] [
 kx 20 (.fldA 1 (ux 1)),kx 21 (.ld1 (some 1) (ux 20)),kx 22 (.mks 1 24 [.e0] (ux 21)),kx 5 (um 22)])
 (.seq (.seq (.regN [1,4,5] [
 kx 6 (.mv c0)])
 (.block 0
 (.loop [1,4,5,6] Cm)))
 (.seq (.seq (.regN [1,4,5] [
 kx 7 (.mv c0)])
 (.block 2
 (.loop [1,4,5,7] Co)))
 (.seq (.seq (.regN [1,5] [
 kx 11 (.mv c0)])
 (.block 6
 (.loop [1,5,11] Cq)))
 (.seq (.seq (.regN [1,5] [
 kx 14 (.mv c0)])
 (.block 12
 (.loop [1,5,14] Hl)))
 (.seq (.regN [] [
 kx 2 (.mv c0),kx 3 (.mv cF)])
 .ret)))))))))
def t41:AFn:=⟨1,Lo,
 [.tmp 2,.tmp 3],true⟩
def Lp:AC:=(.seq (.regN [0] [
 kx 1 (.boxR 4 (ux 0)),kx 2 (.mv (.con .e0))])
 (.seq (.regN [1] [
 kx 3 (.ldA (some 1) 4 (ux 1)),kx 4 (.call 42 [(ux 3),cF]),kx 2 (um 4)])
 .ret))
def t28:AFn:=⟨1,Lp,
 [.tmp 2],true⟩
def Hn:AC:=(.seq (.seq (.regN [1,2,5,6] [
 kx 10 (um 6),kx 11 (.fldA 3 (ux 2)),kx 12 (.ld1 (some 2) (ux 11)),kx 13 (.len false (ux 12)),kx 14 (.bini .lss (ux 10) (ux 13))])
 (.cond (ux 14)
 .skip
 (.exit 0)))
 (.seq (.block 1
 (.seq (.regN [1,2,5,6] [
 kx 17 (.fldA 3 (ux 2)),kx 18 (.ld1 (some 2) (ux 17)),kx 19 (um 6),kx 20 (.ixA 2 (ux 18) (ux 19)),kx 21 (.fldA 0 (ux 20)),kx 22 (.ld1 none (ux 21)),kx 23 (um 1),kx 24 (.bini .eql (ux 22) (ux 23))])
 (.cond (ux 24)
 (.regN [1,2,5,6] [
 kx 25 (um 5),kx 26 (um 6),kx 27 (.buildS 1 [(.val (.int .i64 0))] [(0,1,(ux 26))]),kx 28 (.app 1 8 (ux 25) (ux 27)),kx 5 (um 28)])
 .skip)))
 (.regN [1,2,5,6] [
 kx 15 (um 6),kx 16 (.bini .add (ux 15) c1),kx 6 (um 16)])))
def Lq:AC:=(.seq (.regN [0,1] [
 kx 2 (.boxR 4 (ux 0)),kx 4 (.mv (.con .e0))])
 (.seq (.seq (.regN [1,2] [
 kx 7 (.ldA (some 2) 4 (ux 2)),kx 8 (.call 39 [.tmp 7]),kx 9 (.bini .neq (ux 8) c0)])
 (.cond (ux 9)
 (.seq (.regN [] [
 kx 4 (.mv (.con .e0))])
 .ret)
 .skip))
 (.seq (.regN [1,2] [
 kx 5 (.mv (.con .e0))])
 (.seq (.seq (.regN [1,2,5] [
 kx 6 (.mv c0)])
 (.block 0
 (.loop [1,2,5,6] Hn)))
 (.seq (.regN [5] [
 kx 29 (um 5),kx 4 (um 29)])
 .ret)))))
def t26:AFn:=⟨2,Lq,
 [.tmp 4],true⟩
def Cr:AC:=(.seq (.seq (.regN [0,1,4] [
 kx 7 (um 0),kx 8 (.len false (ux 7)),kx 9 (.bini .gtr (ux 8) c0),kx 10 (um 9),ky 11 10 (um 1),ky 12 10 (.len false (ux 11)),ky 13 10 (.bini .gtr (ux 12) c0),kx 14 (.pick (ux 10) (ux 13) cF)])
 (.cond (ux 14)
 .skip
 (.exit 0)))
 (.block 1
 (.seq (.regD [0,1,4] 0 [
 kx 15 (um 0),kx 16 (.ixA 1 (ux 15) c0),kx 17 (.ld1 none (ux 16)),kx 18 (um 1),kx 19 (.ixA 1 (ux 18) c0),kx 20 (.ld1 none (ux 19)),kf 21 (.call 114 [(ux 17),(ux 20)]),kx 6 (um 21)])
 (.block 2
 (.seq (.regN [0,1,4,6] [
 kx 25 (um 6),kx 26 (.bini .eql (ux 25) c0),kx 24 (um 26)])
 (.cond (ux 24)
 (.seq (.regN [0] [
 kx 27 (um 0),kx 28 (.ixA 1 (ux 27) c0),kx 29 (.ld1 none (ux 28)),kx 4 (um 29),kx 5 (.mv cT)])
 .ret)
 (.seq (.regN [0,1,4,6] [
 kx 31 (um 6),kx 32 (.bini .lss (ux 31) c0),kx 30 (um 32)])
 (.cond (ux 30)
 (.regN [0,1,4] [
 kx 33 (um 0),kx 34 (.slC 1 (ux 33) (some c1) none),kx 0 (um 34)])
 (.regN [0,1,4] [
 kx 22 (um 1),kx 23 (.slC 1 (ux 22) (some c1) none),kx 1 (um 23)])))))))))
def Ho:AC:=(.seq (.regN [0,1] [
 kx 4 (.mv (.con (.val (.string ⟨#[]⟩)))),kx 5 (.mv cF)])
 (.seq (.block 0
 (.loop [0,1,4] Cr))
 (.seq (.regN [4] [
 kx 35 (um 4),kx 4 (um 35),kx 5 (.mv cF)])
 .ret)))
def Je:AFn:=⟨2,Ho,
 [.tmp 4,.tmp 5],true⟩
def Hp:AC:=(.seq (.regN [0,1] [
 kx 4 (.mv c0)])
 (.seq (.regN [0,1] [
 kx 7 (um 0),kx 8 (.call 121 [.tmp 7]),kx 5 (um 8)])
 (.seq (.regN [0,1,5] [
 kx 9 (um 1),kx 10 (.call 121 [.tmp 9]),kx 6 (um 10)])
 (.seq (.seq (.regN [0,1,5,6] [
 kx 11 (um 5)])
 (.cond (ux 11)
 (.seq (.seq (.regN [6] [
 kx 12 (um 6)])
 (.cond (ux 12)
 (.seq (.regN [] [
 kx 4 (.mv c0)])
 .ret)
 .skip))
 (.seq (.regN [] [
 kx 4 (.mv (.con (.val (.int .i64 (-1)))))])
 .ret))
 .skip))
 (.seq (.seq (.regN [0,1,6] [
 kx 13 (um 6)])
 (.cond (ux 13)
 (.seq (.regN [] [
 kx 4 (.mv c1)])
 .ret)
 .skip))
 (.seq (.seq (.regN [0,1] [
 kx 14 (um 0),kx 15 (um 1),kx 16 (.bins .lss (ux 14) (ux 15))])
 (.cond (ux 16)
 (.seq (.regN [] [
 kx 4 (.mv (.con (.val (.int .i64 (-1)))))])
 .ret)
 .skip))
 (.seq (.seq (.regN [0,1] [
 kx 17 (um 0),kx 18 (um 1),kx 19 (.bins .gtr (ux 17) (ux 18))])
 (.cond (ux 19)
 (.seq (.regN [] [
 kx 4 (.mv c1)])
 .ret)
 .skip))
 (.seq (.regN [] [
 kx 4 (.mv c0)])
 .ret))))))))
def Jf:AFn:=⟨2,Hp,
 [.tmp 4],true⟩
def Hq:AC:=(.seq (.regN [0] [
 kx 2 (.mv cF)])
 (.seq (.regN [0] [
 kx 3 (um 0),kx 4 (um 0),kx 5 (.bins .neq (ux 3) (ux 4)),kx 2 (um 5)])
 .ret))
def Jg:AFn:=⟨1,Hq,
 [.tmp 2],true⟩
end Go.Proofs.YtkllbcjanneppaaGreat
