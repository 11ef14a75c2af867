/- The functions of a program, compiled: printed by wip/hm/tools/Gen.lean. -/
import Derived.Test.YtgbpioccaenjaaaHmG10
import Derived.Test.YtgbpioccaenjaaaHmG12
import Derived.Test.YtgbpioccaenjaaaRw
import Derived.Test.YtgbpioccaenjaaaRg
import Derived.Test.YtgbpioccaenjaaaCg
import Derived.Test.YtgbpioccaenjaaaRows
namespace Go.Proofs.Ytgbpioccaenjaaa
open Go Go.Hm
def kx (d : Nat) (o : AOp) : AI := ⟨some d, none, o, 0, false⟩
def ux (n : Nat) : AO := .tmp n
def t6B : AC := (.seq (.regN [0] [
 ⟨some 1, none, .boxR 4 (.tmp 0), 0, false⟩,⟨some 2, none, .mv (.con (.val (.bool false))), 0, false⟩])
 (.seq (.seq (.regN [1] [
 ⟨some 10, none, .call 8 [], 0, false⟩,⟨some 11, none, .not (.tmp 10), 0, false⟩])
 (.cond (.tmp 11)
 (.seq (.regN [] [
 ⟨some 2, none, .mv (.con (.val (.bool false))), 0, false⟩])
 .ret)
 .skip))
 (.seq (.seq (.regN [1] [
 ⟨some 12, none, .ldA (some 1) 4 (.tmp 1), 0, false⟩,⟨some 13, none, .call 9 [(.tmp 12)], 0, false⟩,⟨some 14, none, .not (.tmp 13), 0, false⟩])
 (.cond (.tmp 14)
 (.seq (.regN [] [
 ⟨some 2, none, .mv (.con (.val (.bool true))), 0, false⟩])
 .ret)
 .skip))
 (.seq (.regN [1] [
 ⟨some 15, none, .ldA (some 1) 4 (.tmp 1), 0, false⟩,⟨some 16, none, .call 19 [(.tmp 15)], 0, false⟩,⟨some 3, none, .mv (.tmp 16), 0, false⟩])
 (.seq (.seq (.regN [1, 3] [
 ⟨some 17, none, .ldA (some 1) 4 (.tmp 1), 0, false⟩,⟨some 18, none, .call 10 [(.tmp 17)], 0, false⟩,⟨some 19, none, .bini .neq (.tmp 18) (.con (.val (.int .i64 0))), 0, false⟩])
 (.cond (.tmp 19)
 (.seq (.regN [1, 3] [
 ⟨some 20, none, .mv (.tmp 3), 0, false⟩,⟨some 21, none, .ldA (some 1) 4 (.tmp 1), 0, false⟩,⟨some 22, none, .call 10 [(.tmp 21)], 0, false⟩,⟨some 23, none, .bini .eql (.tmp 20) (.tmp 22), 0, false⟩,⟨some 2, none, .mv (.tmp 23), 0, false⟩])
 .ret)
 .skip))
 (.seq (.regN [1, 3] [
 ⟨some 25, none, .ldA (some 1) 4 (.tmp 1), 0, false⟩,⟨some 26, none, .call 20 [(.tmp 25)], 0, false⟩,⟨some 24, none, .mv (.tmp 26), 0, false⟩,⟨some 27, none, .ext (.tmp 24) 0, 0, false⟩,⟨some 28, none, .ext (.tmp 24) 1, 0, false⟩,⟨some 4, none, .mv (.tmp 27), 0, false⟩,⟨some 5, none, .mv (.tmp 28), 0, false⟩])
 (.seq (.regN [1, 3, 5] [
 ⟨some 30, none, .ldA (some 1) 4 (.tmp 1), 0, false⟩,⟨some 31, none, .call 21 [(.tmp 30)], 0, false⟩,⟨some 29, none, .mv (.tmp 31), 0, false⟩,⟨some 32, none, .ext (.tmp 29) 0, 0, false⟩,⟨some 33, none, .ext (.tmp 29) 1, 0, false⟩,⟨some 6, none, .mv (.tmp 32), 0, false⟩,⟨some 7, none, .mv (.tmp 33), 0, false⟩])
 (.seq (.regN [1, 3, 5, 7] [
 ⟨some 35, none, .ldA (some 1) 4 (.tmp 1), 0, false⟩,⟨some 36, none, .call 22 [(.tmp 35)], 0, false⟩,⟨some 34, none, .mv (.tmp 36), 0, false⟩,⟨some 37, none, .ext (.tmp 34) 0, 0, false⟩,⟨some 38, none, .ext (.tmp 34) 1, 0, false⟩,⟨some 8, none, .allocR [(.val (.int .i64 0)), (.val (.int .i64 0)), (.val (.int .i64 0)), (.val (.string ⟨#[]⟩))], 0, false⟩,⟨none, none, .st (some 8) 4 (.tmp 8) (.tmp 37), 0, false⟩,⟨some 9, none, .mv (.tmp 38), 0, false⟩])
 (.seq (.block 0
 (.seq (.regN [3, 5, 7, 9] [
 ⟨some 40, none, .mv (.tmp 5), 0, false⟩,⟨some 41, none, .not (.tmp 40), 0, false⟩,⟨some 39, none, .mv (.tmp 41), 0, false⟩])
 (.cond (.tmp 39)
 (.seq (.regN [3] [
 ⟨some 42, none, .mv (.tmp 3), 0, false⟩,⟨some 43, none, .bini .eql (.tmp 42) (.con (.val (.int .i64 5))), 0, false⟩,⟨some 2, none, .mv (.tmp 43), 0, false⟩])
 .ret)
 (.seq (.regN [3, 7, 9] [
 ⟨some 45, none, .mv (.tmp 7), 0, false⟩,⟨some 44, none, .mv (.tmp 45), 0, false⟩])
 (.cond (.tmp 44)
 (.seq (.regN [3] [
 ⟨some 46, none, .mv (.tmp 3), 0, false⟩,⟨some 47, none, .bini .eql (.tmp 46) (.con (.val (.int .i64 4))), 0, false⟩,⟨some 2, none, .mv (.tmp 47), 0, false⟩])
 .ret)
 (.seq (.regN [3, 9] [
 ⟨some 49, none, .mv (.tmp 9), 0, false⟩,⟨some 50, none, .not (.tmp 49), 0, false⟩,⟨some 48, none, .mv (.tmp 50), 0, false⟩])
 (.cond (.tmp 48)
 (.seq (.regN [3] [
 ⟨some 51, none, .mv (.tmp 3), 0, false⟩,⟨some 52, none, .bini .eql (.tmp 51) (.con (.val (.int .i64 9))), 0, false⟩,⟨some 2, none, .mv (.tmp 52), 0, false⟩])
 .ret)
 .skip)))))))
 (.seq (.regN [3] [
 ⟨some 53, none, .mv (.tmp 3), 0, false⟩,⟨some 54, none, .bini .eql (.tmp 53) (.con (.val (.int .i64 0))), 0, false⟩,⟨some 2, none, .mv (.tmp 54), 0, false⟩])
 .ret))))))))))
def t6 : AFn := ⟨1, t6B,
 [.tmp 2], true⟩
def t8B : AC := (.seq (.regN [] [
 kx 0 (.mv (.con (.val (.bool false))))])
 (.seq (.regN [] [
 kx 8 (.call 23 [(.con (.val (.int .i64 1)))]),kx 9 (.call 13 [(ux 8)]),kx 7 (.mv (ux 9)),kx 10 (.ext (ux 7) 0),kx 11 (.ext (ux 7) 1),kx 12 (.ext (ux 7) 2),kx 1 (.allocR [.e0]),kx 2 (.allocR [(.val (.int .i64 0)), (.val (.int .i64 0)), (.val (.int .i64 0)), (.val (.string ⟨#[]⟩))]),⟨none, none, .st (some 1) 1 (ux 1) (ux 10), 0, false⟩,⟨none, none, .st (some 2) 4 (ux 2) (ux 11), 0, false⟩,kx 3 (.mv (ux 12))])
 (.seq (.regN [2, 3] [
 kx 14 (.call 23 [(.con (.val (.int .i64 2)))]),kx 15 (.call 13 [(ux 14)]),kx 13 (.mv (ux 15)),kx 16 (.ext (ux 13) 0),kx 17 (.ext (ux 13) 1),kx 18 (.ext (ux 13) 2),kx 4 (.allocR [.e0]),kx 5 (.allocR [(.val (.int .i64 0)), (.val (.int .i64 0)), (.val (.int .i64 0)), (.val (.string ⟨#[]⟩))]),⟨none, none, .st (some 4) 1 (ux 4) (ux 16), 0, false⟩,⟨none, none, .st (some 5) 4 (ux 5) (ux 17), 0, false⟩,kx 6 (.mv (ux 18))])
 (.seq (.regD [2, 3, 4, 6] 0 [
 kx 19 (.mv (ux 3)),kx 20 (.bini .eql (ux 19) (.con (.val (.int .i64 9)))),kx 21 (.mv (ux 20)),⟨some 22, some (21, true), .ldA (some 2) 4 (ux 2), 0, false⟩,⟨some 23, some (21, true), .build [(.val (.int .i64 0)), (.val (.int .i64 0)), (.val (.int .i64 0)), (.val (.string ⟨#[]⟩))] [(0, 1, (.con (.val (.int .i64 0)))), (1, 1, (.con (.val (.int .i64 0)))), (2, 1, (.con (.val (.int .i64 1)))), (3, 1, (.con (.val (.string ⟨#[0]⟩))))], 0, false⟩,⟨some 24, some (21, true), .eqa false [1, 1, 1, 2] (ux 22) (ux 23), 0, false⟩,kx 25 (.pick (ux 21) (ux 24) (.con (.val (.bool false)))),kx 26 (.mv (ux 25)),⟨some 27, some (26, true), .mv (ux 6), 0, false⟩,⟨some 28, some (26, true), .bini .eql (ux 27) (.con (.val (.int .i64 0))), 0, false⟩,kx 29 (.pick (ux 26) (ux 28) (.con (.val (.bool false)))),kx 30 (.mv (ux 29)),⟨some 31, some (30, true), .call 23 [(.con (.val (.int .i64 2)))], 0, true⟩,⟨some 32, some (30, true), .ldA (some 4) 1 (ux 4), 0, false⟩,⟨some 33, some (30, true), .call 17 [(ux 31), (ux 32), (.con (.val (.int .i64 0))), (.con (.val (.string ⟨#[0, 0]⟩)))], 0, true⟩,⟨some 34, some (30, true), .bini .eql (ux 33) (.con (.val (.int .i64 1))), 0, false⟩,kx 35 (.pick (ux 30) (ux 34) (.con (.val (.bool false)))),kx 0 (.mv (ux 35))])
 .ret))))
def t8 : AFn := ⟨0, t8B,
 [.tmp 0], true⟩
def t23B : AC := (.seq (.regN [0] [
 kx 2 (.allocR [(.val (.int .i64 0)), (.val (.int .i64 0)), (.val (.int .i64 0)), .e0])])
 (.seq (.regN [0, 2] [
 kx 3 (.mv (ux 0)),kx 4 (.buildS 2 [(.val (.int .i64 0)), (.val (.int .i64 0))] [(0, 1, (.con (.val (.int .i64 0)))), (1, 1, (.con (.val (.int .i64 1))))]),kx 5 (.build [(.val (.int .i64 0)), .e0] [(0, 1, (.con (.val (.int .i64 0)))), (1, 1, (ux 4))]),kx 6 (.buildS 2 [(.val (.int .i64 0)), (.val (.int .i64 0))] [(0, 1, (.con (.val (.int .i64 0)))), (1, 1, (.con (.val (.int .i64 0))))]),kx 7 (.build [(.val (.int .i64 0)), .e0] [(0, 1, (.con (.val (.int .i64 0)))), (1, 1, (ux 6))]),kx 8 (.buildS 2 [(.val (.int .i64 0)), .e0, (.val (.int .i64 0)), .e0] [(0, 2, (ux 5)), (2, 2, (ux 7))]),kx 9 (.build [(.val (.int .i64 0)), (.val (.int .i64 0)), (.val (.int .i64 0)), .e0] [(0, 1, (.con (.val (.int .i64 2)))), (1, 1, (.con (.val (.int .i64 1)))), (2, 1, (ux 3)), (3, 1, (ux 8))]),⟨none, none, .st (some 2) 4 (ux 2) (ux 9), 0, false⟩])
 .ret))
def t23 : AFn := ⟨1, t23B,
 [.cell 2 4 true], true⟩
def t13B : AC := (.seq (.regN [0] [
 ⟨some 1, none, .boxR 4 (.tmp 0), 0, false⟩,⟨some 2, none, .allocR [.e0], 0, false⟩,⟨some 3, none, .allocR [(.val (.int .i64 0)), (.val (.int .i64 0)), (.val (.int .i64 0)), (.val (.string ⟨#[]⟩))], 0, false⟩,⟨some 4, none, .mv (.con (.val (.int .i64 0))), 0, false⟩])
 (.seq (.seq (.regN [1, 2, 3] [
 ⟨some 8, none, .ldA (some 1) 4 (.tmp 1), 0, false⟩,⟨some 9, none, .call 28 [(.tmp 8)], 0, false⟩,⟨some 5, none, .mv (.tmp 9), 0, false⟩])
 (.seq (.regN [1, 2, 3, 5] [
 ⟨some 10, none, .mv (.tmp 5), 0, false⟩,⟨some 11, none, .bini .neq (.tmp 10) (.con (.val (.int .i64 0))), 0, false⟩])
 (.cond (.tmp 11)
 (.seq (.regD [2, 3, 5] 0 [
 ⟨some 12, none, .ldA (some 2) 1 (.tmp 2), 0, false⟩,⟨some 13, none, .ldA (some 3) 4 (.tmp 3), 0, false⟩,⟨some 14, none, .mv (.tmp 5), 0, false⟩,⟨none, none, .st (some 2) 1 (.tmp 2) (.tmp 12), 0, false⟩,⟨none, none, .st (some 3) 4 (.tmp 3) (.tmp 13), 0, false⟩,⟨some 4, none, .mv (.tmp 14), 0, false⟩])
 .ret)
 .skip)))
 (.seq (.regN [1, 2, 3] [
 ⟨some 15, none, .ldA (some 1) 4 (.tmp 1), 0, false⟩,⟨some 16, none, .call 29 [(.tmp 15)], 0, false⟩,⟨none, none, .st (some 2) 1 (.tmp 2) (.tmp 16), 0, false⟩])
 (.seq (.seq (.regN [1, 2, 3] [
 ⟨some 18, none, .ldA (some 1) 4 (.tmp 1), 0, false⟩,⟨some 19, none, .ldA (some 2) 1 (.tmp 2), 0, false⟩,⟨some 20, none, .call 30 [(.tmp 18), (.tmp 19)], 0, false⟩,⟨some 17, none, .mv (.tmp 20), 0, false⟩,⟨some 21, none, .ext (.tmp 17) 0, 0, false⟩,⟨some 22, none, .ext (.tmp 17) 1, 0, false⟩,⟨some 6, none, .allocR [(.val (.int .i64 0)), (.val (.int .i64 0)), (.val (.int .i64 0)), (.val (.string ⟨#[]⟩))], 0, false⟩,⟨none, none, .st (some 6) 4 (.tmp 6) (.tmp 21), 0, false⟩,⟨some 7, none, .mv (.tmp 22), 0, false⟩])
 (.seq (.regN [2, 3, 6, 7] [
 ⟨some 23, none, .mv (.tmp 7), 0, false⟩])
 (.cond (.tmp 23)
 (.seq (.regD [2, 3, 6] 0 [
 ⟨some 24, none, .build [.e0] [], 0, false⟩,⟨some 25, none, .ldA (some 6) 4 (.tmp 6), 0, false⟩,⟨none, none, .st (some 2) 1 (.tmp 2) (.tmp 24), 0, false⟩,⟨none, none, .st (some 3) 4 (.tmp 3) (.tmp 25), 0, false⟩,⟨some 4, none, .mv (.con (.val (.int .i64 9))), 0, false⟩])
 .ret)
 .skip)))
 (.seq (.regD [2, 3] 0 [
 ⟨some 26, none, .ldA (some 2) 1 (.tmp 2), 0, false⟩,⟨some 27, none, .ldA (some 3) 4 (.tmp 3), 0, false⟩,⟨none, none, .st (some 2) 1 (.tmp 2) (.tmp 26), 0, false⟩,⟨none, none, .st (some 3) 4 (.tmp 3) (.tmp 27), 0, false⟩,⟨some 4, none, .mv (.con (.val (.int .i64 0))), 0, false⟩])
 .ret)))))
def t13 : AFn := ⟨1, t13B,
 [.cell 2 1 true, .cell 3 4 true, .tmp 4], true⟩
def t28L1 : AC := (.seq (.regN [1, 39, 40, 41] [
 ⟨some 42, none, .bini .lss (.tmp 41) (.tmp 40), 0, false⟩])
 (.seq (.cond (.tmp 42)
 .skip
 (.exit 0))
 (.seq (.block 1
 (.seq (.regN [1, 39, 40, 41] [
 ⟨some 43, none, .ixA 2 (.tmp 39) (.tmp 41), 0, false⟩,⟨some 44, none, .ldA none 2 (.tmp 43), 0, false⟩,⟨some 4, none, .allocR [(.val (.int .i64 0)), .e0], 0, false⟩,⟨none, none, .st (some 4) 2 (.tmp 4) (.tmp 44), 0, false⟩])
 (.seq (.regN [1, 4, 39, 40, 41] [
 ⟨some 45, none, .fldA 0 (.tmp 4), 0, false⟩,⟨some 46, none, .ld1 (some 4) (.tmp 45), 0, false⟩,⟨some 47, none, .bini .lss (.tmp 46) (.con (.val (.int .i64 0))), 0, false⟩,⟨some 48, none, .mv (.tmp 47), 0, false⟩,⟨some 49, some (48, false), .fldA 0 (.tmp 4), 0, false⟩,⟨some 50, some (48, false), .ld1 (some 4) (.tmp 49), 0, false⟩,⟨some 51, some (48, false), .fldA 1 (.tmp 1), 0, false⟩,⟨some 52, some (48, false), .ld1 none (.tmp 51), 0, false⟩,⟨some 53, some (48, false), .bini .geq (.tmp 50) (.tmp 52), 0, false⟩,⟨some 54, none, .pick (.tmp 48) (.con (.val (.bool true))) (.tmp 53), 0, false⟩,⟨some 55, none, .mv (.tmp 54), 0, false⟩,⟨some 56, some (55, false), .fldA 1 (.tmp 4), 0, false⟩,⟨some 57, some (55, false), .ld1 (some 4) (.tmp 56), 0, false⟩,⟨some 58, some (55, false), .mkf 48 [(.tmp 1)], 0, false⟩,⟨some 59, some (55, false), .call 47 [(.tmp 57), (.tmp 58)], 0, false⟩,⟨some 60, none, .pick (.tmp 55) (.con (.val (.bool true))) (.tmp 59), 0, false⟩])
 (.cond (.tmp 60)
 (.seq (.regN [] [
 ⟨some 2, none, .mv (.con (.val (.int .i64 2))), 0, false⟩])
 .ret)
 .skip))))
 (.regN [1, 39, 40, 41] [
 ⟨some 61, none, .bini .add (.tmp 41) (.con (.val (.int .i64 1))), 0, false⟩,⟨some 41, none, .mv (.tmp 61), 0, false⟩]))))
def t28B : AC := (.seq (.regN [0] [
 ⟨some 1, none, .boxH 4 (.tmp 0), 0, false⟩,⟨some 2, none, .mv (.con (.val (.int .i64 0))), 0, false⟩])
 (.seq (.seq (.regN [1] [
 ⟨some 5, none, .fldA 0 (.tmp 1), 0, false⟩,⟨some 6, none, .ld1 none (.tmp 5), 0, false⟩,⟨some 7, none, .bini .gtr (.tmp 6) (.con (.val (.int .i64 8))), 0, false⟩,⟨some 8, none, .mv (.tmp 7), 0, false⟩,⟨some 9, some (8, false), .fldA 1 (.tmp 1), 0, false⟩,⟨some 10, some (8, false), .ld1 none (.tmp 9), 0, false⟩,⟨some 11, some (8, false), .bini .gtr (.tmp 10) (.con (.val (.int .i64 16))), 0, false⟩,⟨some 12, none, .pick (.tmp 8) (.con (.val (.bool true))) (.tmp 11), 0, false⟩,⟨some 13, none, .mv (.tmp 12), 0, false⟩,⟨some 14, some (13, false), .fldA 2 (.tmp 1), 0, false⟩,⟨some 15, some (13, false), .ld1 none (.tmp 14), 0, false⟩,⟨some 16, some (13, false), .bini .gtr (.tmp 15) (.con (.val (.int .i64 3))), 0, false⟩,⟨some 17, none, .pick (.tmp 13) (.con (.val (.bool true))) (.tmp 16), 0, false⟩,⟨some 18, none, .mv (.tmp 17), 0, false⟩,⟨some 19, some (18, false), .fldA 3 (.tmp 1), 0, false⟩,⟨some 20, some (18, false), .ld1 none (.tmp 19), 0, false⟩,⟨some 21, some (18, false), .len false (.tmp 20), 0, false⟩,⟨some 22, some (18, false), .bini .gtr (.tmp 21) (.con (.val (.int .i64 64))), 0, false⟩,⟨some 23, none, .pick (.tmp 18) (.con (.val (.bool true))) (.tmp 22), 0, false⟩])
 (.cond (.tmp 23)
 (.seq (.regN [] [
 ⟨some 2, none, .mv (.con (.val (.int .i64 3))), 0, false⟩])
 .ret)
 .skip))
 (.seq (.seq (.regN [1] [
 ⟨some 24, none, .fldA 3 (.tmp 1), 0, false⟩,⟨some 25, none, .ld1 none (.tmp 24), 0, false⟩,⟨some 26, none, .call 45 [(.tmp 25), (.con (.fn 46 []))], 0, false⟩])
 (.cond (.tmp 26)
 (.seq (.regN [] [
 ⟨some 2, none, .mv (.con (.val (.int .i64 3))), 0, false⟩])
 .ret)
 .skip))
 (.seq (.seq (.regN [1] [
 ⟨some 27, none, .fldA 0 (.tmp 1), 0, false⟩,⟨some 28, none, .ld1 none (.tmp 27), 0, false⟩,⟨some 29, none, .fldA 1 (.tmp 1), 0, false⟩,⟨some 30, none, .ld1 none (.tmp 29), 0, false⟩,⟨some 31, none, .fldA 2 (.tmp 1), 0, false⟩,⟨some 32, none, .ld1 none (.tmp 31), 0, false⟩,⟨some 33, none, .fldA 3 (.tmp 1), 0, false⟩,⟨some 34, none, .ld1 none (.tmp 33), 0, false⟩,⟨some 35, none, .len false (.tmp 34), 0, false⟩,⟨some 36, none, .mm false [(.tmp 28), (.tmp 30), (.tmp 32), (.tmp 35)], 0, false⟩,⟨some 37, none, .bini .lss (.tmp 36) (.con (.val (.int .i64 1))), 0, false⟩])
 (.cond (.tmp 37)
 (.seq (.regN [] [
 ⟨some 2, none, .mv (.con (.val (.int .i64 2))), 0, false⟩])
 .ret)
 .skip))
 (.seq (.seq (.regN [1] [
 ⟨some 38, none, .fldA 3 (.tmp 1), 0, false⟩,⟨some 39, none, .ld1 none (.tmp 38), 0, false⟩,⟨some 40, none, .len false (.tmp 39), 0, false⟩,⟨some 41, none, .mv (.con (.val (.int .i64 0))), 0, false⟩])
 (.block 0
 (.loop [1, 39, 40, 41] t28L1)))
 (.seq (.regN [] [
 ⟨some 2, none, .mv (.con (.val (.int .i64 0))), 0, false⟩])
 .ret))))))
def t28 : AFn := ⟨1, t28B,
 [.tmp 2], true⟩
def t45B : AC := (.seq (.regN [0, 1] [
 ⟨some 4, none, .mv (.con (.val (.bool false))), 0, false⟩])
 (.seq (.regN [0, 1] [
 ⟨some 5, none, .mv (.tmp 0), 0, false⟩,⟨some 6, none, .mv (.tmp 1), 0, false⟩,⟨some 7, none, .call 63 [(.tmp 5), (.tmp 6)], 0, false⟩,⟨some 8, none, .bini .geq (.tmp 7) (.con (.val (.int .i64 0))), 0, false⟩,⟨some 4, none, .mv (.tmp 8), 0, false⟩])
 .ret))
def t45 : AFn := ⟨2, t45B,
 [.tmp 4], true⟩
def t63L1 : AC := (.seq (.regN [0, 1, 7, 8] [
 ⟨some 9, none, .bini .lss (.tmp 8) (.tmp 7), 0, false⟩])
 (.seq (.cond (.tmp 9)
 .skip
 (.exit 0))
 (.seq (.block 1
 (.seq (.regN [0, 1, 7, 8] [
 ⟨some 10, none, .mv (.tmp 8), 0, false⟩,⟨some 5, none, .mv (.tmp 10), 0, false⟩])
 (.seq (.regN [0, 1, 5, 7, 8] [
 ⟨some 11, none, .mv (.tmp 1), 0, false⟩,⟨some 12, none, .mv (.tmp 0), 0, false⟩,⟨some 13, none, .mv (.tmp 5), 0, false⟩,⟨some 14, none, .ixA 2 (.tmp 12) (.tmp 13), 0, false⟩,⟨some 15, none, .ldA none 2 (.tmp 14), 0, false⟩,⟨some 16, none, .callv (.tmp 11) [(.tmp 15)], 0, false⟩])
 (.cond (.tmp 16)
 (.seq (.regN [5] [
 ⟨some 17, none, .mv (.tmp 5), 0, false⟩,⟨some 4, none, .mv (.tmp 17), 0, false⟩])
 .ret)
 .skip))))
 (.regN [0, 1, 7, 8] [
 ⟨some 18, none, .bini .add (.tmp 8) (.con (.val (.int .i64 1))), 0, false⟩,⟨some 8, none, .mv (.tmp 18), 0, false⟩]))))
def t63B : AC := (.seq (.regN [0, 1] [
 ⟨some 4, none, .mv (.con (.val (.int .i64 0))), 0, false⟩])
 (.seq (.seq (.regN [0, 1] [
 ⟨some 6, none, .mv (.tmp 0), 0, false⟩,⟨some 7, none, .len false (.tmp 6), 0, false⟩,⟨some 8, none, .mv (.con (.val (.int .i64 0))), 0, false⟩])
 (.block 0
 (.loop [0, 1, 7, 8] t63L1)))
 (.seq (.regN [] [
 ⟨some 4, none, .mv (.con (.val (.int .i64 (-1)))), 0, false⟩])
 .ret)))
def t63 : AFn := ⟨2, t63B,
 [.tmp 4], true⟩
def t46B : AC := (.seq (.regN [0] [
 ⟨some 1, none, .boxR 2 (.tmp 0), 0, false⟩,⟨some 2, none, .mv (.con (.val (.bool false))), 0, false⟩])
 (.seq (.regN [1] [
 ⟨some 3, none, .fldA 1 (.tmp 1), 0, false⟩,⟨some 4, none, .ld1 (some 1) (.tmp 3), 0, false⟩,⟨some 5, none, .len false (.tmp 4), 0, false⟩,⟨some 6, none, .bini .gtr (.tmp 5) (.con (.val (.int .i64 8))), 0, false⟩,⟨some 2, none, .mv (.tmp 6), 0, false⟩])
 .ret))
def t46 : AFn := ⟨1, t46B,
 [.tmp 2], true⟩
def t48B : AC := (.seq (.regN [0, 1] [
 ⟨some 3, none, .mv (.con (.val (.bool false))), 0, false⟩])
 (.seq (.regN [0, 1] [
 ⟨some 4, none, .mv (.tmp 0), 0, false⟩,⟨some 5, none, .bini .lss (.tmp 4) (.con (.val (.int .i64 0))), 0, false⟩,⟨some 6, none, .mv (.tmp 5), 0, false⟩,⟨some 7, some (6, false), .mv (.tmp 0), 0, false⟩,⟨some 8, some (6, false), .fldA 0 (.tmp 1), 0, false⟩,⟨some 9, some (6, false), .ld1 none (.tmp 8), 0, false⟩,⟨some 10, some (6, false), .fldA 1 (.tmp 1), 0, false⟩,⟨some 11, some (6, false), .ld1 none (.tmp 10), 0, false⟩,⟨some 12, some (6, false), .bini .add (.tmp 9) (.tmp 11), 0, false⟩,⟨some 13, some (6, false), .bini .geq (.tmp 7) (.tmp 12), 0, false⟩,⟨some 14, none, .pick (.tmp 6) (.con (.val (.bool true))) (.tmp 13), 0, false⟩,⟨some 3, none, .mv (.tmp 14), 0, false⟩])
 .ret))
def t48 : AFn := ⟨2, t48B,
 [.tmp 3], true⟩
def t47B : AC := (.seq (.regN [0, 1] [
 ⟨some 4, none, .mv (.con (.val (.bool false))), 0, false⟩])
 (.seq (.regN [0, 1] [
 ⟨some 5, none, .mv (.tmp 0), 0, false⟩,⟨some 6, none, .mv (.tmp 1), 0, false⟩,⟨some 7, none, .call 64 [(.tmp 5), (.tmp 6)], 0, false⟩,⟨some 8, none, .bini .geq (.tmp 7) (.con (.val (.int .i64 0))), 0, false⟩,⟨some 4, none, .mv (.tmp 8), 0, false⟩])
 .ret))
def t47 : AFn := ⟨2, t47B,
 [.tmp 4], true⟩
def t64L1 : AC := (.seq (.regN [0, 1, 7, 8] [
 ⟨some 9, none, .bini .lss (.tmp 8) (.tmp 7), 0, false⟩])
 (.seq (.cond (.tmp 9)
 .skip
 (.exit 0))
 (.seq (.block 1
 (.seq (.regN [0, 1, 7, 8] [
 ⟨some 10, none, .mv (.tmp 8), 0, false⟩,⟨some 5, none, .mv (.tmp 10), 0, false⟩])
 (.seq (.regN [0, 1, 5, 7, 8] [
 ⟨some 11, none, .mv (.tmp 1), 0, false⟩,⟨some 12, none, .mv (.tmp 0), 0, false⟩,⟨some 13, none, .mv (.tmp 5), 0, false⟩,⟨some 14, none, .ixA 1 (.tmp 12) (.tmp 13), 0, false⟩,⟨some 15, none, .ld1 none (.tmp 14), 0, false⟩,⟨some 16, none, .callv (.tmp 11) [(.tmp 15)], 0, false⟩])
 (.cond (.tmp 16)
 (.seq (.regN [5] [
 ⟨some 17, none, .mv (.tmp 5), 0, false⟩,⟨some 4, none, .mv (.tmp 17), 0, false⟩])
 .ret)
 .skip))))
 (.regN [0, 1, 7, 8] [
 ⟨some 18, none, .bini .add (.tmp 8) (.con (.val (.int .i64 1))), 0, false⟩,⟨some 8, none, .mv (.tmp 18), 0, false⟩]))))
def t64B : AC := (.seq (.regN [0, 1] [
 ⟨some 4, none, .mv (.con (.val (.int .i64 0))), 0, false⟩])
 (.seq (.seq (.regN [0, 1] [
 ⟨some 6, none, .mv (.tmp 0), 0, false⟩,⟨some 7, none, .len false (.tmp 6), 0, false⟩,⟨some 8, none, .mv (.con (.val (.int .i64 0))), 0, false⟩])
 (.block 0
 (.loop [0, 1, 7, 8] t64L1)))
 (.seq (.regN [] [
 ⟨some 4, none, .mv (.con (.val (.int .i64 (-1)))), 0, false⟩])
 .ret)))
def t64 : AFn := ⟨2, t64B,
 [.tmp 4], true⟩
def t29L1 : AC := (.seq (.regN [1, 2, 3, 4, 12, 13, 14] [
 ⟨some 15, none, .bini .lss (.tmp 14) (.tmp 13), 0, false⟩])
 (.seq (.cond (.tmp 15)
 .skip
 (.exit 0))
 (.seq (.block 1
 (.seq (.regN [1, 2, 3, 4, 12, 13, 14] [
 ⟨some 16, none, .ixA 2 (.tmp 12) (.tmp 14), 0, false⟩,⟨some 17, none, .ldA none 2 (.tmp 16), 0, false⟩,⟨some 6, none, .allocR [(.val (.int .i64 0)), .e0], 0, false⟩,⟨none, none, .st (some 6) 2 (.tmp 6) (.tmp 17), 0, false⟩])
 (.regD [1, 2, 3, 4, 6, 12, 13, 14] 0 [
 ⟨some 18, none, .fldA 0 (.tmp 2), 0, false⟩,⟨some 19, none, .ld1 (some 2) (.tmp 18), 0, false⟩,⟨some 20, none, .fldA 2 (.tmp 1), 0, false⟩,⟨some 21, none, .ld1 (some 1) (.tmp 20), 0, false⟩,⟨some 22, none, .ldA (some 1) 4 (.tmp 1), 0, false⟩,⟨some 23, none, .mv (.tmp 3), 0, false⟩,⟨some 24, none, .fldA 1 (.tmp 6), 0, false⟩,⟨some 25, none, .ld1 (some 6) (.tmp 24), 0, false⟩,⟨some 26, none, .call 52 [(.tmp 22), (.tmp 23), (.tmp 25)], 0, false⟩,⟨some 27, none, .mv (.tmp 4), 0, false⟩,⟨some 28, none, .fldA 0 (.tmp 6), 0, false⟩,⟨some 29, none, .ld1 (some 6) (.tmp 28), 0, false⟩,⟨some 30, none, .ixA 1 (.tmp 27) (.tmp 29), 0, false⟩,⟨some 31, none, .ld1 none (.tmp 30), 0, false⟩,⟨some 32, none, .call 51 [(.tmp 21), (.tmp 26), (.tmp 31)], 0, true⟩,⟨some 33, none, .buildS 1 [.e0] [(0, 1, (.tmp 32))], 0, false⟩,⟨some 34, none, .app 1 24 (.tmp 19) (.tmp 33), 0, false⟩,⟨some 35, none, .fldA 0 (.tmp 2), 0, false⟩,⟨none, none, .st (some 2) 1 (.tmp 35) (.tmp 34), 0, false⟩])))
 (.regN [1, 2, 3, 4, 12, 13, 14] [
 ⟨some 36, none, .bini .add (.tmp 14) (.con (.val (.int .i64 1))), 0, false⟩,⟨some 14, none, .mv (.tmp 36), 0, false⟩]))))
def t29B : AC := (.seq (.regN [0] [
 ⟨some 1, none, .boxR 4 (.tmp 0), 0, false⟩,⟨some 2, none, .allocR [.e0], 0, false⟩])
 (.seq (.regD [1, 2] 0 [
 ⟨some 7, none, .ldA (some 1) 4 (.tmp 1), 0, false⟩,⟨some 8, none, .call 49 [(.tmp 7)], 0, true⟩,⟨some 9, none, .ldA (some 1) 4 (.tmp 1), 0, false⟩,⟨some 10, none, .call 50 [(.tmp 9)], 0, true⟩,⟨some 3, none, .mv (.tmp 8), 0, false⟩,⟨some 4, none, .mv (.tmp 10), 0, false⟩])
 (.seq (.seq (.regN [1, 2, 3, 4] [
 ⟨some 11, none, .fldA 3 (.tmp 1), 0, false⟩,⟨some 12, none, .ld1 (some 1) (.tmp 11), 0, false⟩,⟨some 13, none, .len false (.tmp 12), 0, false⟩,⟨some 14, none, .mv (.con (.val (.int .i64 0))), 0, false⟩])
 (.block 0
 (.loop [1, 2, 3, 4, 12, 13, 14] t29L1)))
 (.seq (.regN [2] [
 ⟨some 37, none, .ldA (some 2) 1 (.tmp 2), 0, false⟩,⟨none, none, .st (some 2) 1 (.tmp 2) (.tmp 37), 0, false⟩])
 .ret))))
def t29 : AFn := ⟨1, t29B,
 [.cell 2 1 true], true⟩
def t49L1 : AC := (.seq (.regN [1, 3, 4, 16, 17, 18] [
 ⟨some 19, none, .bini .lss (.tmp 18) (.tmp 17), 0, false⟩])
 (.seq (.cond (.tmp 19)
 .skip
 (.exit 2))
 (.seq (.block 3
 (.seq (.regN [1, 3, 4, 16, 17, 18] [
 ⟨some 20, none, .ixA 2 (.tmp 16) (.tmp 18), 0, false⟩,⟨some 21, none, .ldA none 2 (.tmp 20), 0, false⟩,⟨some 6, none, .allocR [(.val (.int .i64 0)), .e0], 0, false⟩,⟨none, none, .st (some 6) 2 (.tmp 6) (.tmp 21), 0, false⟩])
 (.seq (.regD [1, 3, 4, 6, 16, 17, 18] 0 [
 ⟨some 22, none, .mv (.tmp 3), 0, false⟩,⟨some 23, none, .fldA 0 (.tmp 6), 0, false⟩,⟨some 24, none, .ld1 (some 6) (.tmp 23), 0, false⟩,⟨some 25, none, .ixA 1 (.tmp 22) (.tmp 24), 0, false⟩,⟨some 26, none, .ld1 none (.tmp 25), 0, false⟩,⟨some 27, none, .ldA (some 1) 4 (.tmp 1), 0, false⟩,⟨some 28, none, .mv (.tmp 3), 0, false⟩,⟨some 29, none, .fldA 1 (.tmp 6), 0, false⟩,⟨some 30, none, .ld1 (some 6) (.tmp 29), 0, false⟩,⟨some 31, none, .call 66 [(.tmp 27), (.tmp 28), (.tmp 30)], 0, false⟩,⟨some 32, none, .call 65 [(.tmp 26), (.tmp 31)], 0, true⟩,⟨some 7, none, .mv (.tmp 32), 0, false⟩])
 (.seq (.regN [1, 3, 4, 6, 7, 16, 17, 18] [
 ⟨some 33, none, .mv (.tmp 4), 0, false⟩,⟨some 34, none, .mv (.tmp 33), 0, false⟩,⟨some 35, some (34, false), .mv (.tmp 7), 0, false⟩,⟨some 36, some (34, false), .len false (.tmp 35), 0, false⟩,⟨some 37, some (34, false), .mv (.tmp 3), 0, false⟩,⟨some 38, some (34, false), .fldA 0 (.tmp 6), 0, false⟩,⟨some 39, some (34, false), .ld1 (some 6) (.tmp 38), 0, false⟩,⟨some 40, some (34, false), .ixA 1 (.tmp 37) (.tmp 39), 0, false⟩,⟨some 41, some (34, false), .ld1 none (.tmp 40), 0, false⟩,⟨some 42, some (34, false), .len false (.tmp 41), 0, false⟩,⟨some 43, some (34, false), .bini .gtr (.tmp 36) (.tmp 42), 0, false⟩,⟨some 44, none, .pick (.tmp 34) (.con (.val (.bool true))) (.tmp 43), 0, false⟩,⟨some 4, none, .mv (.tmp 44), 0, false⟩])
 (.regN [1, 3, 4, 6, 7, 16, 17, 18] [
 ⟨some 45, none, .mv (.tmp 3), 0, false⟩,⟨some 46, none, .fldA 0 (.tmp 6), 0, false⟩,⟨some 47, none, .ld1 (some 6) (.tmp 46), 0, false⟩,⟨some 48, none, .mv (.tmp 7), 0, false⟩,⟨some 49, none, .ixA 1 (.tmp 45) (.tmp 47), 0, false⟩,⟨none, none, .st none 1 (.tmp 49) (.tmp 48), 0, false⟩])))))
 (.regN [1, 3, 4, 16, 17, 18] [
 ⟨some 50, none, .bini .add (.tmp 18) (.con (.val (.int .i64 1))), 0, false⟩,⟨some 18, none, .mv (.tmp 50), 0, false⟩]))))
def t49L2 : AC := (.seq (.seq (.regN [1, 3, 4] [
 ⟨some 14, none, .mv (.tmp 4), 0, false⟩])
 (.cond (.tmp 14)
 .skip
 (.exit 0)))
 (.block 1
 (.seq (.regN [1, 3] [
 ⟨some 4, none, .mv (.con (.val (.bool false))), 0, false⟩])
 (.seq (.regN [1, 3, 4] [
 ⟨some 15, none, .fldA 3 (.tmp 1), 0, false⟩,⟨some 16, none, .ld1 (some 1) (.tmp 15), 0, false⟩,⟨some 17, none, .len false (.tmp 16), 0, false⟩,⟨some 18, none, .mv (.con (.val (.int .i64 0))), 0, false⟩])
 (.block 2
 (.loop [1, 3, 4, 16, 17, 18] t49L1))))))
def t49B : AC := (.seq (.regN [0] [
 ⟨some 1, none, .boxR 4 (.tmp 0), 0, false⟩,⟨some 2, none, .mv (.con .e0), 0, false⟩])
 (.seq (.seq (.regN [1] [
 ⟨some 8, none, .ldA (some 1) 4 (.tmp 1), 0, false⟩,⟨some 9, none, .call 28 [(.tmp 8)], 0, false⟩,⟨some 10, none, .bini .neq (.tmp 9) (.con (.val (.int .i64 0))), 0, false⟩])
 (.cond (.tmp 10)
 (.seq (.regN [] [
 ⟨some 2, none, .mv (.con .e0), 0, false⟩])
 .ret)
 .skip))
 (.seq (.regN [1] [
 ⟨some 11, none, .fldA 1 (.tmp 1), 0, false⟩,⟨some 12, none, .ld1 (some 1) (.tmp 11), 0, false⟩,⟨some 13, none, .mks 1 24 [.e0] (.tmp 12), 0, false⟩,⟨some 3, none, .mv (.tmp 13), 0, false⟩])
 (.seq (.seq (.regN [1, 3] [
 ⟨some 4, none, .mv (.con (.val (.bool true))), 0, false⟩])
 (.block 0
 (.loop [1, 3, 4] t49L2)))
 (.seq (.regN [3] [
 ⟨some 51, none, .mv (.tmp 3), 0, false⟩,⟨some 2, none, .mv (.tmp 51), 0, false⟩])
 .ret)))))
def t49 : AFn := ⟨1, t49B,
 [.tmp 2], true⟩
def t66L1 : AC := (.seq (.regN [1, 3, 7, 12, 13, 14] [
 ⟨some 15, none, .bini .lss (.tmp 14) (.tmp 13), 0, false⟩])
 (.seq (.cond (.tmp 15)
 .skip
 (.exit 0))
 (.seq (.block 1
 (.seq (.regN [1, 3, 7, 12, 13, 14] [
 ⟨some 16, none, .ixA 1 (.tmp 12) (.tmp 14), 0, false⟩,⟨some 17, none, .ld1 none (.tmp 16), 0, false⟩,⟨some 9, none, .mv (.tmp 17), 0, false⟩])
 (.seq (.regN [1, 3, 7, 9, 12, 13, 14] [
 ⟨some 18, none, .mv (.tmp 9), 0, false⟩,⟨some 19, none, .cvi .u8 (.tmp 18), 0, false⟩,⟨some 20, none, .buildS 1 [(.val (.int .u8 0))] [(0, 1, (.tmp 19))], 0, false⟩,⟨some 21, none, .b2s (.tmp 20), 0, false⟩,⟨some 22, none, .buildS 1 [(.val (.string ⟨#[]⟩))] [(0, 1, (.tmp 21))], 0, false⟩,⟨some 10, none, .mv (.tmp 22), 0, false⟩])
 (.seq (.seq (.regN [1, 3, 7, 9, 10, 12, 13, 14] [
 ⟨some 23, none, .mv (.tmp 9), 0, false⟩,⟨some 24, none, .fldA 0 (.tmp 3), 0, false⟩,⟨some 25, none, .ld1 (some 3) (.tmp 24), 0, false⟩,⟨some 26, none, .bini .geq (.tmp 23) (.tmp 25), 0, false⟩])
 (.cond (.tmp 26)
 (.regN [1, 3, 7, 9, 12, 13, 14] [
 ⟨some 27, none, .mv (.tmp 1), 0, false⟩,⟨some 28, none, .mv (.tmp 9), 0, false⟩,⟨some 29, none, .fldA 0 (.tmp 3), 0, false⟩,⟨some 30, none, .ld1 (some 3) (.tmp 29), 0, false⟩,⟨some 31, none, .bini .sub (.tmp 28) (.tmp 30), 0, false⟩,⟨some 32, none, .ixA 1 (.tmp 27) (.tmp 31), 0, false⟩,⟨some 33, none, .ld1 none (.tmp 32), 0, false⟩,⟨some 10, none, .mv (.tmp 33), 0, false⟩])
 .skip))
 (.regN [1, 3, 7, 10, 12, 13, 14] [
 ⟨some 34, none, .fldA 2 (.tmp 3), 0, false⟩,⟨some 35, none, .ld1 (some 3) (.tmp 34), 0, false⟩,⟨some 36, none, .mv (.tmp 7), 0, false⟩,⟨some 37, none, .mv (.tmp 10), 0, false⟩,⟨some 38, none, .call 51 [(.tmp 35), (.tmp 36), (.tmp 37)], 0, false⟩,⟨some 7, none, .mv (.tmp 38), 0, false⟩])))))
 (.regN [1, 3, 7, 12, 13, 14] [
 ⟨some 39, none, .bini .add (.tmp 14) (.con (.val (.int .i64 1))), 0, false⟩,⟨some 14, none, .mv (.tmp 39), 0, false⟩]))))
def t66B : AC := (.seq (.regN [0, 1, 2] [
 ⟨some 3, none, .boxR 4 (.tmp 0), 0, false⟩,⟨some 6, none, .mv (.con .e0), 0, false⟩])
 (.seq (.regN [1, 2, 3] [
 ⟨some 11, none, .buildS 1 [(.val (.string ⟨#[]⟩))] [(0, 1, (.con (.val (.string ⟨#[]⟩))))], 0, false⟩,⟨some 7, none, .mv (.tmp 11), 0, false⟩])
 (.seq (.seq (.regN [1, 2, 3, 7] [
 ⟨some 12, none, .mv (.tmp 2), 0, false⟩,⟨some 13, none, .len false (.tmp 12), 0, false⟩,⟨some 14, none, .mv (.con (.val (.int .i64 0))), 0, false⟩])
 (.block 0
 (.loop [1, 3, 7, 12, 13, 14] t66L1)))
 (.seq (.regN [7] [
 ⟨some 40, none, .mv (.tmp 7), 0, false⟩,⟨some 6, none, .mv (.tmp 40), 0, false⟩])
 .ret))))
def t66 : AFn := ⟨3, t66B,
 [.tmp 6], true⟩
def t51L1 : AC := (.seq (.regN [0, 2, 7, 9, 19, 20, 21, 37, 38, 39] [
 ⟨some 40, none, .bini .lss (.tmp 39) (.tmp 38), 0, false⟩])
 (.seq (.cond (.tmp 40)
 .skip
 (.exit 2))
 (.seq (.block 3
 (.seq (.regN [0, 2, 7, 9, 19, 20, 21, 37, 38, 39] [
 ⟨some 41, none, .ixA 1 (.tmp 37) (.tmp 39), 0, false⟩,⟨some 42, none, .ld1 none (.tmp 41), 0, false⟩,⟨some 11, none, .mv (.tmp 42), 0, false⟩])
 (.seq (.regN [0, 2, 7, 9, 11, 19, 20, 21, 37, 38, 39] [
 ⟨some 43, none, .mv (.tmp 9), 0, false⟩,⟨some 44, none, .mv (.tmp 11), 0, false⟩,⟨some 45, none, .bins .add (.tmp 43) (.tmp 44), 0, false⟩,⟨some 12, none, .mv (.tmp 45), 0, false⟩])
 (.regN [0, 2, 7, 9, 12, 19, 20, 21, 37, 38, 39] [
 ⟨some 46, none, .mv (.tmp 7), 0, false⟩,⟨some 47, none, .mv (.tmp 12), 0, false⟩,⟨some 48, none, .mv (.tmp 0), 0, false⟩,⟨some 49, none, .mv (.tmp 12), 0, false⟩,⟨some 50, none, .len true (.tmp 49), 0, false⟩,⟨some 51, none, .mm false [(.tmp 48), (.tmp 50)], 0, false⟩,⟨some 52, none, .slS (.tmp 47) none (some (.tmp 51)), 0, false⟩,⟨some 53, none, .buildS 1 [(.val (.string ⟨#[]⟩))] [(0, 1, (.tmp 52))], 0, false⟩,⟨some 54, none, .call 71 [(.tmp 46), (.tmp 53)], 0, false⟩]))))
 (.regN [0, 2, 7, 9, 19, 20, 21, 37, 38, 39] [
 ⟨some 55, none, .bini .add (.tmp 39) (.con (.val (.int .i64 1))), 0, false⟩,⟨some 39, none, .mv (.tmp 55), 0, false⟩]))))
def t51L2 : AC := (.seq (.regN [0, 2, 7, 19, 20, 21] [
 ⟨some 22, none, .bini .lss (.tmp 21) (.tmp 20), 0, false⟩])
 (.seq (.cond (.tmp 22)
 .skip
 (.exit 0))
 (.seq (.block 1
 (.seq (.regN [0, 2, 7, 19, 20, 21] [
 ⟨some 23, none, .ixA 1 (.tmp 19) (.tmp 21), 0, false⟩,⟨some 24, none, .ld1 none (.tmp 23), 0, false⟩,⟨some 9, none, .mv (.tmp 24), 0, false⟩])
 (.seq (.seq (.regN [0, 2, 7, 9, 19, 20, 21] [
 ⟨some 25, none, .mv (.tmp 0), 0, false⟩,⟨some 26, none, .mv (.tmp 9), 0, false⟩,⟨some 27, none, .call 70 [(.tmp 25), (.tmp 26)], 0, false⟩])
 (.cond (.tmp 27)
 (.seq (.regN [0, 2, 7, 9, 19, 20, 21] [
 ⟨some 28, none, .mv (.tmp 7), 0, false⟩,⟨some 29, none, .mv (.tmp 9), 0, false⟩,⟨some 30, none, .mv (.tmp 0), 0, false⟩,⟨some 31, none, .mv (.tmp 9), 0, false⟩,⟨some 32, none, .len true (.tmp 31), 0, false⟩,⟨some 33, none, .mm false [(.tmp 30), (.tmp 32)], 0, false⟩,⟨some 34, none, .slS (.tmp 29) none (some (.tmp 33)), 0, false⟩,⟨some 35, none, .buildS 1 [(.val (.string ⟨#[]⟩))] [(0, 1, (.tmp 34))], 0, false⟩,⟨some 36, none, .call 71 [(.tmp 28), (.tmp 35)], 0, false⟩])
 (.exit 1))
 .skip))
 (.seq (.regN [0, 2, 7, 9, 19, 20, 21] [
 ⟨some 37, none, .mv (.tmp 2), 0, false⟩,⟨some 38, none, .len false (.tmp 37), 0, false⟩,⟨some 39, none, .mv (.con (.val (.int .i64 0))), 0, false⟩])
 (.block 2
 (.loop [0, 2, 7, 9, 19, 20, 21, 37, 38, 39] t51L1))))))
 (.regN [0, 2, 7, 19, 20, 21] [
 ⟨some 56, none, .bini .add (.tmp 21) (.con (.val (.int .i64 1))), 0, false⟩,⟨some 21, none, .mv (.tmp 56), 0, false⟩]))))
def t51B : AC := (.seq (.regN [0, 1, 2] [
 ⟨some 6, none, .mv (.con .e0), 0, false⟩])
 (.seq (.seq (.regN [0, 1, 2] [
 ⟨some 13, none, .mv (.tmp 2), 0, false⟩,⟨some 14, none, .len false (.tmp 13), 0, false⟩,⟨some 15, none, .bini .eql (.tmp 14) (.con (.val (.int .i64 0))), 0, false⟩])
 (.cond (.tmp 15)
 (.seq (.regN [] [
 ⟨some 6, none, .mv (.con .e0), 0, false⟩])
 .ret)
 .skip))
 (.seq (.regN [0, 1, 2] [
 ⟨some 16, none, .mv (.tmp 0), 0, false⟩,⟨some 17, none, .mm true [(.con (.val (.int .i64 0))), (.tmp 16)], 0, false⟩,⟨some 0, none, .mv (.tmp 17), 0, false⟩])
 (.seq (.regN [0, 1, 2] [
 ⟨some 18, none, .mkm, 0, false⟩,⟨some 7, none, .mv (.tmp 18), 0, false⟩])
 (.seq (.seq (.regN [0, 1, 2, 7] [
 ⟨some 19, none, .mv (.tmp 1), 0, false⟩,⟨some 20, none, .len false (.tmp 19), 0, false⟩,⟨some 21, none, .mv (.con (.val (.int .i64 0))), 0, false⟩])
 (.block 0
 (.loop [0, 2, 7, 19, 20, 21] t51L2)))
 (.seq (.regN [7] [
 ⟨some 57, none, .mv (.tmp 7), 0, false⟩,⟨some 58, none, .call 72 [(.tmp 57)], 0, false⟩,⟨some 6, none, .mv (.tmp 58), 0, false⟩])
 .ret))))))
def t51 : AFn := ⟨3, t51B,
 [.tmp 6], true⟩
def t70B : AC := (.seq (.regN [0, 1] [
 ⟨some 4, none, .mv (.con (.val (.bool false))), 0, false⟩])
 (.seq (.regN [0, 1] [
 ⟨some 5, none, .mv (.tmp 1), 0, false⟩,⟨some 6, none, .len true (.tmp 5), 0, false⟩,⟨some 7, none, .mv (.tmp 0), 0, false⟩,⟨some 8, none, .bini .geq (.tmp 6) (.tmp 7), 0, false⟩,⟨some 9, none, .mv (.tmp 8), 0, false⟩,⟨some 10, some (9, false), .mv (.tmp 1), 0, false⟩,⟨some 11, some (9, false), .bins .neq (.tmp 10) (.con (.val (.string ⟨#[]⟩))), 0, false⟩,⟨some 12, some (9, false), .mv (.tmp 11), 0, false⟩,⟨some 13, some (12, true), .mv (.tmp 1), 0, false⟩,⟨some 14, some (12, true), .mv (.tmp 1), 0, false⟩,⟨some 15, some (12, true), .len true (.tmp 14), 0, false⟩,⟨some 16, some (12, true), .bini .sub (.tmp 15) (.con (.val (.int .i64 1))), 0, false⟩,⟨some 17, some (12, true), .ixS (.tmp 13) (.tmp 16), 0, false⟩,⟨some 18, some (12, true), .bini .eql (.tmp 17) (.con (.val (.int .u8 255))), 0, false⟩,⟨some 19, some (9, false), .pick (.tmp 12) (.tmp 18) (.con (.val (.bool false))), 0, false⟩,⟨some 20, none, .pick (.tmp 9) (.con (.val (.bool true))) (.tmp 19), 0, false⟩,⟨some 4, none, .mv (.tmp 20), 0, false⟩])
 .ret))
def t70 : AFn := ⟨2, t70B,
 [.tmp 4], true⟩
def t71L1 : AC := (.seq (.regN [0, 6, 7, 8] [
 ⟨some 9, none, .bini .lss (.tmp 8) (.tmp 7), 0, false⟩])
 (.seq (.cond (.tmp 9)
 .skip
 (.exit 0))
 (.seq (.block 1
 (.seq (.regN [0, 6, 7, 8] [
 ⟨some 10, none, .ixA 1 (.tmp 6) (.tmp 8), 0, false⟩,⟨some 11, none, .ld1 none (.tmp 10), 0, false⟩,⟨some 5, none, .mv (.tmp 11), 0, false⟩])
 (.regN [0, 5, 6, 7, 8] [
 ⟨some 12, none, .mv (.tmp 0), 0, false⟩,⟨some 13, none, .mv (.tmp 5), 0, false⟩,⟨some 14, none, .build [] [], 0, false⟩,⟨none, none, .mup false [2] (.tmp 12) (.tmp 13) (.tmp 14), 0, false⟩])))
 (.regN [0, 6, 7, 8] [
 ⟨some 15, none, .bini .add (.tmp 8) (.con (.val (.int .i64 1))), 0, false⟩,⟨some 8, none, .mv (.tmp 15), 0, false⟩]))))
def t71B : AC := (.seq (.regN [0, 1] [
 ⟨some 6, none, .mv (.tmp 1), 0, false⟩,⟨some 7, none, .len false (.tmp 6), 0, false⟩,⟨some 8, none, .mv (.con (.val (.int .i64 0))), 0, false⟩])
 (.block 0
 (.loop [0, 6, 7, 8] t71L1)))
def t71 : AFn := ⟨2, t71B,
 [], true⟩
def t50L1 : AC := (.seq (.regN [1, 2, 3, 4, 5, 6, 38, 39, 40] [
 ⟨some 41, none, .bini .lss (.tmp 40) (.tmp 39), 0, false⟩])
 (.seq (.cond (.tmp 41)
 .skip
 (.exit 2))
 (.seq (.block 3
 (.seq (.regN [1, 2, 3, 4, 5, 6, 38, 39, 40] [
 ⟨some 42, none, .ixA 1 (.tmp 38) (.tmp 40), 0, false⟩,⟨some 43, none, .ld1 none (.tmp 42), 0, false⟩,⟨some 9, none, .mv (.tmp 43), 0, false⟩])
 (.seq (.regN [1, 2, 3, 4, 5, 6, 9, 38, 39, 40] [
 ⟨some 44, none, .fldA 3 (.tmp 1), 0, false⟩,⟨some 45, none, .ld1 none (.tmp 44), 0, false⟩,⟨some 46, none, .mv (.tmp 9), 0, false⟩,⟨some 47, none, .ixA 2 (.tmp 45) (.tmp 46), 0, false⟩,⟨some 48, none, .fldA 1 (.tmp 47), 0, false⟩,⟨some 49, none, .ld1 none (.tmp 48), 0, false⟩,⟨some 10, none, .allocH [.e0], 0, false⟩,⟨none, none, .st none 1 (.tmp 10) (.tmp 49), 0, false⟩])
 (.seq (.regN [1, 2, 3, 4, 5, 6, 10, 38, 39, 40] [
 ⟨some 50, none, .ld1 none (.tmp 10), 0, false⟩,⟨some 51, none, .call 69 [(.tmp 50)], 0, false⟩])
 (.block 4
 (.rangeF [1, 2, 3, 4, 5, 6, 10, 38, 39, 40, 51] backIt (.tmp 51) [52, 53]
 (.seq (.regN [1, 3, 4, 5, 6, 10, 52, 53] [
 ⟨some 11, none, .mv (.tmp 52), 0, false⟩])
 (.regN [1, 3, 4, 5, 6, 10, 11, 53] [
 ⟨some 12, none, .mv (.tmp 53), 0, false⟩]))
 (.block 5
 (.seq (.seq (.regN [1, 3, 4, 5, 6, 10, 11, 12] [
 ⟨some 54, none, .mv (.tmp 12), 0, false⟩,⟨some 55, none, .fldA 0 (.tmp 1), 0, false⟩,⟨some 56, none, .ld1 none (.tmp 55), 0, false⟩,⟨some 57, none, .bini .lss (.tmp 54) (.tmp 56), 0, false⟩])
 (.cond (.tmp 57)
 (.exit 5)
 .skip))
 (.seq (.regN [1, 3, 4, 5, 6, 10, 11, 12] [
 ⟨some 58, none, .mv (.tmp 12), 0, false⟩,⟨some 59, none, .fldA 0 (.tmp 1), 0, false⟩,⟨some 60, none, .ld1 none (.tmp 59), 0, false⟩,⟨some 61, none, .bini .sub (.tmp 58) (.tmp 60), 0, false⟩,⟨some 13, none, .mv (.tmp 61), 0, false⟩])
 (.seq (.regD [1, 3, 4, 5, 6, 10, 11, 13] 0 [
 ⟨some 62, none, .ld1 none (.tmp 4), 0, false⟩,⟨some 63, none, .mv (.tmp 13), 0, false⟩,⟨some 64, none, .ixA 1 (.tmp 62) (.tmp 63), 0, false⟩,⟨some 65, none, .ld1 none (.tmp 64), 0, false⟩,⟨some 66, none, .fldA 2 (.tmp 1), 0, false⟩,⟨some 67, none, .ld1 none (.tmp 66), 0, false⟩,⟨some 68, none, .ldA none 4 (.tmp 1), 0, false⟩,⟨some 69, none, .ld1 none (.tmp 3), 0, false⟩,⟨some 70, none, .ld1 none (.tmp 10), 0, false⟩,⟨some 71, none, .mv (.tmp 11), 0, false⟩,⟨some 72, none, .bini .add (.tmp 71) (.con (.val (.int .i64 1))), 0, false⟩,⟨some 73, none, .slC 1 (.tmp 70) (some (.tmp 72)) none, 0, false⟩,⟨some 74, none, .call 52 [(.tmp 68), (.tmp 69), (.tmp 73)], 0, false⟩,⟨some 75, none, .ld1 none (.tmp 4), 0, false⟩,⟨some 76, none, .ld1 none (.tmp 6), 0, false⟩,⟨some 77, none, .ixA 1 (.tmp 75) (.tmp 76), 0, false⟩,⟨some 78, none, .ld1 none (.tmp 77), 0, false⟩,⟨some 79, none, .call 51 [(.tmp 67), (.tmp 74), (.tmp 78)], 0, false⟩,⟨some 80, none, .call 65 [(.tmp 65), (.tmp 79)], 0, true⟩,⟨some 14, none, .mv (.tmp 80), 0, false⟩])
 (.seq (.regN [4, 5, 13, 14] [
 ⟨some 81, none, .mv (.tmp 14), 0, false⟩,⟨some 82, none, .len false (.tmp 81), 0, false⟩,⟨some 83, none, .ld1 none (.tmp 4), 0, false⟩,⟨some 84, none, .mv (.tmp 13), 0, false⟩,⟨some 85, none, .ixA 1 (.tmp 83) (.tmp 84), 0, false⟩,⟨some 86, none, .ld1 none (.tmp 85), 0, false⟩,⟨some 87, none, .len false (.tmp 86), 0, false⟩,⟨some 88, none, .bini .gtr (.tmp 82) (.tmp 87), 0, false⟩])
 (.cond (.tmp 88)
 (.seq (.regN [4, 5, 13, 14] [
 ⟨some 89, none, .ld1 none (.tmp 4), 0, false⟩,⟨some 90, none, .mv (.tmp 13), 0, false⟩,⟨some 91, none, .mv (.tmp 14), 0, false⟩,⟨some 92, none, .ixA 1 (.tmp 89) (.tmp 90), 0, false⟩,⟨none, none, .st none 1 (.tmp 92) (.tmp 91), 0, false⟩])
 (.regN [5, 13] [
 ⟨some 93, none, .mv (.tmp 13), 0, false⟩,⟨some 94, none, .call 67 [(.tmp 5), (.tmp 93)], 0, false⟩]))
 .skip))))))))))))
 (.regN [1, 2, 3, 4, 5, 6, 38, 39, 40] [
 ⟨some 95, none, .bini .add (.tmp 40) (.con (.val (.int .i64 1))), 0, false⟩,⟨some 40, none, .mv (.tmp 95), 0, false⟩]))))
def t50L2 : AC := (.seq (.seq (.regN [1, 2, 3, 4, 5, 6, 7] [
 ⟨some 31, none, .mv (.tmp 7), 0, false⟩])
 (.cond (.tmp 31)
 .skip
 (.exit 0)))
 (.seq (.block 1
 (.seq (.regN [1, 2, 3, 4, 5, 6] [
 ⟨some 36, none, .ldA none 4 (.tmp 1), 0, false⟩,⟨some 37, none, .ld1 none (.tmp 6), 0, false⟩,⟨some 38, none, .call 34 [(.tmp 36), (.tmp 37)], 0, false⟩,⟨some 39, none, .len false (.tmp 38), 0, false⟩,⟨some 40, none, .mv (.con (.val (.int .i64 0))), 0, false⟩])
 (.block 2
 (.loop [1, 2, 3, 4, 5, 6, 38, 39, 40] t50L1))))
 (.seq (.seq (.regN [1, 2, 3, 4, 5, 6] [
 ⟨some 96, none, .ld1 none (.tmp 6), 0, false⟩])
 (.regN [1, 2, 3, 4, 5, 96] [
 ⟨some 6, none, .allocH [(.val (.int .i64 0))], 0, false⟩,⟨none, none, .st none 1 (.tmp 6) (.tmp 96), 0, false⟩]))
 (.regN [1, 2, 3, 4, 5, 6] [
 ⟨some 33, none, .call 68 [(.tmp 5)], 0, false⟩,⟨some 32, none, .mv (.tmp 33), 0, false⟩,⟨some 34, none, .ext (.tmp 32) 0, 0, false⟩,⟨some 35, none, .ext (.tmp 32) 1, 0, false⟩,⟨none, none, .st none 1 (.tmp 6) (.tmp 34), 0, false⟩,⟨some 7, none, .mv (.tmp 35), 0, false⟩]))))
def t50B : AC := (.seq (.regN [0] [
 ⟨some 1, none, .boxH 4 (.tmp 0), 0, false⟩,⟨some 2, none, .mv (.con .e0), 0, false⟩])
 (.seq (.seq (.regN [1, 2] [
 ⟨some 15, none, .ldA none 4 (.tmp 1), 0, false⟩,⟨some 16, none, .call 28 [(.tmp 15)], 0, false⟩,⟨some 17, none, .bini .neq (.tmp 16) (.con (.val (.int .i64 0))), 0, false⟩])
 (.cond (.tmp 17)
 (.seq (.regN [] [
 ⟨some 2, none, .mv (.con .e0), 0, false⟩])
 .ret)
 .skip))
 (.seq (.regN [1, 2] [
 ⟨some 18, none, .ldA none 4 (.tmp 1), 0, false⟩,⟨some 19, none, .call 49 [(.tmp 18)], 0, false⟩,⟨some 3, none, .allocH [.e0], 0, false⟩,⟨none, none, .st none 1 (.tmp 3) (.tmp 19), 0, false⟩])
 (.seq (.regN [1, 2, 3] [
 ⟨some 20, none, .fldA 1 (.tmp 1), 0, false⟩,⟨some 21, none, .ld1 none (.tmp 20), 0, false⟩,⟨some 22, none, .mks 1 24 [.e0] (.tmp 21), 0, false⟩,⟨some 4, none, .allocH [.e0], 0, false⟩,⟨none, none, .st none 1 (.tmp 4) (.tmp 22), 0, false⟩])
 (.seq (.regN [1, 2, 3, 4] [
 ⟨some 23, none, .ld1 none (.tmp 4), 0, false⟩,⟨some 24, none, .buildS 1 [(.val (.string ⟨#[]⟩))] [(0, 1, (.con (.val (.string ⟨#[255]⟩))))], 0, false⟩,⟨some 25, none, .ixA 1 (.tmp 23) (.con (.val (.int .i64 0))), 0, false⟩,⟨none, none, .st none 1 (.tmp 25) (.tmp 24), 0, false⟩])
 (.seq (.regN [1, 2, 3, 4] [
 ⟨some 5, none, .allocH [.e0, (.val (.bool false)), (.val (.bool false)), (.val (.bool false)), (.val (.bool false)), (.val (.bool false)), (.val (.bool false)), (.val (.bool false)), (.val (.bool false)), (.val (.bool false)), (.val (.bool false)), (.val (.bool false)), (.val (.bool false)), (.val (.bool false)), (.val (.bool false)), (.val (.bool false)), (.val (.bool false))], 0, false⟩])
 (.seq (.regN [1, 2, 3, 4, 5] [
 ⟨some 26, none, .call 67 [(.tmp 5), (.con (.val (.int .i64 0)))], 0, false⟩])
 (.seq (.seq (.regN [1, 2, 3, 4, 5] [
 ⟨some 28, none, .call 68 [(.tmp 5)], 0, false⟩,⟨some 27, none, .mv (.tmp 28), 0, false⟩,⟨some 29, none, .ext (.tmp 27) 0, 0, false⟩,⟨some 30, none, .ext (.tmp 27) 1, 0, false⟩,⟨some 6, none, .allocH [(.val (.int .i64 0))], 0, false⟩,⟨none, none, .st none 1 (.tmp 6) (.tmp 29), 0, false⟩,⟨some 7, none, .mv (.tmp 30), 0, false⟩])
 (.block 0
 (.loop [1, 2, 3, 4, 5, 6, 7] t50L2)))
 (.seq (.regN [4] [
 ⟨some 97, none, .ld1 none (.tmp 4), 0, false⟩,⟨some 2, none, .mv (.tmp 97), 0, false⟩])
 .ret)))))))))
def t50 : AFn := ⟨1, t50B,
 [.tmp 2], true⟩
def t67B : AC := (.seq (.regN [0, 1] [
 ⟨some 4, none, .mv (.tmp 0), 0, false⟩,⟨some 5, none, .mv (.tmp 1), 0, false⟩,⟨some 6, none, .nilc (.tmp 4), 0, false⟩,⟨some 7, none, .fldA 1 (.tmp 6), 0, false⟩,⟨some 8, none, .ixR 16 1 (.tmp 7) (.tmp 5), 0, false⟩,⟨some 9, none, .ld1 none (.tmp 8), 0, false⟩,⟨some 10, none, .not (.tmp 9), 0, false⟩])
 (.cond (.tmp 10)
 (.seq (.regN [0, 1] [
 ⟨some 11, none, .mv (.tmp 0), 0, false⟩,⟨some 12, none, .mv (.tmp 1), 0, false⟩,⟨some 13, none, .nilc (.tmp 11), 0, false⟩,⟨some 14, none, .fldA 1 (.tmp 13), 0, false⟩,⟨some 15, none, .ixR 16 1 (.tmp 14) (.tmp 12), 0, false⟩,⟨none, none, .st none 1 (.tmp 15) (.con (.val (.bool true))), 0, false⟩])
 (.regN [0, 1] [
 ⟨some 16, none, .mv (.tmp 0), 0, false⟩,⟨some 17, none, .mv (.tmp 0), 0, false⟩,⟨some 18, none, .nilc (.tmp 17), 0, false⟩,⟨some 19, none, .fldA 0 (.tmp 18), 0, false⟩,⟨some 20, none, .ld1 none (.tmp 19), 0, false⟩,⟨some 21, none, .mv (.tmp 1), 0, false⟩,⟨some 22, none, .buildS 1 [(.val (.int .i64 0))] [(0, 1, (.tmp 21))], 0, false⟩,⟨some 23, none, .app 1 8 (.tmp 20) (.tmp 22), 0, false⟩,⟨some 24, none, .nilc (.tmp 16), 0, false⟩,⟨some 25, none, .fldA 0 (.tmp 24), 0, false⟩,⟨none, none, .st none 1 (.tmp 25) (.tmp 23), 0, false⟩]))
 .skip))
def t67 : AFn := ⟨2, t67B,
 [], false⟩
def t68B : AC := (.seq (.regN [0] [
 ⟨some 2, none, .mv (.con (.val (.int .i64 0))), 0, false⟩,⟨some 3, none, .mv (.con (.val (.bool false))), 0, false⟩])
 (.seq (.seq (.regN [0] [
 ⟨some 5, none, .mv (.tmp 0), 0, false⟩,⟨some 6, none, .nilc (.tmp 5), 0, false⟩,⟨some 7, none, .fldA 0 (.tmp 6), 0, false⟩,⟨some 8, none, .ld1 none (.tmp 7), 0, false⟩,⟨some 9, none, .len false (.tmp 8), 0, false⟩,⟨some 10, none, .bini .eql (.tmp 9) (.con (.val (.int .i64 0))), 0, false⟩])
 (.cond (.tmp 10)
 (.seq (.regN [] [
 ⟨some 2, none, .mv (.con (.val (.int .i64 0))), 0, false⟩,⟨some 3, none, .mv (.con (.val (.bool false))), 0, false⟩])
 .ret)
 .skip))
 (.seq (.regN [0] [
 ⟨some 11, none, .mv (.tmp 0), 0, false⟩,⟨some 12, none, .nilc (.tmp 11), 0, false⟩,⟨some 13, none, .fldA 0 (.tmp 12), 0, false⟩,⟨some 14, none, .ld1 none (.tmp 13), 0, false⟩,⟨some 15, none, .ixA 1 (.tmp 14) (.con (.val (.int .i64 0))), 0, false⟩,⟨some 16, none, .ld1 none (.tmp 15), 0, false⟩,⟨some 4, none, .mv (.tmp 16), 0, false⟩])
 (.seq (.regD [0, 4] 0 [
 ⟨some 17, none, .mv (.tmp 0), 0, false⟩,⟨some 18, none, .mv (.tmp 0), 0, false⟩,⟨some 19, none, .mv (.tmp 4), 0, false⟩,⟨some 20, none, .mv (.tmp 0), 0, false⟩,⟨some 21, none, .nilc (.tmp 20), 0, false⟩,⟨some 22, none, .fldA 0 (.tmp 21), 0, false⟩,⟨some 23, none, .ld1 none (.tmp 22), 0, false⟩,⟨some 24, none, .slC 1 (.tmp 23) (some (.con (.val (.int .i64 1)))) none, 0, false⟩,⟨some 25, none, .nilc (.tmp 17), 0, false⟩,⟨some 26, none, .fldA 0 (.tmp 25), 0, false⟩,⟨none, none, .st none 1 (.tmp 26) (.tmp 24), 0, false⟩,⟨some 27, none, .nilc (.tmp 18), 0, false⟩,⟨some 28, none, .fldA 1 (.tmp 27), 0, false⟩,⟨some 29, none, .ixR 16 1 (.tmp 28) (.tmp 19), 0, false⟩,⟨none, none, .st none 1 (.tmp 29) (.con (.val (.bool false))), 0, false⟩])
 (.seq (.regN [4] [
 ⟨some 30, none, .mv (.tmp 4), 0, false⟩,⟨some 2, none, .mv (.tmp 30), 0, false⟩,⟨some 3, none, .mv (.con (.val (.bool true))), 0, false⟩])
 .ret)))))
def t68 : AFn := ⟨1, t68B,
 [.tmp 2, .tmp 3], false⟩
def t34L1 : AC := (.seq (.regN [1, 4, 11, 12, 13] [
 ⟨some 14, none, .bini .lss (.tmp 13) (.tmp 12), 0, false⟩])
 (.seq (.cond (.tmp 14)
 .skip
 (.exit 0))
 (.seq (.block 1
 (.seq (.regN [1, 4, 11, 12, 13] [
 ⟨some 15, none, .mv (.tmp 13), 0, false⟩,⟨some 16, none, .ixA 2 (.tmp 11) (.tmp 13), 0, false⟩,⟨some 17, none, .ldA none 2 (.tmp 16), 0, false⟩,⟨some 6, none, .allocR [(.val (.int .i64 0)), .e0], 0, false⟩,⟨some 5, none, .mv (.tmp 15), 0, false⟩,⟨none, none, .st (some 6) 2 (.tmp 6) (.tmp 17), 0, false⟩])
 (.seq (.regN [1, 4, 5, 6, 11, 12, 13] [
 ⟨some 18, none, .fldA 0 (.tmp 6), 0, false⟩,⟨some 19, none, .ld1 (some 6) (.tmp 18), 0, false⟩,⟨some 20, none, .mv (.tmp 1), 0, false⟩,⟨some 21, none, .bini .eql (.tmp 19) (.tmp 20), 0, false⟩])
 (.cond (.tmp 21)
 (.regN [1, 4, 5, 11, 12, 13] [
 ⟨some 22, none, .mv (.tmp 4), 0, false⟩,⟨some 23, none, .mv (.tmp 5), 0, false⟩,⟨some 24, none, .buildS 1 [(.val (.int .i64 0))] [(0, 1, (.tmp 23))], 0, false⟩,⟨some 25, none, .app 1 8 (.tmp 22) (.tmp 24), 0, false⟩,⟨some 4, none, .mv (.tmp 25), 0, false⟩])
 .skip))))
 (.regN [1, 4, 11, 12, 13] [
 ⟨some 26, none, .bini .add (.tmp 13) (.con (.val (.int .i64 1))), 0, false⟩,⟨some 13, none, .mv (.tmp 26), 0, false⟩]))))
def t34B : AC := (.seq (.regN [0, 1] [
 ⟨some 2, none, .boxR 4 (.tmp 0), 0, false⟩,⟨some 4, none, .mv (.con .e0), 0, false⟩])
 (.seq (.seq (.regN [1, 2, 4] [
 ⟨some 7, none, .ldA (some 2) 4 (.tmp 2), 0, false⟩,⟨some 8, none, .call 28 [(.tmp 7)], 0, false⟩,⟨some 9, none, .bini .neq (.tmp 8) (.con (.val (.int .i64 0))), 0, false⟩])
 (.cond (.tmp 9)
 (.seq (.regN [] [
 ⟨some 4, none, .mv (.con .e0), 0, false⟩])
 .ret)
 .skip))
 (.seq (.seq (.regN [1, 2, 4] [
 ⟨some 10, none, .fldA 3 (.tmp 2), 0, false⟩,⟨some 11, none, .ld1 (some 2) (.tmp 10), 0, false⟩,⟨some 12, none, .len false (.tmp 11), 0, false⟩,⟨some 13, none, .mv (.con (.val (.int .i64 0))), 0, false⟩])
 (.block 0
 (.loop [1, 4, 11, 12, 13] t34L1)))
 (.seq (.regN [4] [
 ⟨some 27, none, .mv (.tmp 4), 0, false⟩,⟨some 4, none, .mv (.tmp 27), 0, false⟩])
 .ret))))
def t34 : AFn := ⟨2, t34B,
 [.tmp 4], true⟩
def t69B : AC := (.seq (.regN [0] [
 ⟨some 1, none, .boxH 1 (.tmp 0), 0, false⟩,⟨some 2, none, .mv (.con (.val .nilFunc)), 0, false⟩])
 (.seq (.regN [1] [
 ⟨some 3, none, .mkf 82 [(.tmp 1)], 0, false⟩,⟨some 2, none, .mv (.tmp 3), 0, false⟩])
 .ret))
def t69 : AFn := ⟨1, t69B,
 [.tmp 2], true⟩
def t82L1 : AC := (.seq (.seq (.regN [0, 1, 3] [
 kx 7 (.mv (ux 3)),kx 8 (.bini .geq (ux 7) (.con (.val (.int .i64 0))))])
 (.cond (ux 8)
 .skip
 (.exit 0)))
 (.seq (.block 1
 (.seq (.regN [0, 1, 3] [
 kx 11 (.mv (ux 0)),kx 12 (.mv (ux 3)),kx 13 (.ld1 none (ux 1)),kx 14 (.mv (ux 3)),kx 15 (.ixA 1 (ux 13) (ux 14)),kx 16 (.ld1 none (ux 15)),kx 17 (.callv (ux 11) [(ux 12), (ux 16)]),kx 18 (.not (ux 17))])
 (.cond (ux 18)
 .ret
 .skip)))
 (.regN [0, 1, 3] [
 kx 9 (.mv (ux 3)),kx 10 (.bini .sub (ux 9) (.con (.val (.int .i64 1)))),kx 3 (.mv (ux 10))])))
def t82B : AC := (.seq (.regN [0, 1] [
 kx 4 (.ld1 none (ux 1)),kx 5 (.len false (ux 4)),kx 6 (.bini .sub (ux 5) (.con (.val (.int .i64 1)))),kx 3 (.mv (ux 6))])
 (.block 0
 (.loop [0, 1, 3] t82L1)))
def t82 : AFn := ⟨2, t82B,
 [], true⟩
def t52B : AC := (.seq (.regN [0, 1, 2] [
 ⟨some 3, none, .boxH 4 (.tmp 0), 0, false⟩,⟨some 6, none, .mv (.con .e0), 0, false⟩])
 (.seq (.seq (.regN [1, 2, 3] [
 ⟨some 7, none, .ldA none 4 (.tmp 3), 0, false⟩,⟨some 8, none, .call 28 [(.tmp 7)], 0, false⟩,⟨some 9, none, .bini .neq (.tmp 8) (.con (.val (.int .i64 0))), 0, false⟩,⟨some 10, none, .mv (.tmp 9), 0, false⟩,⟨some 11, some (10, false), .mv (.tmp 1), 0, false⟩,⟨some 12, some (10, false), .len false (.tmp 11), 0, false⟩,⟨some 13, some (10, false), .fldA 1 (.tmp 3), 0, false⟩,⟨some 14, some (10, false), .ld1 none (.tmp 13), 0, false⟩,⟨some 15, some (10, false), .bini .neq (.tmp 12) (.tmp 14), 0, false⟩,⟨some 16, none, .pick (.tmp 10) (.con (.val (.bool true))) (.tmp 15), 0, false⟩,⟨some 17, none, .mv (.tmp 16), 0, false⟩,⟨some 18, some (17, false), .mv (.tmp 2), 0, false⟩,⟨some 19, some (17, false), .mkf 73 [(.tmp 3)], 0, false⟩,⟨some 20, some (17, false), .call 47 [(.tmp 18), (.tmp 19)], 0, false⟩,⟨some 21, none, .pick (.tmp 17) (.con (.val (.bool true))) (.tmp 20), 0, false⟩])
 (.cond (.tmp 21)
 (.seq (.regN [] [
 ⟨some 6, none, .mv (.con .e0), 0, false⟩])
 .ret)
 .skip))
 (.seq (.regN [1, 2, 3] [
 ⟨some 22, none, .ldA none 4 (.tmp 3), 0, false⟩,⟨some 23, none, .mv (.tmp 1), 0, false⟩,⟨some 24, none, .mv (.tmp 2), 0, false⟩,⟨some 25, none, .call 66 [(.tmp 22), (.tmp 23), (.tmp 24)], 0, false⟩,⟨some 6, none, .mv (.tmp 25), 0, false⟩])
 .ret)))
def t52 : AFn := ⟨3, t52B,
 [.tmp 6], true⟩
def t73B : AC := (.seq (.regN [0, 1] [
 ⟨some 3, none, .mv (.con (.val (.bool false))), 0, false⟩])
 (.seq (.regN [0, 1] [
 ⟨some 4, none, .mv (.tmp 0), 0, false⟩,⟨some 5, none, .bini .lss (.tmp 4) (.con (.val (.int .i64 0))), 0, false⟩,⟨some 6, none, .mv (.tmp 5), 0, false⟩,⟨some 7, some (6, false), .mv (.tmp 0), 0, false⟩,⟨some 8, some (6, false), .fldA 0 (.tmp 1), 0, false⟩,⟨some 9, some (6, false), .ld1 none (.tmp 8), 0, false⟩,⟨some 10, some (6, false), .fldA 1 (.tmp 1), 0, false⟩,⟨some 11, some (6, false), .ld1 none (.tmp 10), 0, false⟩,⟨some 12, some (6, false), .bini .add (.tmp 9) (.tmp 11), 0, false⟩,⟨some 13, some (6, false), .bini .geq (.tmp 7) (.tmp 12), 0, false⟩,⟨some 14, none, .pick (.tmp 6) (.con (.val (.bool true))) (.tmp 13), 0, false⟩,⟨some 3, none, .mv (.tmp 14), 0, false⟩])
 .ret))
def t73 : AFn := ⟨2, t73B,
 [.tmp 3], true⟩
def t17L1 : AC := (.seq (.regN [3, 5, 20, 21, 22] [
 ⟨some 23, none, .bini .lss (.tmp 22) (.tmp 21), 0, false⟩])
 (.seq (.cond (.tmp 23)
 .skip
 (.exit 0))
 (.seq (.block 1
 (.seq (.regN [3, 5, 20, 21, 22] [
 ⟨some 24, none, .ixA 1 (.tmp 20) (.tmp 22), 0, false⟩,⟨some 25, none, .ld1 none (.tmp 24), 0, false⟩,⟨some 10, none, .mv (.tmp 25), 0, false⟩])
 (.seq (.regN [3, 5, 10, 20, 21, 22] [
 ⟨some 26, none, .fldA 0 (.tmp 5), 0, false⟩,⟨some 27, none, .ld1 (some 5) (.tmp 26), 0, false⟩,⟨some 28, none, .mv (.tmp 10), 0, false⟩,⟨some 29, none, .ixA 1 (.tmp 27) (.tmp 28), 0, false⟩,⟨some 30, none, .ld1 none (.tmp 29), 0, false⟩,⟨some 31, none, .mv (.tmp 3), 0, false⟩,⟨some 32, none, .call 35 [(.tmp 30), (.tmp 31)], 0, false⟩])
 (.cond (.tmp 32)
 (.seq (.regN [10] [
 ⟨some 33, none, .mv (.tmp 10), 0, false⟩,⟨some 8, none, .mv (.tmp 33), 0, false⟩])
 .ret)
 .skip))))
 (.regN [3, 5, 20, 21, 22] [
 ⟨some 34, none, .bini .add (.tmp 22) (.con (.val (.int .i64 1))), 0, false⟩,⟨some 22, none, .mv (.tmp 34), 0, false⟩]))))
def t17B : AC := (.seq (.regN [0, 1, 2, 3] [
 ⟨some 4, none, .boxR 4 (.tmp 0), 0, false⟩,⟨some 5, none, .boxR 1 (.tmp 1), 0, false⟩,⟨some 8, none, .mv (.con (.val (.int .i64 0))), 0, false⟩])
 (.seq (.seq (.regN [2, 3, 4, 5] [
 ⟨some 11, none, .fldA 0 (.tmp 5), 0, false⟩,⟨some 12, none, .ld1 (some 5) (.tmp 11), 0, false⟩,⟨some 13, none, .len false (.tmp 12), 0, false⟩,⟨some 14, none, .fldA 3 (.tmp 4), 0, false⟩,⟨some 15, none, .ld1 (some 4) (.tmp 14), 0, false⟩,⟨some 16, none, .len false (.tmp 15), 0, false⟩,⟨some 17, none, .bini .neq (.tmp 13) (.tmp 16), 0, false⟩])
 (.cond (.tmp 17)
 (.seq (.regN [] [
 ⟨some 8, none, .mv (.con (.val (.int .i64 (-1)))), 0, false⟩])
 .ret)
 .skip))
 (.seq (.seq (.regN [2, 3, 4, 5] [
 ⟨some 18, none, .ldA (some 4) 4 (.tmp 4), 0, false⟩,⟨some 19, none, .mv (.tmp 2), 0, false⟩,⟨some 20, none, .call 34 [(.tmp 18), (.tmp 19)], 0, false⟩,⟨some 21, none, .len false (.tmp 20), 0, false⟩,⟨some 22, none, .mv (.con (.val (.int .i64 0))), 0, false⟩])
 (.block 0
 (.loop [3, 5, 20, 21, 22] t17L1)))
 (.seq (.regN [] [
 ⟨some 8, none, .mv (.con (.val (.int .i64 (-1)))), 0, false⟩])
 .ret))))
def t17 : AFn := ⟨4, t17B,
 [.tmp 8], true⟩
def t35B : AC := (.seq (.regN [0, 1] [
 ⟨some 4, none, .mv (.con (.val (.bool false))), 0, false⟩])
 (.seq (.regN [0, 1] [
 ⟨some 5, none, .mv (.tmp 0), 0, false⟩,⟨some 6, none, .mv (.tmp 1), 0, false⟩,⟨some 7, none, .call 55 [(.tmp 5), (.tmp 6)], 0, false⟩,⟨some 4, none, .mv (.tmp 7), 0, false⟩])
 .ret))
def t35 : AFn := ⟨2, t35B,
 [.tmp 4], true⟩
def t55B : AC := (.seq (.regN [0, 1] [
 ⟨some 4, none, .mv (.con (.val (.bool false))), 0, false⟩])
 (.seq (.regN [0, 1] [
 ⟨some 5, none, .mv (.tmp 0), 0, false⟩,⟨some 6, none, .mv (.tmp 1), 0, false⟩,⟨some 7, none, .call 75 [(.tmp 5), (.tmp 6)], 0, false⟩,⟨some 8, none, .bini .geq (.tmp 7) (.con (.val (.int .i64 0))), 0, false⟩,⟨some 4, none, .mv (.tmp 8), 0, false⟩])
 .ret))
def t55 : AFn := ⟨2, t55B,
 [.tmp 4], true⟩
def t75L1 : AC := (.seq (.regN [0, 1, 7, 8] [
 ⟨some 9, none, .bini .lss (.tmp 8) (.tmp 7), 0, false⟩])
 (.seq (.cond (.tmp 9)
 .skip
 (.exit 0))
 (.seq (.block 1
 (.seq (.regN [0, 1, 7, 8] [
 ⟨some 10, none, .mv (.tmp 8), 0, false⟩,⟨some 5, none, .mv (.tmp 10), 0, false⟩])
 (.seq (.regN [0, 1, 5, 7, 8] [
 ⟨some 11, none, .mv (.tmp 1), 0, false⟩,⟨some 12, none, .mv (.tmp 0), 0, false⟩,⟨some 13, none, .mv (.tmp 5), 0, false⟩,⟨some 14, none, .ixA 1 (.tmp 12) (.tmp 13), 0, false⟩,⟨some 15, none, .ld1 none (.tmp 14), 0, false⟩,⟨some 16, none, .bins .eql (.tmp 11) (.tmp 15), 0, false⟩])
 (.cond (.tmp 16)
 (.seq (.regN [5] [
 ⟨some 17, none, .mv (.tmp 5), 0, false⟩,⟨some 4, none, .mv (.tmp 17), 0, false⟩])
 .ret)
 .skip))))
 (.regN [0, 1, 7, 8] [
 ⟨some 18, none, .bini .add (.tmp 8) (.con (.val (.int .i64 1))), 0, false⟩,⟨some 8, none, .mv (.tmp 18), 0, false⟩]))))
def t75B : AC := (.seq (.regN [0, 1] [
 ⟨some 4, none, .mv (.con (.val (.int .i64 0))), 0, false⟩])
 (.seq (.seq (.regN [0, 1] [
 ⟨some 6, none, .mv (.tmp 0), 0, false⟩,⟨some 7, none, .len false (.tmp 6), 0, false⟩,⟨some 8, none, .mv (.con (.val (.int .i64 0))), 0, false⟩])
 (.block 0
 (.loop [0, 1, 7, 8] t75L1)))
 (.seq (.regN [] [
 ⟨some 4, none, .mv (.con (.val (.int .i64 (-1)))), 0, false⟩])
 .ret)))
def t75 : AFn := ⟨2, t75B,
 [.tmp 4], true⟩
def t9L1 : AC := (.seq (.seq (.regN [1, 3] [
 ⟨some 8, none, .mv (.tmp 3), 0, false⟩,⟨some 9, none, .fldA 3 (.tmp 1), 0, false⟩,⟨some 10, none, .ld1 (some 1) (.tmp 9), 0, false⟩,⟨some 11, none, .len false (.tmp 10), 0, false⟩,⟨some 12, none, .bini .lss (.tmp 8) (.tmp 11), 0, false⟩])
 (.cond (.tmp 12)
 .skip
 (.exit 0)))
 (.seq (.block 1
 (.seq (.regN [1, 3] [
 ⟨some 15, none, .fldA 3 (.tmp 1), 0, false⟩,⟨some 16, none, .ld1 (some 1) (.tmp 15), 0, false⟩,⟨some 17, none, .mv (.tmp 3), 0, false⟩,⟨some 18, none, .ixA 2 (.tmp 16) (.tmp 17), 0, false⟩,⟨some 19, none, .fldA 1 (.tmp 18), 0, false⟩,⟨some 20, none, .ld1 none (.tmp 19), 0, false⟩,⟨some 21, none, .len false (.tmp 20), 0, false⟩,⟨some 22, none, .bini .gtr (.tmp 21) (.con (.val (.int .i64 5))), 0, false⟩,⟨some 23, none, .mv (.tmp 22), 0, false⟩,⟨some 24, some (23, true), .fldA 3 (.tmp 1), 0, false⟩,⟨some 25, some (23, true), .ld1 (some 1) (.tmp 24), 0, false⟩,⟨some 26, some (23, true), .mv (.tmp 3), 0, false⟩,⟨some 27, some (23, true), .ixA 2 (.tmp 25) (.tmp 26), 0, false⟩,⟨some 28, some (23, true), .fldA 1 (.tmp 27), 0, false⟩,⟨some 29, some (23, true), .ld1 none (.tmp 28), 0, false⟩,⟨some 30, some (23, true), .len false (.tmp 29), 0, false⟩,⟨some 31, some (23, true), .bini .leq (.tmp 30) (.con (.val (.int .i64 8))), 0, false⟩,⟨some 32, none, .pick (.tmp 23) (.tmp 31) (.con (.val (.bool false))), 0, false⟩,⟨some 33, none, .mv (.tmp 32), 0, false⟩,⟨some 34, some (33, false), .fldA 3 (.tmp 1), 0, false⟩,⟨some 35, some (33, false), .ld1 (some 1) (.tmp 34), 0, false⟩,⟨some 36, some (33, false), .mv (.tmp 3), 0, false⟩,⟨some 37, some (33, false), .ixA 2 (.tmp 35) (.tmp 36), 0, false⟩,⟨some 38, some (33, false), .fldA 1 (.tmp 37), 0, false⟩,⟨some 39, some (33, false), .ld1 none (.tmp 38), 0, false⟩,⟨some 40, some (33, false), .len false (.tmp 39), 0, false⟩,⟨some 41, some (33, false), .bini .gtr (.tmp 40) (.con (.val (.int .i64 100))), 0, false⟩,⟨some 42, none, .pick (.tmp 33) (.con (.val (.bool true))) (.tmp 41), 0, false⟩])
 (.cond (.tmp 42)
 (.seq (.regN [] [
 ⟨some 2, none, .mv (.con (.val (.bool false))), 0, false⟩])
 .ret)
 .skip)))
 (.regN [1, 3] [
 ⟨some 13, none, .mv (.tmp 3), 0, false⟩,⟨some 14, none, .bini .add (.tmp 13) (.con (.val (.int .i64 1))), 0, false⟩,⟨some 3, none, .mv (.tmp 14), 0, false⟩])))
def t9B : AC := (.seq (.regN [0] [
 ⟨some 1, none, .boxR 4 (.tmp 0), 0, false⟩,⟨some 2, none, .mv (.con (.val (.bool false))), 0, false⟩])
 (.seq (.seq (.regN [1] [
 ⟨some 4, none, .fldA 3 (.tmp 1), 0, false⟩,⟨some 5, none, .ld1 (some 1) (.tmp 4), 0, false⟩,⟨some 6, none, .len false (.tmp 5), 0, false⟩,⟨some 7, none, .bini .gtr (.tmp 6) (.con (.val (.int .i64 100))), 0, false⟩])
 (.cond (.tmp 7)
 (.seq (.regN [] [
 ⟨some 2, none, .mv (.con (.val (.bool false))), 0, false⟩])
 .ret)
 .skip))
 (.seq (.seq (.regN [1] [
 ⟨some 3, none, .mv (.con (.val (.int .i64 0))), 0, false⟩])
 (.block 0
 (.loop [1, 3] t9L1)))
 (.seq (.seq (.regN [1] [
 ⟨some 43, none, .fldA 0 (.tmp 1), 0, false⟩,⟨some 44, none, .ld1 (some 1) (.tmp 43), 0, false⟩,⟨some 45, none, .bini .gtr (.tmp 44) (.con (.val (.int .i64 8))), 0, false⟩,⟨some 46, none, .mv (.tmp 45), 0, false⟩,⟨some 47, some (46, false), .fldA 1 (.tmp 1), 0, false⟩,⟨some 48, some (46, false), .ld1 (some 1) (.tmp 47), 0, false⟩,⟨some 49, some (46, false), .bini .gtr (.tmp 48) (.con (.val (.int .i64 16))), 0, false⟩,⟨some 50, none, .pick (.tmp 46) (.con (.val (.bool true))) (.tmp 49), 0, false⟩,⟨some 51, none, .mv (.tmp 50), 0, false⟩,⟨some 52, some (51, false), .fldA 2 (.tmp 1), 0, false⟩,⟨some 53, some (51, false), .ld1 (some 1) (.tmp 52), 0, false⟩,⟨some 54, some (51, false), .bini .gtr (.tmp 53) (.con (.val (.int .i64 3))), 0, false⟩,⟨some 55, none, .pick (.tmp 51) (.con (.val (.bool true))) (.tmp 54), 0, false⟩,⟨some 56, none, .mv (.tmp 55), 0, false⟩,⟨some 57, some (56, false), .fldA 3 (.tmp 1), 0, false⟩,⟨some 58, some (56, false), .ld1 (some 1) (.tmp 57), 0, false⟩,⟨some 59, some (56, false), .len false (.tmp 58), 0, false⟩,⟨some 60, some (56, false), .bini .gtr (.tmp 59) (.con (.val (.int .i64 64))), 0, false⟩,⟨some 61, none, .pick (.tmp 56) (.con (.val (.bool true))) (.tmp 60), 0, false⟩])
 (.cond (.tmp 61)
 (.seq (.regN [] [
 ⟨some 2, none, .mv (.con (.val (.bool true))), 0, false⟩])
 .ret)
 .skip))
 (.seq (.regN [1] [
 ⟨some 62, none, .fldA 0 (.tmp 1), 0, false⟩,⟨some 63, none, .ld1 (some 1) (.tmp 62), 0, false⟩,⟨some 64, none, .bini .leq (.tmp 63) (.con (.val (.int .i64 4))), 0, false⟩,⟨some 65, none, .mv (.tmp 64), 0, false⟩,⟨some 66, some (65, true), .fldA 1 (.tmp 1), 0, false⟩,⟨some 67, some (65, true), .ld1 (some 1) (.tmp 66), 0, false⟩,⟨some 68, some (65, true), .bini .leq (.tmp 67) (.con (.val (.int .i64 6))), 0, false⟩,⟨some 69, none, .pick (.tmp 65) (.tmp 68) (.con (.val (.bool false))), 0, false⟩,⟨some 70, none, .mv (.tmp 69), 0, false⟩,⟨some 71, some (70, true), .fldA 3 (.tmp 1), 0, false⟩,⟨some 72, some (70, true), .ld1 (some 1) (.tmp 71), 0, false⟩,⟨some 73, some (70, true), .len false (.tmp 72), 0, false⟩,⟨some 74, some (70, true), .bini .leq (.tmp 73) (.con (.val (.int .i64 14))), 0, false⟩,⟨some 75, none, .pick (.tmp 70) (.tmp 74) (.con (.val (.bool false))), 0, false⟩,⟨some 76, none, .mv (.tmp 75), 0, false⟩,⟨some 77, some (76, true), .fldA 2 (.tmp 1), 0, false⟩,⟨some 78, some (76, true), .ld1 (some 1) (.tmp 77), 0, false⟩,⟨some 79, some (76, true), .bini .leq (.tmp 78) (.con (.val (.int .i64 2))), 0, false⟩,⟨some 80, some (76, true), .mv (.tmp 79), 0, false⟩,⟨some 81, some (80, false), .fldA 0 (.tmp 1), 0, false⟩,⟨some 82, some (80, false), .ld1 (some 1) (.tmp 81), 0, false⟩,⟨some 83, some (80, false), .bini .leq (.tmp 82) (.con (.val (.int .i64 3))), 0, false⟩,⟨some 84, some (76, true), .pick (.tmp 80) (.con (.val (.bool true))) (.tmp 83), 0, false⟩,⟨some 85, none, .pick (.tmp 76) (.tmp 84) (.con (.val (.bool false))), 0, false⟩,⟨some 2, none, .mv (.tmp 85), 0, false⟩])
 .ret)))))
def t9 : AFn := ⟨1, t9B,
 [.tmp 2], true⟩
def t19B : AC := (.seq (.regN [0] [
 ⟨some 1, none, .boxR 4 (.tmp 0), 0, false⟩,⟨some 2, none, .mv (.con (.val (.int .i64 0))), 0, false⟩])
 (.seq (.seq (.regN [1] [
 ⟨some 11, none, .ldA (some 1) 4 (.tmp 1), 0, false⟩,⟨some 12, none, .call 28 [(.tmp 11)], 0, false⟩,⟨some 3, none, .mv (.tmp 12), 0, false⟩])
 (.seq (.regN [1, 3] [
 ⟨some 13, none, .mv (.tmp 3), 0, false⟩,⟨some 14, none, .bini .neq (.tmp 13) (.con (.val (.int .i64 0))), 0, false⟩])
 (.cond (.tmp 14)
 (.seq (.regN [3] [
 ⟨some 15, none, .mv (.tmp 3), 0, false⟩,⟨some 2, none, .mv (.tmp 15), 0, false⟩])
 .ret)
 .skip)))
 (.seq (.seq (.regN [1] [
 ⟨some 17, none, .ldA (some 1) 4 (.tmp 1), 0, false⟩,⟨some 18, none, .call 37 [(.tmp 17)], 0, false⟩,⟨some 16, none, .mv (.tmp 18), 0, false⟩,⟨some 19, none, .ext (.tmp 16) 0, 0, false⟩,⟨some 20, none, .ext (.tmp 16) 1, 0, false⟩,⟨some 4, none, .mv (.tmp 19), 0, false⟩,⟨some 5, none, .mv (.tmp 20), 0, false⟩])
 (.seq (.regN [1, 5] [
 ⟨some 21, none, .mv (.tmp 5), 0, false⟩,⟨some 22, none, .not (.tmp 21), 0, false⟩])
 (.cond (.tmp 22)
 (.seq (.regN [] [
 ⟨some 2, none, .mv (.con (.val (.int .i64 5))), 0, false⟩])
 .ret)
 .skip)))
 (.seq (.seq (.regN [1] [
 ⟨some 24, none, .ldA (some 1) 4 (.tmp 1), 0, false⟩,⟨some 25, none, .call 38 [(.tmp 24)], 0, false⟩,⟨some 23, none, .mv (.tmp 25), 0, false⟩,⟨some 26, none, .ext (.tmp 23) 0, 0, false⟩,⟨some 27, none, .ext (.tmp 23) 1, 0, false⟩,⟨some 6, none, .mv (.tmp 26), 0, false⟩,⟨some 7, none, .mv (.tmp 27), 0, false⟩])
 (.seq (.regN [1, 7] [
 ⟨some 28, none, .mv (.tmp 7), 0, false⟩])
 (.cond (.tmp 28)
 (.seq (.regN [] [
 ⟨some 2, none, .mv (.con (.val (.int .i64 4))), 0, false⟩])
 .ret)
 .skip)))
 (.seq (.regN [1] [
 ⟨some 30, none, .ldA (some 1) 4 (.tmp 1), 0, false⟩,⟨some 31, none, .call 13 [(.tmp 30)], 0, false⟩,⟨some 29, none, .mv (.tmp 31), 0, false⟩,⟨some 32, none, .ext (.tmp 29) 0, 0, false⟩,⟨some 33, none, .ext (.tmp 29) 1, 0, false⟩,⟨some 34, none, .ext (.tmp 29) 2, 0, false⟩,⟨some 8, none, .allocR [.e0], 0, false⟩,⟨some 9, none, .allocR [(.val (.int .i64 0)), (.val (.int .i64 0)), (.val (.int .i64 0)), (.val (.string ⟨#[]⟩))], 0, false⟩,⟨none, none, .st (some 8) 1 (.tmp 8) (.tmp 32), 0, false⟩,⟨none, none, .st (some 9) 4 (.tmp 9) (.tmp 33), 0, false⟩,⟨some 10, none, .mv (.tmp 34), 0, false⟩])
 (.seq (.regN [10] [
 ⟨some 35, none, .mv (.tmp 10), 0, false⟩,⟨some 2, none, .mv (.tmp 35), 0, false⟩])
 .ret))))))
def t19 : AFn := ⟨1, t19B,
 [.tmp 2], true⟩
def t37L1 : AC := (.seq (.regN [4, 5, 15, 16] [
 ⟨some 17, none, .bini .lss (.tmp 16) (.tmp 15), 0, false⟩])
 (.seq (.cond (.tmp 17)
 .skip
 (.exit 0))
 (.seq (.block 1
 (.seq (.regN [4, 5, 15, 16] [
 ⟨some 18, none, .mv (.tmp 16), 0, false⟩,⟨some 6, none, .mv (.tmp 18), 0, false⟩])
 (.seq (.regN [4, 5, 6, 15, 16] [
 ⟨some 19, none, .mv (.tmp 4), 0, false⟩,⟨some 20, none, .mv (.tmp 6), 0, false⟩,⟨some 21, none, .ixA 1 (.tmp 19) (.tmp 20), 0, false⟩,⟨some 22, none, .ld1 none (.tmp 21), 0, false⟩,⟨some 23, none, .not (.tmp 22), 0, false⟩,⟨some 24, none, .mv (.tmp 23), 0, false⟩,⟨some 25, some (24, false), .mv (.tmp 5), 0, false⟩,⟨some 26, some (24, false), .mv (.tmp 6), 0, false⟩,⟨some 27, some (24, false), .ixA 1 (.tmp 25) (.tmp 26), 0, false⟩,⟨some 28, some (24, false), .ld1 none (.tmp 27), 0, false⟩,⟨some 29, some (24, false), .not (.tmp 28), 0, false⟩,⟨some 30, none, .pick (.tmp 24) (.con (.val (.bool true))) (.tmp 29), 0, false⟩])
 (.cond (.tmp 30)
 (.seq (.regN [6] [
 ⟨some 31, none, .mv (.tmp 6), 0, false⟩,⟨some 2, none, .mv (.tmp 31), 0, false⟩,⟨some 3, none, .mv (.con (.val (.bool false))), 0, false⟩])
 .ret)
 .skip))))
 (.regN [4, 5, 15, 16] [
 ⟨some 32, none, .bini .add (.tmp 16) (.con (.val (.int .i64 1))), 0, false⟩,⟨some 16, none, .mv (.tmp 32), 0, false⟩]))))
def t37B : AC := (.seq (.regN [0] [
 ⟨some 1, none, .boxR 4 (.tmp 0), 0, false⟩,⟨some 2, none, .mv (.con (.val (.int .i64 0))), 0, false⟩,⟨some 3, none, .mv (.con (.val (.bool false))), 0, false⟩])
 (.seq (.seq (.regN [1] [
 ⟨some 7, none, .ldA (some 1) 4 (.tmp 1), 0, false⟩,⟨some 8, none, .call 28 [(.tmp 7)], 0, false⟩,⟨some 9, none, .bini .neq (.tmp 8) (.con (.val (.int .i64 0))), 0, false⟩])
 (.cond (.tmp 9)
 (.seq (.regN [] [
 ⟨some 2, none, .mv (.con (.val (.int .i64 0))), 0, false⟩,⟨some 3, none, .mv (.con (.val (.bool false))), 0, false⟩])
 .ret)
 .skip))
 (.seq (.regD [1] 0 [
 ⟨some 10, none, .ldA (some 1) 4 (.tmp 1), 0, false⟩,⟨some 11, none, .call 56 [(.tmp 10)], 0, true⟩,⟨some 12, none, .ldA (some 1) 4 (.tmp 1), 0, false⟩,⟨some 13, none, .call 57 [(.tmp 12)], 0, true⟩,⟨some 4, none, .mv (.tmp 11), 0, false⟩,⟨some 5, none, .mv (.tmp 13), 0, false⟩])
 (.seq (.seq (.regN [1, 4, 5] [
 ⟨some 14, none, .fldA 1 (.tmp 1), 0, false⟩,⟨some 15, none, .ld1 (some 1) (.tmp 14), 0, false⟩,⟨some 16, none, .mv (.con (.val (.int .i64 0))), 0, false⟩])
 (.block 0
 (.loop [4, 5, 15, 16] t37L1)))
 (.seq (.regN [] [
 ⟨some 2, none, .mv (.con (.val (.int .i64 0))), 0, false⟩,⟨some 3, none, .mv (.con (.val (.bool true))), 0, false⟩])
 .ret)))))
def t37 : AFn := ⟨1, t37B,
 [.tmp 2, .tmp 3], true⟩
def t56B : AC := (.seq (.regN [0] [
 ⟨some 1, none, .boxR 4 (.tmp 0), 0, false⟩,⟨some 2, none, .mv (.con .e0), 0, false⟩])
 (.seq (.regN [1] [
 ⟨some 3, none, .ldA (some 1) 4 (.tmp 1), 0, false⟩,⟨some 4, none, .call 76 [(.tmp 3), (.con (.val (.bool true)))], 0, false⟩,⟨some 2, none, .mv (.tmp 4), 0, false⟩])
 .ret))
def t56 : AFn := ⟨1, t56B,
 [.tmp 2], true⟩
def t76B : AC := (.seq (.regN [0, 1] [
 ⟨some 2, none, .boxH 4 (.tmp 0), 0, false⟩,⟨some 3, none, .boxH 1 (.tmp 1), 0, false⟩,⟨some 4, none, .mv (.con .e0), 0, false⟩])
 (.seq (.seq (.regN [2, 3] [
 ⟨some 7, none, .ldA none 4 (.tmp 2), 0, false⟩,⟨some 8, none, .call 28 [(.tmp 7)], 0, false⟩,⟨some 9, none, .bini .neq (.tmp 8) (.con (.val (.int .i64 0))), 0, false⟩])
 (.cond (.tmp 9)
 (.seq (.regN [] [
 ⟨some 4, none, .mv (.con .e0), 0, false⟩])
 .ret)
 .skip))
 (.seq (.regN [2, 3] [
 ⟨some 10, none, .fldA 1 (.tmp 2), 0, false⟩,⟨some 11, none, .ld1 none (.tmp 10), 0, false⟩,⟨some 12, none, .mks 1 1 [(.val (.bool false))] (.tmp 11), 0, false⟩,⟨some 5, none, .allocH [.e0], 0, false⟩,⟨none, none, .st none 1 (.tmp 5) (.tmp 12), 0, false⟩])
 (.seq (.regN [2, 3, 5] [
 ⟨some 13, none, .mkf 85 [(.tmp 2), (.tmp 3), (.tmp 5)], 0, false⟩,⟨some 6, none, .allocH [(.val .nilFunc)], 0, false⟩,⟨none, none, .st none 1 (.tmp 6) (.tmp 13), 0, false⟩])
 (.seq (.regN [2, 5, 6] [
 ⟨some 14, none, .fldA 3 (.tmp 2), 0, false⟩,⟨some 15, none, .ld1 none (.tmp 14), 0, false⟩,⟨some 16, none, .mkf 86 [(.tmp 5), (.tmp 6)], 0, false⟩,⟨some 17, none, .call 59 [(.tmp 15), (.tmp 16)], 0, false⟩])
 (.seq (.regN [5] [
 ⟨some 18, none, .ld1 none (.tmp 5), 0, false⟩,⟨some 4, none, .mv (.tmp 18), 0, false⟩])
 .ret))))))
def t76 : AFn := ⟨2, t76B,
 [.tmp 4], true⟩
def t85B : AC := (.seq (.regN [0, 1, 2, 3] [
 ⟨some 5, none, .mv (.con (.val (.bool false))), 0, false⟩])
 (.seq (.regN [0, 1, 2, 3] [
 ⟨some 6, none, .mv (.tmp 0), 0, false⟩,⟨some 7, none, .fldA 0 (.tmp 1), 0, false⟩,⟨some 8, none, .ld1 none (.tmp 7), 0, false⟩,⟨some 9, none, .bini .lss (.tmp 6) (.tmp 8), 0, false⟩,⟨some 10, none, .mv (.tmp 9), 0, false⟩,⟨some 11, some (10, true), .ld1 none (.tmp 2), 0, false⟩,⟨some 12, some (10, true), .not (.tmp 11), 0, false⟩,⟨some 13, none, .pick (.tmp 10) (.tmp 12) (.con (.val (.bool false))), 0, false⟩,⟨some 14, none, .mv (.tmp 13), 0, false⟩,⟨some 15, some (14, false), .mv (.tmp 0), 0, false⟩,⟨some 16, some (14, false), .fldA 0 (.tmp 1), 0, false⟩,⟨some 17, some (14, false), .ld1 none (.tmp 16), 0, false⟩,⟨some 18, some (14, false), .bini .geq (.tmp 15) (.tmp 17), 0, false⟩,⟨some 19, some (14, false), .mv (.tmp 18), 0, false⟩,⟨some 20, some (19, true), .ld1 none (.tmp 3), 0, false⟩,⟨some 21, some (19, true), .mv (.tmp 0), 0, false⟩,⟨some 22, some (19, true), .fldA 0 (.tmp 1), 0, false⟩,⟨some 23, some (19, true), .ld1 none (.tmp 22), 0, false⟩,⟨some 24, some (19, true), .bini .sub (.tmp 21) (.tmp 23), 0, false⟩,⟨some 25, some (19, true), .ixA 1 (.tmp 20) (.tmp 24), 0, false⟩,⟨some 26, some (19, true), .ld1 none (.tmp 25), 0, false⟩,⟨some 27, some (19, true), .not (.tmp 26), 0, false⟩,⟨some 28, some (14, false), .pick (.tmp 19) (.tmp 27) (.con (.val (.bool false))), 0, false⟩,⟨some 29, none, .pick (.tmp 14) (.con (.val (.bool true))) (.tmp 28), 0, false⟩,⟨some 5, none, .mv (.tmp 29), 0, false⟩])
 .ret))
def t85 : AFn := ⟨4, t85B,
 [.tmp 5], true⟩
def t86B : AC := (.seq (.regN [0, 1, 2] [
 ⟨some 3, none, .boxR 2 (.tmp 0), 0, false⟩,⟨some 4, none, .mv (.con (.val (.bool false))), 0, false⟩])
 (.seq (.seq (.regN [1, 2, 3] [
 ⟨some 5, none, .ld1 none (.tmp 1), 0, false⟩,⟨some 6, none, .fldA 0 (.tmp 3), 0, false⟩,⟨some 7, none, .ld1 (some 3) (.tmp 6), 0, false⟩,⟨some 8, none, .ixA 1 (.tmp 5) (.tmp 7), 0, false⟩,⟨some 9, none, .ld1 none (.tmp 8), 0, false⟩,⟨some 10, none, .mv (.tmp 9), 0, false⟩,⟨some 11, some (10, false), .fldA 1 (.tmp 3), 0, false⟩,⟨some 12, some (10, false), .ld1 (some 3) (.tmp 11), 0, false⟩,⟨some 13, some (10, false), .ld1 none (.tmp 2), 0, false⟩,⟨some 14, some (10, false), .call 47 [(.tmp 12), (.tmp 13)], 0, false⟩,⟨some 15, none, .pick (.tmp 10) (.con (.val (.bool true))) (.tmp 14), 0, false⟩])
 (.cond (.tmp 15)
 (.seq (.regN [] [
 ⟨some 4, none, .mv (.con (.val (.bool false))), 0, false⟩])
 .ret)
 .skip))
 (.seq (.regN [1, 3] [
 ⟨some 16, none, .ld1 none (.tmp 1), 0, false⟩,⟨some 17, none, .fldA 0 (.tmp 3), 0, false⟩,⟨some 18, none, .ld1 (some 3) (.tmp 17), 0, false⟩,⟨some 19, none, .ixA 1 (.tmp 16) (.tmp 18), 0, false⟩,⟨none, none, .st none 1 (.tmp 19) (.con (.val (.bool true))), 0, false⟩])
 (.seq (.regN [] [
 ⟨some 4, none, .mv (.con (.val (.bool true))), 0, false⟩])
 .ret))))
def t86 : AFn := ⟨3, t86B,
 [.tmp 4], true⟩
def t59L1 : AC := (.seq (.regN [0, 1, 4, 8, 9, 10] [
 ⟨some 11, none, .bini .lss (.tmp 10) (.tmp 9), 0, false⟩])
 (.seq (.cond (.tmp 11)
 .skip
 (.exit 2))
 (.seq (.block 3
 (.seq (.regN [0, 1, 4, 8, 9, 10] [
 ⟨some 12, none, .ixA 2 (.tmp 8) (.tmp 10), 0, false⟩,⟨some 13, none, .ldA none 2 (.tmp 12), 0, false⟩,⟨some 6, none, .allocR [(.val (.int .i64 0)), .e0], 0, false⟩,⟨none, none, .st (some 6) 2 (.tmp 6) (.tmp 13), 0, false⟩])
 (.regN [0, 1, 4, 6, 8, 9, 10] [
 ⟨some 14, none, .mv (.tmp 1), 0, false⟩,⟨some 15, none, .ldA (some 6) 2 (.tmp 6), 0, false⟩,⟨some 16, none, .callv (.tmp 14) [(.tmp 15)], 0, false⟩,⟨some 17, none, .mv (.tmp 16), 0, false⟩,⟨some 18, some (17, false), .mv (.tmp 4), 0, false⟩,⟨some 19, none, .pick (.tmp 17) (.con (.val (.bool true))) (.tmp 18), 0, false⟩,⟨some 4, none, .mv (.tmp 19), 0, false⟩])))
 (.regN [0, 1, 4, 8, 9, 10] [
 ⟨some 20, none, .bini .add (.tmp 10) (.con (.val (.int .i64 1))), 0, false⟩,⟨some 10, none, .mv (.tmp 20), 0, false⟩]))))
def t59L2 : AC := (.seq (.seq (.regN [0, 1, 4] [
 ⟨some 7, none, .mv (.tmp 4), 0, false⟩])
 (.cond (.tmp 7)
 .skip
 (.exit 0)))
 (.block 1
 (.seq (.regN [0, 1] [
 ⟨some 4, none, .mv (.con (.val (.bool false))), 0, false⟩])
 (.seq (.regN [0, 1, 4] [
 ⟨some 8, none, .mv (.tmp 0), 0, false⟩,⟨some 9, none, .len false (.tmp 8), 0, false⟩,⟨some 10, none, .mv (.con (.val (.int .i64 0))), 0, false⟩])
 (.block 2
 (.loop [0, 1, 4, 8, 9, 10] t59L1))))))
def t59B : AC := (.seq (.regN [0, 1] [
 ⟨some 4, none, .mv (.con (.val (.bool true))), 0, false⟩])
 (.block 0
 (.loop [0, 1, 4] t59L2)))
def t59 : AFn := ⟨2, t59B,
 [], true⟩
def t57B : AC := (.seq (.regN [0] [
 ⟨some 1, none, .boxH 4 (.tmp 0), 0, false⟩,⟨some 2, none, .mv (.con .e0), 0, false⟩])
 (.seq (.seq (.regN [1] [
 ⟨some 4, none, .ldA none 4 (.tmp 1), 0, false⟩,⟨some 5, none, .call 28 [(.tmp 4)], 0, false⟩,⟨some 6, none, .bini .neq (.tmp 5) (.con (.val (.int .i64 0))), 0, false⟩])
 (.cond (.tmp 6)
 (.seq (.regN [] [
 ⟨some 2, none, .mv (.con .e0), 0, false⟩])
 .ret)
 .skip))
 (.seq (.regN [1] [
 ⟨some 7, none, .fldA 1 (.tmp 1), 0, false⟩,⟨some 8, none, .ld1 none (.tmp 7), 0, false⟩,⟨some 9, none, .mks 1 1 [(.val (.bool false))] (.tmp 8), 0, false⟩,⟨some 3, none, .allocH [.e0], 0, false⟩,⟨none, none, .st none 1 (.tmp 3) (.tmp 9), 0, false⟩])
 (.seq (.regN [1, 3] [
 ⟨some 10, none, .ld1 none (.tmp 3), 0, false⟩,⟨some 11, none, .ixA 1 (.tmp 10) (.con (.val (.int .i64 0))), 0, false⟩,⟨none, none, .st none 1 (.tmp 11) (.con (.val (.bool true))), 0, false⟩])
 (.seq (.regN [1, 3] [
 ⟨some 12, none, .fldA 3 (.tmp 1), 0, false⟩,⟨some 13, none, .ld1 none (.tmp 12), 0, false⟩,⟨some 14, none, .mkf 77 [(.tmp 3), (.tmp 1)], 0, false⟩,⟨some 15, none, .call 59 [(.tmp 13), (.tmp 14)], 0, false⟩])
 (.seq (.regN [3] [
 ⟨some 16, none, .ld1 none (.tmp 3), 0, false⟩,⟨some 2, none, .mv (.tmp 16), 0, false⟩])
 .ret))))))
def t57 : AFn := ⟨1, t57B,
 [.tmp 2], true⟩
def t77L1 : AC := (.seq (.regN [1, 2, 4, 14, 15, 16] [
 ⟨some 17, none, .bini .lss (.tmp 16) (.tmp 15), 0, false⟩])
 (.seq (.cond (.tmp 17)
 .skip
 (.exit 0))
 (.seq (.block 1
 (.seq (.regN [1, 2, 4, 14, 15, 16] [
 ⟨some 18, none, .ixA 1 (.tmp 14) (.tmp 16), 0, false⟩,⟨some 19, none, .ld1 none (.tmp 18), 0, false⟩,⟨some 6, none, .mv (.tmp 19), 0, false⟩])
 (.seq (.seq (.regN [1, 2, 4, 6, 14, 15, 16] [
 ⟨some 20, none, .mv (.tmp 6), 0, false⟩,⟨some 21, none, .fldA 0 (.tmp 2), 0, false⟩,⟨some 22, none, .ld1 none (.tmp 21), 0, false⟩,⟨some 23, none, .bini .lss (.tmp 20) (.tmp 22), 0, false⟩,⟨some 24, none, .mv (.tmp 23), 0, false⟩,⟨some 25, some (24, false), .ld1 none (.tmp 1), 0, false⟩,⟨some 26, some (24, false), .mv (.tmp 6), 0, false⟩,⟨some 27, some (24, false), .fldA 0 (.tmp 2), 0, false⟩,⟨some 28, some (24, false), .ld1 none (.tmp 27), 0, false⟩,⟨some 29, some (24, false), .bini .sub (.tmp 26) (.tmp 28), 0, false⟩,⟨some 30, some (24, false), .ixA 1 (.tmp 25) (.tmp 29), 0, false⟩,⟨some 31, some (24, false), .ld1 none (.tmp 30), 0, false⟩,⟨some 32, none, .pick (.tmp 24) (.con (.val (.bool true))) (.tmp 31), 0, false⟩])
 (.cond (.tmp 32)
 (.exit 1)
 .skip))
 (.regN [1, 2, 6, 14, 15, 16] [
 ⟨some 33, none, .ld1 none (.tmp 1), 0, false⟩,⟨some 34, none, .mv (.tmp 6), 0, false⟩,⟨some 35, none, .fldA 0 (.tmp 2), 0, false⟩,⟨some 36, none, .ld1 none (.tmp 35), 0, false⟩,⟨some 37, none, .bini .sub (.tmp 34) (.tmp 36), 0, false⟩,⟨some 38, none, .ixA 1 (.tmp 33) (.tmp 37), 0, false⟩,⟨none, none, .st none 1 (.tmp 38) (.con (.val (.bool true))), 0, false⟩,⟨some 4, none, .mv (.con (.val (.bool true))), 0, false⟩]))))
 (.regN [1, 2, 4, 14, 15, 16] [
 ⟨some 39, none, .bini .add (.tmp 16) (.con (.val (.int .i64 1))), 0, false⟩,⟨some 16, none, .mv (.tmp 39), 0, false⟩]))))
def t77B : AC := (.seq (.regN [0, 1, 2] [
 ⟨some 3, none, .boxR 2 (.tmp 0), 0, false⟩,⟨some 4, none, .mv (.con (.val (.bool false))), 0, false⟩])
 (.seq (.seq (.regN [1, 2, 3, 4] [
 ⟨some 7, none, .ld1 none (.tmp 1), 0, false⟩,⟨some 8, none, .fldA 0 (.tmp 3), 0, false⟩,⟨some 9, none, .ld1 (some 3) (.tmp 8), 0, false⟩,⟨some 10, none, .ixA 1 (.tmp 7) (.tmp 9), 0, false⟩,⟨some 11, none, .ld1 none (.tmp 10), 0, false⟩,⟨some 12, none, .not (.tmp 11), 0, false⟩])
 (.cond (.tmp 12)
 (.seq (.regN [] [
 ⟨some 4, none, .mv (.con (.val (.bool false))), 0, false⟩])
 .ret)
 .skip))
 (.seq .skip
 (.seq (.seq (.regN [1, 2, 3, 4] [
 ⟨some 13, none, .fldA 1 (.tmp 3), 0, false⟩,⟨some 14, none, .ld1 (some 3) (.tmp 13), 0, false⟩,⟨some 15, none, .len false (.tmp 14), 0, false⟩,⟨some 16, none, .mv (.con (.val (.int .i64 0))), 0, false⟩])
 (.block 0
 (.loop [1, 2, 4, 14, 15, 16] t77L1)))
 (.seq (.regN [4] [
 ⟨some 40, none, .mv (.tmp 4), 0, false⟩,⟨some 4, none, .mv (.tmp 40), 0, false⟩])
 .ret)))))
def t77 : AFn := ⟨3, t77B,
 [.tmp 4], true⟩
def t38L1 : AC := (.seq (.regN [1, 4, 5, 17, 18] [
 ⟨some 19, none, .bini .lss (.tmp 18) (.tmp 17), 0, false⟩])
 (.seq (.cond (.tmp 19)
 .skip
 (.exit 0))
 (.seq (.block 1
 (.seq (.regN [1, 4, 5, 17, 18] [
 ⟨some 20, none, .mv (.tmp 18), 0, false⟩,⟨some 6, none, .mv (.tmp 20), 0, false⟩])
 (.regD [1, 4, 5, 6, 17, 18] 1 [
 ⟨some 21, none, .ld1 none (.tmp 5), 0, false⟩,⟨some 22, none, .mv (.tmp 6), 0, false⟩,⟨some 23, none, .fldA 1 (.tmp 1), 0, false⟩,⟨some 24, none, .ld1 none (.tmp 23), 0, false⟩,⟨some 25, none, .mks 1 1 [(.val (.bool false))] (.tmp 24), 0, false⟩,⟨some 26, none, .ixA 1 (.tmp 21) (.tmp 22), 0, false⟩,⟨none, none, .st none 1 (.tmp 26) (.tmp 25), 0, false⟩])))
 (.regN [1, 4, 5, 17, 18] [
 ⟨some 27, none, .bini .add (.tmp 18) (.con (.val (.int .i64 1))), 0, false⟩,⟨some 18, none, .mv (.tmp 27), 0, false⟩]))))
def t38L2 : AC := (.seq (.regN [5, 33, 34] [
 ⟨some 35, none, .bini .lss (.tmp 34) (.tmp 33), 0, false⟩])
 (.seq (.cond (.tmp 35)
 .skip
 (.exit 2))
 (.seq (.block 3
 (.seq (.regN [5, 33, 34] [
 ⟨some 36, none, .mv (.tmp 34), 0, false⟩,⟨some 7, none, .mv (.tmp 36), 0, false⟩])
 (.seq (.regN [5, 7, 33, 34] [
 ⟨some 37, none, .ld1 none (.tmp 5), 0, false⟩,⟨some 38, none, .mv (.tmp 7), 0, false⟩,⟨some 39, none, .ixA 1 (.tmp 37) (.tmp 38), 0, false⟩,⟨some 40, none, .ld1 none (.tmp 39), 0, false⟩,⟨some 41, none, .mv (.tmp 7), 0, false⟩,⟨some 42, none, .ixA 1 (.tmp 40) (.tmp 41), 0, false⟩,⟨some 43, none, .ld1 none (.tmp 42), 0, false⟩])
 (.cond (.tmp 43)
 (.seq (.regN [7] [
 ⟨some 44, none, .mv (.tmp 7), 0, false⟩,⟨some 2, none, .mv (.tmp 44), 0, false⟩,⟨some 3, none, .mv (.con (.val (.bool true))), 0, false⟩])
 .ret)
 .skip))))
 (.regN [5, 33, 34] [
 ⟨some 45, none, .bini .add (.tmp 34) (.con (.val (.int .i64 1))), 0, false⟩,⟨some 34, none, .mv (.tmp 45), 0, false⟩]))))
def t38B : AC := (.seq (.regN [0] [
 ⟨some 1, none, .boxH 4 (.tmp 0), 0, false⟩,⟨some 2, none, .mv (.con (.val (.int .i64 0))), 0, false⟩,⟨some 3, none, .mv (.con (.val (.bool false))), 0, false⟩])
 (.seq (.seq (.regN [1] [
 ⟨some 8, none, .ldA none 4 (.tmp 1), 0, false⟩,⟨some 9, none, .call 28 [(.tmp 8)], 0, false⟩,⟨some 10, none, .bini .neq (.tmp 9) (.con (.val (.int .i64 0))), 0, false⟩])
 (.cond (.tmp 10)
 (.seq (.regN [] [
 ⟨some 2, none, .mv (.con (.val (.int .i64 0))), 0, false⟩,⟨some 3, none, .mv (.con (.val (.bool false))), 0, false⟩])
 .ret)
 .skip))
 (.seq (.regN [1] [
 ⟨some 11, none, .ldA none 4 (.tmp 1), 0, false⟩,⟨some 12, none, .call 58 [(.tmp 11)], 0, false⟩,⟨some 4, none, .allocH [.e0], 0, false⟩,⟨none, none, .st none 1 (.tmp 4) (.tmp 12), 0, false⟩])
 (.seq (.regN [1, 4] [
 ⟨some 13, none, .fldA 1 (.tmp 1), 0, false⟩,⟨some 14, none, .ld1 none (.tmp 13), 0, false⟩,⟨some 15, none, .mks 1 24 [.e0] (.tmp 14), 0, false⟩,⟨some 5, none, .allocH [.e0], 0, false⟩,⟨none, none, .st none 1 (.tmp 5) (.tmp 15), 0, false⟩])
 (.seq (.seq (.regN [1, 4, 5] [
 ⟨some 16, none, .ld1 none (.tmp 5), 0, false⟩,⟨some 17, none, .len false (.tmp 16), 0, false⟩,⟨some 18, none, .mv (.con (.val (.int .i64 0))), 0, false⟩])
 (.block 0
 (.loop [1, 4, 5, 17, 18] t38L1)))
 (.seq (.regN [1, 4, 5] [
 ⟨some 28, none, .fldA 3 (.tmp 1), 0, false⟩,⟨some 29, none, .ld1 none (.tmp 28), 0, false⟩,⟨some 30, none, .mkf 60 [(.tmp 5), (.tmp 1), (.tmp 4)], 0, false⟩,⟨some 31, none, .call 59 [(.tmp 29), (.tmp 30)], 0, false⟩])
 (.seq (.seq (.regN [1, 5] [
 ⟨some 32, none, .fldA 1 (.tmp 1), 0, false⟩,⟨some 33, none, .ld1 none (.tmp 32), 0, false⟩,⟨some 34, none, .mv (.con (.val (.int .i64 0))), 0, false⟩])
 (.block 2
 (.loop [5, 33, 34] t38L2)))
 (.seq (.regN [] [
 ⟨some 2, none, .mv (.con (.val (.int .i64 0))), 0, false⟩,⟨some 3, none, .mv (.con (.val (.bool false))), 0, false⟩])
 .ret))))))))
def t38 : AFn := ⟨1, t38B,
 [.tmp 2, .tmp 3], true⟩
def t58B : AC := (.seq (.regN [0] [
 ⟨some 1, none, .boxR 4 (.tmp 0), 0, false⟩,⟨some 2, none, .mv (.con .e0), 0, false⟩])
 (.seq (.regN [1] [
 ⟨some 3, none, .ldA (some 1) 4 (.tmp 1), 0, false⟩,⟨some 4, none, .call 76 [(.tmp 3), (.con (.val (.bool false)))], 0, false⟩,⟨some 2, none, .mv (.tmp 4), 0, false⟩])
 .ret))
def t58 : AFn := ⟨1, t58B,
 [.tmp 2], true⟩
def t60L1 : AC := (.seq (.regN [1, 5, 6, 8, 20, 21, 22, 29, 30, 31] [
 ⟨some 32, none, .bini .lss (.tmp 31) (.tmp 30), 0, false⟩])
 (.seq (.cond (.tmp 32)
 .skip
 (.exit 2))
 (.seq (.block 3
 (.seq (.regN [1, 5, 6, 8, 20, 21, 22, 29, 30, 31] [
 ⟨some 33, none, .mv (.tmp 31), 0, false⟩,⟨some 34, none, .ixA 1 (.tmp 29) (.tmp 31), 0, false⟩,⟨some 35, none, .ld1 none (.tmp 34), 0, false⟩,⟨some 9, none, .mv (.tmp 33), 0, false⟩,⟨some 10, none, .mv (.tmp 35), 0, false⟩])
 (.seq (.regN [1, 5, 6, 8, 9, 10, 20, 21, 22, 29, 30, 31] [
 ⟨some 36, none, .mv (.tmp 10), 0, false⟩,⟨some 37, none, .mv (.tmp 36), 0, false⟩,⟨some 38, some (37, false), .mv (.tmp 9), 0, false⟩,⟨some 39, some (37, false), .mv (.tmp 8), 0, false⟩,⟨some 40, some (37, false), .bini .eql (.tmp 38) (.tmp 39), 0, false⟩,⟨some 41, none, .pick (.tmp 37) (.con (.val (.bool true))) (.tmp 40), 0, false⟩,⟨some 42, none, .mv (.tmp 41), 0, false⟩,⟨some 43, some (42, true), .mv (.tmp 6), 0, false⟩,⟨some 44, some (42, true), .mv (.tmp 9), 0, false⟩,⟨some 45, some (42, true), .ixA 1 (.tmp 43) (.tmp 44), 0, false⟩,⟨some 46, some (42, true), .ld1 none (.tmp 45), 0, false⟩,⟨some 47, some (42, true), .not (.tmp 46), 0, false⟩,⟨some 48, none, .pick (.tmp 42) (.tmp 47) (.con (.val (.bool false))), 0, false⟩])
 (.cond (.tmp 48)
 (.regN [1, 6, 8, 9, 20, 21, 22, 29, 30, 31] [
 ⟨some 49, none, .mv (.tmp 6), 0, false⟩,⟨some 50, none, .mv (.tmp 9), 0, false⟩,⟨some 51, none, .ixA 1 (.tmp 49) (.tmp 50), 0, false⟩,⟨none, none, .st none 1 (.tmp 51) (.con (.val (.bool true))), 0, false⟩,⟨some 5, none, .mv (.con (.val (.bool true))), 0, false⟩])
 .skip))))
 (.regN [1, 5, 6, 8, 20, 21, 22, 29, 30, 31] [
 ⟨some 52, none, .bini .add (.tmp 31) (.con (.val (.int .i64 1))), 0, false⟩,⟨some 31, none, .mv (.tmp 52), 0, false⟩]))))
def t60L2 : AC := (.seq (.regN [1, 5, 6, 20, 21, 22] [
 ⟨some 23, none, .bini .lss (.tmp 22) (.tmp 21), 0, false⟩])
 (.seq (.cond (.tmp 23)
 .skip
 (.exit 0))
 (.seq (.block 1
 (.seq (.regN [1, 5, 6, 20, 21, 22] [
 ⟨some 24, none, .ixA 1 (.tmp 20) (.tmp 22), 0, false⟩,⟨some 25, none, .ld1 none (.tmp 24), 0, false⟩,⟨some 8, none, .mv (.tmp 25), 0, false⟩])
 (.seq (.regN [1, 5, 6, 8, 20, 21, 22] [
 ⟨some 26, none, .ld1 none (.tmp 1), 0, false⟩,⟨some 27, none, .mv (.tmp 8), 0, false⟩,⟨some 28, none, .ixA 1 (.tmp 26) (.tmp 27), 0, false⟩,⟨some 29, none, .ld1 none (.tmp 28), 0, false⟩,⟨some 30, none, .len false (.tmp 29), 0, false⟩,⟨some 31, none, .mv (.con (.val (.int .i64 0))), 0, false⟩])
 (.block 2
 (.loop [1, 5, 6, 8, 20, 21, 22, 29, 30, 31] t60L1)))))
 (.regN [1, 5, 6, 20, 21, 22] [
 ⟨some 53, none, .bini .add (.tmp 22) (.con (.val (.int .i64 1))), 0, false⟩,⟨some 22, none, .mv (.tmp 53), 0, false⟩]))))
def t60B : AC := (.seq (.regN [0, 1, 2, 3] [
 ⟨some 4, none, .boxR 2 (.tmp 0), 0, false⟩,⟨some 5, none, .mv (.con (.val (.bool false))), 0, false⟩])
 (.seq (.regN [1, 2, 3, 4, 5] [
 ⟨some 11, none, .ld1 none (.tmp 1), 0, false⟩,⟨some 12, none, .fldA 0 (.tmp 4), 0, false⟩,⟨some 13, none, .ld1 (some 4) (.tmp 12), 0, false⟩,⟨some 14, none, .ixA 1 (.tmp 11) (.tmp 13), 0, false⟩,⟨some 15, none, .ld1 none (.tmp 14), 0, false⟩,⟨some 6, none, .mv (.tmp 15), 0, false⟩])
 (.seq (.seq (.regN [1, 2, 3, 4, 5, 6] [
 ⟨some 16, none, .ldA none 4 (.tmp 2), 0, false⟩,⟨some 17, none, .ld1 none (.tmp 3), 0, false⟩,⟨some 18, none, .fldA 1 (.tmp 4), 0, false⟩,⟨some 19, none, .ld1 (some 4) (.tmp 18), 0, false⟩,⟨some 20, none, .call 61 [(.tmp 16), (.tmp 17), (.tmp 19)], 0, false⟩,⟨some 21, none, .len false (.tmp 20), 0, false⟩,⟨some 22, none, .mv (.con (.val (.int .i64 0))), 0, false⟩])
 (.block 0
 (.loop [1, 5, 6, 20, 21, 22] t60L2)))
 (.seq (.regN [5] [
 ⟨some 54, none, .mv (.tmp 5), 0, false⟩,⟨some 5, none, .mv (.tmp 54), 0, false⟩])
 .ret))))
def t60 : AFn := ⟨4, t60B,
 [.tmp 5], true⟩
def t61L1 : AC := (.seq (.regN [1, 3, 6, 9, 10, 11] [
 ⟨some 12, none, .bini .lss (.tmp 11) (.tmp 10), 0, false⟩])
 (.seq (.cond (.tmp 12)
 .skip
 (.exit 0))
 (.seq (.block 1
 (.seq (.regN [1, 3, 6, 9, 10, 11] [
 ⟨some 13, none, .ixA 1 (.tmp 9) (.tmp 11), 0, false⟩,⟨some 14, none, .ld1 none (.tmp 13), 0, false⟩,⟨some 8, none, .mv (.tmp 14), 0, false⟩])
 (.seq (.seq (.regN [1, 3, 6, 8, 9, 10, 11] [
 ⟨some 15, none, .mv (.tmp 8), 0, false⟩,⟨some 16, none, .fldA 0 (.tmp 3), 0, false⟩,⟨some 17, none, .ld1 (some 3) (.tmp 16), 0, false⟩,⟨some 18, none, .bini .lss (.tmp 15) (.tmp 17), 0, false⟩])
 (.cond (.tmp 18)
 (.exit 0)
 .skip))
 (.seq (.regN [1, 3, 6, 8, 9, 10, 11] [
 ⟨some 19, none, .mv (.tmp 6), 0, false⟩,⟨some 20, none, .mv (.tmp 8), 0, false⟩,⟨some 21, none, .fldA 0 (.tmp 3), 0, false⟩,⟨some 22, none, .ld1 (some 3) (.tmp 21), 0, false⟩,⟨some 23, none, .bini .sub (.tmp 20) (.tmp 22), 0, false⟩,⟨some 24, none, .buildS 1 [(.val (.int .i64 0))] [(0, 1, (.tmp 23))], 0, false⟩,⟨some 25, none, .app 1 8 (.tmp 19) (.tmp 24), 0, false⟩,⟨some 6, none, .mv (.tmp 25), 0, false⟩])
 (.seq (.regN [1, 3, 6, 8, 9, 10, 11] [
 ⟨some 26, none, .mv (.tmp 1), 0, false⟩,⟨some 27, none, .mv (.tmp 8), 0, false⟩,⟨some 28, none, .fldA 0 (.tmp 3), 0, false⟩,⟨some 29, none, .ld1 (some 3) (.tmp 28), 0, false⟩,⟨some 30, none, .bini .sub (.tmp 27) (.tmp 29), 0, false⟩,⟨some 31, none, .ixA 1 (.tmp 26) (.tmp 30), 0, false⟩,⟨some 32, none, .ld1 none (.tmp 31), 0, false⟩,⟨some 33, none, .not (.tmp 32), 0, false⟩])
 (.cond (.tmp 33)
 (.exit 0)
 .skip))))))
 (.regN [1, 3, 6, 9, 10, 11] [
 ⟨some 34, none, .bini .add (.tmp 11) (.con (.val (.int .i64 1))), 0, false⟩,⟨some 11, none, .mv (.tmp 34), 0, false⟩]))))
def t61B : AC := (.seq (.regN [0, 1, 2] [
 ⟨some 3, none, .boxR 4 (.tmp 0), 0, false⟩,⟨some 6, none, .mv (.con .e0), 0, false⟩])
 (.seq (.seq (.regN [1, 2, 3, 6] [
 ⟨some 9, none, .mv (.tmp 2), 0, false⟩,⟨some 10, none, .len false (.tmp 9), 0, false⟩,⟨some 11, none, .mv (.con (.val (.int .i64 0))), 0, false⟩])
 (.block 0
 (.loop [1, 3, 6, 9, 10, 11] t61L1)))
 (.seq (.regN [6] [
 ⟨some 35, none, .mv (.tmp 6), 0, false⟩,⟨some 6, none, .mv (.tmp 35), 0, false⟩])
 .ret)))
def t61 : AFn := ⟨3, t61B,
 [.tmp 6], true⟩
def t10L1 : AC := (.seq (.seq (.regN [1, 3] [
 ⟨some 26, none, .mv (.tmp 3), 0, false⟩,⟨some 27, none, .fldA 3 (.tmp 1), 0, false⟩,⟨some 28, none, .ld1 (some 1) (.tmp 27), 0, false⟩,⟨some 29, none, .len false (.tmp 28), 0, false⟩,⟨some 30, none, .bini .lss (.tmp 26) (.tmp 29), 0, false⟩])
 (.cond (.tmp 30)
 .skip
 (.exit 0)))
 (.seq (.block 1
 (.seq (.regN [1, 3] [
 ⟨some 33, none, .fldA 3 (.tmp 1), 0, false⟩,⟨some 34, none, .ld1 (some 1) (.tmp 33), 0, false⟩,⟨some 35, none, .mv (.tmp 3), 0, false⟩,⟨some 36, none, .ixA 2 (.tmp 34) (.tmp 35), 0, false⟩,⟨some 37, none, .fldA 1 (.tmp 36), 0, false⟩,⟨some 38, none, .ld1 none (.tmp 37), 0, false⟩,⟨some 39, none, .len false (.tmp 38), 0, false⟩,⟨some 40, none, .bini .gtr (.tmp 39) (.con (.val (.int .i64 8))), 0, false⟩])
 (.cond (.tmp 40)
 (.seq (.regN [] [
 ⟨some 2, none, .mv (.con (.val (.int .i64 3))), 0, false⟩])
 .ret)
 .skip)))
 (.regN [1, 3] [
 ⟨some 31, none, .mv (.tmp 3), 0, false⟩,⟨some 32, none, .bini .add (.tmp 31) (.con (.val (.int .i64 1))), 0, false⟩,⟨some 3, none, .mv (.tmp 32), 0, false⟩])))
def t10L2 : AC := (.seq (.seq (.regN [1, 4, 5, 6] [
 ⟨some 82, none, .mv (.tmp 6), 0, false⟩,⟨some 83, none, .fldA 1 (.tmp 5), 0, false⟩,⟨some 84, none, .ld1 (some 5) (.tmp 83), 0, false⟩,⟨some 85, none, .len false (.tmp 84), 0, false⟩,⟨some 86, none, .bini .lss (.tmp 82) (.tmp 85), 0, false⟩])
 (.cond (.tmp 86)
 .skip
 (.exit 4)))
 (.seq (.block 5
 (.seq (.regD [1, 4, 5, 6] 0 [
 ⟨some 89, none, .fldA 1 (.tmp 5), 0, false⟩,⟨some 90, none, .ld1 (some 5) (.tmp 89), 0, false⟩,⟨some 91, none, .mv (.tmp 6), 0, false⟩,⟨some 92, none, .ixA 1 (.tmp 90) (.tmp 91), 0, false⟩,⟨some 93, none, .ld1 none (.tmp 92), 0, false⟩,⟨some 94, none, .bini .lss (.tmp 93) (.con (.val (.int .i64 0))), 0, false⟩,⟨some 95, none, .mv (.tmp 94), 0, false⟩,⟨some 96, some (95, false), .fldA 1 (.tmp 5), 0, false⟩,⟨some 97, some (95, false), .ld1 (some 5) (.tmp 96), 0, false⟩,⟨some 98, some (95, false), .mv (.tmp 6), 0, false⟩,⟨some 99, some (95, false), .ixA 1 (.tmp 97) (.tmp 98), 0, false⟩,⟨some 100, some (95, false), .ld1 none (.tmp 99), 0, false⟩,⟨some 101, some (95, false), .fldA 0 (.tmp 1), 0, false⟩,⟨some 102, some (95, false), .ld1 (some 1) (.tmp 101), 0, false⟩,⟨some 103, some (95, false), .fldA 1 (.tmp 1), 0, false⟩,⟨some 104, some (95, false), .ld1 (some 1) (.tmp 103), 0, false⟩,⟨some 105, some (95, false), .bini .add (.tmp 102) (.tmp 104), 0, false⟩,⟨some 106, some (95, false), .bini .geq (.tmp 100) (.tmp 105), 0, false⟩,⟨some 107, none, .pick (.tmp 95) (.con (.val (.bool true))) (.tmp 106), 0, false⟩])
 (.cond (.tmp 107)
 (.seq (.regN [] [
 ⟨some 2, none, .mv (.con (.val (.int .i64 2))), 0, false⟩])
 .ret)
 .skip)))
 (.regN [1, 4, 5, 6] [
 ⟨some 87, none, .mv (.tmp 6), 0, false⟩,⟨some 88, none, .bini .add (.tmp 87) (.con (.val (.int .i64 1))), 0, false⟩,⟨some 6, none, .mv (.tmp 88), 0, false⟩])))
def t10L3 : AC := (.seq (.seq (.regN [1, 4] [
 ⟨some 60, none, .mv (.tmp 4), 0, false⟩,⟨some 61, none, .fldA 3 (.tmp 1), 0, false⟩,⟨some 62, none, .ld1 (some 1) (.tmp 61), 0, false⟩,⟨some 63, none, .len false (.tmp 62), 0, false⟩,⟨some 64, none, .bini .lss (.tmp 60) (.tmp 63), 0, false⟩])
 (.cond (.tmp 64)
 .skip
 (.exit 2)))
 (.seq (.block 3
 (.seq (.regN [1, 4] [
 ⟨some 67, none, .fldA 3 (.tmp 1), 0, false⟩,⟨some 68, none, .ld1 (some 1) (.tmp 67), 0, false⟩,⟨some 69, none, .mv (.tmp 4), 0, false⟩,⟨some 70, none, .ixA 2 (.tmp 68) (.tmp 69), 0, false⟩,⟨some 71, none, .ldA none 2 (.tmp 70), 0, false⟩,⟨some 5, none, .allocR [(.val (.int .i64 0)), .e0], 0, false⟩,⟨none, none, .st (some 5) 2 (.tmp 5) (.tmp 71), 0, false⟩])
 (.seq (.seq (.regN [1, 4, 5] [
 ⟨some 72, none, .fldA 0 (.tmp 5), 0, false⟩,⟨some 73, none, .ld1 (some 5) (.tmp 72), 0, false⟩,⟨some 74, none, .bini .lss (.tmp 73) (.con (.val (.int .i64 0))), 0, false⟩,⟨some 75, none, .mv (.tmp 74), 0, false⟩,⟨some 76, some (75, false), .fldA 0 (.tmp 5), 0, false⟩,⟨some 77, some (75, false), .ld1 (some 5) (.tmp 76), 0, false⟩,⟨some 78, some (75, false), .fldA 1 (.tmp 1), 0, false⟩,⟨some 79, some (75, false), .ld1 (some 1) (.tmp 78), 0, false⟩,⟨some 80, some (75, false), .bini .geq (.tmp 77) (.tmp 79), 0, false⟩,⟨some 81, none, .pick (.tmp 75) (.con (.val (.bool true))) (.tmp 80), 0, false⟩])
 (.cond (.tmp 81)
 (.seq (.regN [] [
 ⟨some 2, none, .mv (.con (.val (.int .i64 2))), 0, false⟩])
 .ret)
 .skip))
 (.seq (.regN [1, 4, 5] [
 ⟨some 6, none, .mv (.con (.val (.int .i64 0))), 0, false⟩])
 (.block 4
 (.loop [1, 4, 5, 6] t10L2))))))
 (.regN [1, 4] [
 ⟨some 65, none, .mv (.tmp 4), 0, false⟩,⟨some 66, none, .bini .add (.tmp 65) (.con (.val (.int .i64 1))), 0, false⟩,⟨some 4, none, .mv (.tmp 66), 0, false⟩])))
def t10B : AC := (.seq (.regN [0] [
 ⟨some 1, none, .boxR 4 (.tmp 0), 0, false⟩,⟨some 2, none, .mv (.con (.val (.int .i64 0))), 0, false⟩])
 (.seq (.seq (.regN [1] [
 ⟨some 7, none, .fldA 0 (.tmp 1), 0, false⟩,⟨some 8, none, .ld1 (some 1) (.tmp 7), 0, false⟩,⟨some 9, none, .bini .gtr (.tmp 8) (.con (.val (.int .i64 8))), 0, false⟩,⟨some 10, none, .mv (.tmp 9), 0, false⟩,⟨some 11, some (10, false), .fldA 1 (.tmp 1), 0, false⟩,⟨some 12, some (10, false), .ld1 (some 1) (.tmp 11), 0, false⟩,⟨some 13, some (10, false), .bini .gtr (.tmp 12) (.con (.val (.int .i64 16))), 0, false⟩,⟨some 14, none, .pick (.tmp 10) (.con (.val (.bool true))) (.tmp 13), 0, false⟩,⟨some 15, none, .mv (.tmp 14), 0, false⟩,⟨some 16, some (15, false), .fldA 2 (.tmp 1), 0, false⟩,⟨some 17, some (15, false), .ld1 (some 1) (.tmp 16), 0, false⟩,⟨some 18, some (15, false), .bini .gtr (.tmp 17) (.con (.val (.int .i64 3))), 0, false⟩,⟨some 19, none, .pick (.tmp 15) (.con (.val (.bool true))) (.tmp 18), 0, false⟩,⟨some 20, none, .mv (.tmp 19), 0, false⟩,⟨some 21, some (20, false), .fldA 3 (.tmp 1), 0, false⟩,⟨some 22, some (20, false), .ld1 (some 1) (.tmp 21), 0, false⟩,⟨some 23, some (20, false), .len false (.tmp 22), 0, false⟩,⟨some 24, some (20, false), .bini .gtr (.tmp 23) (.con (.val (.int .i64 64))), 0, false⟩,⟨some 25, none, .pick (.tmp 20) (.con (.val (.bool true))) (.tmp 24), 0, false⟩])
 (.cond (.tmp 25)
 (.seq (.regN [] [
 ⟨some 2, none, .mv (.con (.val (.int .i64 3))), 0, false⟩])
 .ret)
 .skip))
 (.seq (.seq (.regN [1] [
 ⟨some 3, none, .mv (.con (.val (.int .i64 0))), 0, false⟩])
 (.block 0
 (.loop [1, 3] t10L1)))
 (.seq (.seq (.regN [1] [
 ⟨some 41, none, .fldA 0 (.tmp 1), 0, false⟩,⟨some 42, none, .ld1 (some 1) (.tmp 41), 0, false⟩,⟨some 43, none, .bini .lss (.tmp 42) (.con (.val (.int .i64 1))), 0, false⟩,⟨some 44, none, .mv (.tmp 43), 0, false⟩,⟨some 45, some (44, false), .fldA 1 (.tmp 1), 0, false⟩,⟨some 46, some (44, false), .ld1 (some 1) (.tmp 45), 0, false⟩,⟨some 47, some (44, false), .bini .lss (.tmp 46) (.con (.val (.int .i64 1))), 0, false⟩,⟨some 48, none, .pick (.tmp 44) (.con (.val (.bool true))) (.tmp 47), 0, false⟩,⟨some 49, none, .mv (.tmp 48), 0, false⟩,⟨some 50, some (49, false), .fldA 2 (.tmp 1), 0, false⟩,⟨some 51, some (49, false), .ld1 (some 1) (.tmp 50), 0, false⟩,⟨some 52, some (49, false), .bini .lss (.tmp 51) (.con (.val (.int .i64 1))), 0, false⟩,⟨some 53, none, .pick (.tmp 49) (.con (.val (.bool true))) (.tmp 52), 0, false⟩,⟨some 54, none, .mv (.tmp 53), 0, false⟩,⟨some 55, some (54, false), .fldA 3 (.tmp 1), 0, false⟩,⟨some 56, some (54, false), .ld1 (some 1) (.tmp 55), 0, false⟩,⟨some 57, some (54, false), .len false (.tmp 56), 0, false⟩,⟨some 58, some (54, false), .bini .lss (.tmp 57) (.con (.val (.int .i64 1))), 0, false⟩,⟨some 59, none, .pick (.tmp 54) (.con (.val (.bool true))) (.tmp 58), 0, false⟩])
 (.cond (.tmp 59)
 (.seq (.regN [] [
 ⟨some 2, none, .mv (.con (.val (.int .i64 2))), 0, false⟩])
 .ret)
 .skip))
 (.seq (.seq (.regN [1] [
 ⟨some 4, none, .mv (.con (.val (.int .i64 0))), 0, false⟩])
 (.block 2
 (.loop [1, 4] t10L3)))
 (.seq (.regN [] [
 ⟨some 2, none, .mv (.con (.val (.int .i64 0))), 0, false⟩])
 .ret))))))
def t10 : AFn := ⟨1, t10B,
 [.tmp 2], true⟩
def t20L1 : AC := (.seq (.seq (.regN [1, 4, 5, 6] [
 ⟨some 14, none, .mv (.tmp 6), 0, false⟩,⟨some 15, none, .fldA 1 (.tmp 1), 0, false⟩,⟨some 16, none, .ld1 (some 1) (.tmp 15), 0, false⟩,⟨some 17, none, .bini .lss (.tmp 14) (.tmp 16), 0, false⟩])
 (.cond (.tmp 17)
 .skip
 (.exit 0)))
 (.seq (.block 1
 (.seq (.regN [1, 4, 5, 6] [
 ⟨some 20, none, .mv (.tmp 4), 0, false⟩,⟨some 21, none, .mv (.tmp 6), 0, false⟩,⟨some 22, none, .ixA 1 (.tmp 20) (.tmp 21), 0, false⟩,⟨some 23, none, .ld1 none (.tmp 22), 0, false⟩,⟨some 24, none, .not (.tmp 23), 0, false⟩,⟨some 25, none, .mv (.tmp 24), 0, false⟩,⟨some 26, some (25, false), .mv (.tmp 5), 0, false⟩,⟨some 27, some (25, false), .mv (.tmp 6), 0, false⟩,⟨some 28, some (25, false), .ixA 1 (.tmp 26) (.tmp 27), 0, false⟩,⟨some 29, some (25, false), .ld1 none (.tmp 28), 0, false⟩,⟨some 30, some (25, false), .not (.tmp 29), 0, false⟩,⟨some 31, none, .pick (.tmp 25) (.con (.val (.bool true))) (.tmp 30), 0, false⟩])
 (.cond (.tmp 31)
 (.seq (.regN [6] [
 ⟨some 32, none, .mv (.tmp 6), 0, false⟩,⟨some 2, none, .mv (.tmp 32), 0, false⟩,⟨some 3, none, .mv (.con (.val (.bool false))), 0, false⟩])
 .ret)
 .skip)))
 (.regN [1, 4, 5, 6] [
 ⟨some 18, none, .mv (.tmp 6), 0, false⟩,⟨some 19, none, .bini .add (.tmp 18) (.con (.val (.int .i64 1))), 0, false⟩,⟨some 6, none, .mv (.tmp 19), 0, false⟩])))
def t20B : AC := (.seq (.regN [0] [
 ⟨some 1, none, .boxR 4 (.tmp 0), 0, false⟩,⟨some 2, none, .mv (.con (.val (.int .i64 0))), 0, false⟩,⟨some 3, none, .mv (.con (.val (.bool false))), 0, false⟩])
 (.seq (.seq (.regN [1] [
 ⟨some 7, none, .ldA (some 1) 4 (.tmp 1), 0, false⟩,⟨some 8, none, .call 10 [(.tmp 7)], 0, false⟩,⟨some 9, none, .bini .neq (.tmp 8) (.con (.val (.int .i64 0))), 0, false⟩])
 (.cond (.tmp 9)
 (.seq (.regN [] [
 ⟨some 2, none, .mv (.con (.val (.int .i64 0))), 0, false⟩,⟨some 3, none, .mv (.con (.val (.bool false))), 0, false⟩])
 .ret)
 .skip))
 (.seq (.regD [1] 0 [
 ⟨some 10, none, .ldA (some 1) 4 (.tmp 1), 0, false⟩,⟨some 11, none, .call 39 [(.tmp 10)], 0, true⟩,⟨some 12, none, .ldA (some 1) 4 (.tmp 1), 0, false⟩,⟨some 13, none, .call 40 [(.tmp 12)], 0, true⟩,⟨some 4, none, .mv (.tmp 11), 0, false⟩,⟨some 5, none, .mv (.tmp 13), 0, false⟩])
 (.seq (.seq (.regN [1, 4, 5] [
 ⟨some 6, none, .mv (.con (.val (.int .i64 0))), 0, false⟩])
 (.block 0
 (.loop [1, 4, 5, 6] t20L1)))
 (.seq (.regN [] [
 ⟨some 2, none, .mv (.con (.val (.int .i64 0))), 0, false⟩,⟨some 3, none, .mv (.con (.val (.bool true))), 0, false⟩])
 .ret)))))
def t20 : AFn := ⟨1, t20B,
 [.tmp 2, .tmp 3], true⟩
def t39B : AC := (.seq (.regN [0] [
 ⟨some 1, none, .boxR 4 (.tmp 0), 0, false⟩,⟨some 2, none, .mv (.con .e0), 0, false⟩])
 (.seq (.regN [1] [
 ⟨some 3, none, .ldA (some 1) 4 (.tmp 1), 0, false⟩,⟨some 4, none, .call 62 [(.tmp 3), (.con (.val (.bool true)))], 0, false⟩,⟨some 2, none, .mv (.tmp 4), 0, false⟩])
 .ret))
def t39 : AFn := ⟨1, t39B,
 [.tmp 2], true⟩
def t62L1 : AC := (.seq (.seq (.regN [1, 2, 5, 6, 7, 8, 9, 10] [
 ⟨some 37, none, .mv (.tmp 10), 0, false⟩,⟨some 38, none, .fldA 1 (.tmp 8), 0, false⟩,⟨some 39, none, .ld1 (some 8) (.tmp 38), 0, false⟩,⟨some 40, none, .len false (.tmp 39), 0, false⟩,⟨some 41, none, .bini .lss (.tmp 37) (.tmp 40), 0, false⟩,⟨some 42, none, .mv (.tmp 41), 0, false⟩,⟨some 43, some (42, true), .mv (.tmp 9), 0, false⟩,⟨some 44, none, .pick (.tmp 42) (.tmp 43) (.con (.val (.bool false))), 0, false⟩])
 (.cond (.tmp 44)
 .skip
 (.exit 4)))
 (.seq (.block 5
 (.seq (.regN [1, 2, 5, 6, 7, 8, 10] [
 ⟨some 47, none, .fldA 1 (.tmp 8), 0, false⟩,⟨some 48, none, .ld1 (some 8) (.tmp 47), 0, false⟩,⟨some 49, none, .mv (.tmp 10), 0, false⟩,⟨some 50, none, .ixA 1 (.tmp 48) (.tmp 49), 0, false⟩,⟨some 51, none, .ld1 none (.tmp 50), 0, false⟩,⟨some 11, none, .mv (.tmp 51), 0, false⟩])
 (.regN [1, 2, 5, 6, 7, 8, 10, 11] [
 ⟨some 52, none, .mv (.tmp 11), 0, false⟩,⟨some 53, none, .fldA 0 (.tmp 2), 0, false⟩,⟨some 54, none, .ld1 (some 2) (.tmp 53), 0, false⟩,⟨some 55, none, .bini .lss (.tmp 52) (.tmp 54), 0, false⟩,⟨some 56, none, .mv (.tmp 55), 0, false⟩,⟨some 57, some (56, true), .mv (.tmp 1), 0, false⟩,⟨some 58, none, .pick (.tmp 56) (.tmp 57) (.con (.val (.bool false))), 0, false⟩,⟨some 59, none, .mv (.tmp 58), 0, false⟩,⟨some 60, some (59, false), .mv (.tmp 11), 0, false⟩,⟨some 61, some (59, false), .fldA 0 (.tmp 2), 0, false⟩,⟨some 62, some (59, false), .ld1 (some 2) (.tmp 61), 0, false⟩,⟨some 63, some (59, false), .bini .geq (.tmp 60) (.tmp 62), 0, false⟩,⟨some 64, some (59, false), .mv (.tmp 63), 0, false⟩,⟨some 65, some (64, true), .mv (.tmp 5), 0, false⟩,⟨some 66, some (64, true), .mv (.tmp 11), 0, false⟩,⟨some 67, some (64, true), .fldA 0 (.tmp 2), 0, false⟩,⟨some 68, some (64, true), .ld1 (some 2) (.tmp 67), 0, false⟩,⟨some 69, some (64, true), .bini .sub (.tmp 66) (.tmp 68), 0, false⟩,⟨some 70, some (64, true), .ixA 1 (.tmp 65) (.tmp 69), 0, false⟩,⟨some 71, some (64, true), .ld1 none (.tmp 70), 0, false⟩,⟨some 72, some (59, false), .pick (.tmp 64) (.tmp 71) (.con (.val (.bool false))), 0, false⟩,⟨some 73, none, .pick (.tmp 59) (.con (.val (.bool true))) (.tmp 72), 0, false⟩,⟨some 9, none, .mv (.tmp 73), 0, false⟩])))
 (.regN [1, 2, 5, 6, 7, 8, 9, 10] [
 ⟨some 45, none, .mv (.tmp 10), 0, false⟩,⟨some 46, none, .bini .add (.tmp 45) (.con (.val (.int .i64 1))), 0, false⟩,⟨some 10, none, .mv (.tmp 46), 0, false⟩])))
def t62L2 : AC := (.seq (.seq (.regN [1, 2, 5, 6, 7] [
 ⟨some 19, none, .mv (.tmp 7), 0, false⟩,⟨some 20, none, .fldA 3 (.tmp 2), 0, false⟩,⟨some 21, none, .ld1 (some 2) (.tmp 20), 0, false⟩,⟨some 22, none, .len false (.tmp 21), 0, false⟩,⟨some 23, none, .bini .lss (.tmp 19) (.tmp 22), 0, false⟩])
 (.cond (.tmp 23)
 .skip
 (.exit 2)))
 (.seq (.block 3
 (.seq (.regN [1, 2, 5, 6, 7] [
 ⟨some 26, none, .fldA 3 (.tmp 2), 0, false⟩,⟨some 27, none, .ld1 (some 2) (.tmp 26), 0, false⟩,⟨some 28, none, .mv (.tmp 7), 0, false⟩,⟨some 29, none, .ixA 2 (.tmp 27) (.tmp 28), 0, false⟩,⟨some 30, none, .ldA none 2 (.tmp 29), 0, false⟩,⟨some 8, none, .allocR [(.val (.int .i64 0)), .e0], 0, false⟩,⟨none, none, .st (some 8) 2 (.tmp 8) (.tmp 30), 0, false⟩])
 (.seq (.regN [1, 2, 5, 6, 7, 8] [
 ⟨some 31, none, .mv (.tmp 5), 0, false⟩,⟨some 32, none, .fldA 0 (.tmp 8), 0, false⟩,⟨some 33, none, .ld1 (some 8) (.tmp 32), 0, false⟩,⟨some 34, none, .ixA 1 (.tmp 31) (.tmp 33), 0, false⟩,⟨some 35, none, .ld1 none (.tmp 34), 0, false⟩,⟨some 36, none, .not (.tmp 35), 0, false⟩,⟨some 9, none, .mv (.tmp 36), 0, false⟩])
 (.seq (.seq (.regN [1, 2, 5, 6, 7, 8, 9] [
 ⟨some 10, none, .mv (.con (.val (.int .i64 0))), 0, false⟩])
 (.block 4
 (.loop [1, 2, 5, 6, 7, 8, 9, 10] t62L1)))
 (.seq (.regN [1, 2, 5, 6, 7, 8, 9] [
 ⟨some 74, none, .mv (.tmp 9), 0, false⟩])
 (.cond (.tmp 74)
 (.regN [1, 2, 5, 7, 8] [
 ⟨some 75, none, .mv (.tmp 5), 0, false⟩,⟨some 76, none, .fldA 0 (.tmp 8), 0, false⟩,⟨some 77, none, .ld1 (some 8) (.tmp 76), 0, false⟩,⟨some 78, none, .ixA 1 (.tmp 75) (.tmp 77), 0, false⟩,⟨none, none, .st none 1 (.tmp 78) (.con (.val (.bool true))), 0, false⟩,⟨some 6, none, .mv (.con (.val (.bool true))), 0, false⟩])
 .skip))))))
 (.regN [1, 2, 5, 6, 7] [
 ⟨some 24, none, .mv (.tmp 7), 0, false⟩,⟨some 25, none, .bini .add (.tmp 24) (.con (.val (.int .i64 1))), 0, false⟩,⟨some 7, none, .mv (.tmp 25), 0, false⟩])))
def t62L3 : AC := (.seq (.seq (.regN [1, 2, 5, 6] [
 ⟨some 18, none, .mv (.tmp 6), 0, false⟩])
 (.cond (.tmp 18)
 .skip
 (.exit 0)))
 (.block 1
 (.seq (.regN [1, 2, 5] [
 ⟨some 6, none, .mv (.con (.val (.bool false))), 0, false⟩])
 (.seq (.regN [1, 2, 5, 6] [
 ⟨some 7, none, .mv (.con (.val (.int .i64 0))), 0, false⟩])
 (.block 2
 (.loop [1, 2, 5, 6, 7] t62L2))))))
def t62B : AC := (.seq (.regN [0, 1] [
 ⟨some 2, none, .boxR 4 (.tmp 0), 0, false⟩,⟨some 4, none, .mv (.con .e0), 0, false⟩])
 (.seq (.seq (.regN [1, 2] [
 ⟨some 12, none, .ldA (some 2) 4 (.tmp 2), 0, false⟩,⟨some 13, none, .call 10 [(.tmp 12)], 0, false⟩,⟨some 14, none, .bini .neq (.tmp 13) (.con (.val (.int .i64 0))), 0, false⟩])
 (.cond (.tmp 14)
 (.seq (.regN [] [
 ⟨some 4, none, .mv (.con .e0), 0, false⟩])
 .ret)
 .skip))
 (.seq (.regN [1, 2] [
 ⟨some 15, none, .fldA 1 (.tmp 2), 0, false⟩,⟨some 16, none, .ld1 (some 2) (.tmp 15), 0, false⟩,⟨some 17, none, .mks 1 1 [(.val (.bool false))] (.tmp 16), 0, false⟩,⟨some 5, none, .mv (.tmp 17), 0, false⟩])
 (.seq (.seq (.regN [1, 2, 5] [
 ⟨some 6, none, .mv (.con (.val (.bool true))), 0, false⟩])
 (.block 0
 (.loop [1, 2, 5, 6] t62L3)))
 (.seq (.regN [5] [
 ⟨some 79, none, .mv (.tmp 5), 0, false⟩,⟨some 4, none, .mv (.tmp 79), 0, false⟩])
 .ret)))))
def t62 : AFn := ⟨2, t62B,
 [.tmp 4], true⟩
def t40L1 : AC := (.seq (.seq (.regN [1, 3, 4, 5, 6, 7] [
 ⟨some 30, none, .mv (.tmp 7), 0, false⟩,⟨some 31, none, .fldA 1 (.tmp 6), 0, false⟩,⟨some 32, none, .ld1 (some 6) (.tmp 31), 0, false⟩,⟨some 33, none, .len false (.tmp 32), 0, false⟩,⟨some 34, none, .bini .lss (.tmp 30) (.tmp 33), 0, false⟩,⟨some 35, none, .mv (.tmp 34), 0, false⟩,⟨some 36, some (35, true), .mv (.tmp 3), 0, false⟩,⟨some 37, some (35, true), .fldA 0 (.tmp 6), 0, false⟩,⟨some 38, some (35, true), .ld1 (some 6) (.tmp 37), 0, false⟩,⟨some 39, some (35, true), .ixA 1 (.tmp 36) (.tmp 38), 0, false⟩,⟨some 40, some (35, true), .ld1 none (.tmp 39), 0, false⟩,⟨some 41, none, .pick (.tmp 35) (.tmp 40) (.con (.val (.bool false))), 0, false⟩])
 (.cond (.tmp 41)
 .skip
 (.exit 4)))
 (.seq (.block 5
 (.seq (.regD [1, 3, 4, 5, 6, 7] 0 [
 ⟨some 44, none, .fldA 1 (.tmp 6), 0, false⟩,⟨some 45, none, .ld1 (some 6) (.tmp 44), 0, false⟩,⟨some 46, none, .mv (.tmp 7), 0, false⟩,⟨some 47, none, .ixA 1 (.tmp 45) (.tmp 46), 0, false⟩,⟨some 48, none, .ld1 none (.tmp 47), 0, false⟩,⟨some 49, none, .fldA 0 (.tmp 1), 0, false⟩,⟨some 50, none, .ld1 (some 1) (.tmp 49), 0, false⟩,⟨some 51, none, .bini .sub (.tmp 48) (.tmp 50), 0, false⟩,⟨some 8, none, .mv (.tmp 51), 0, false⟩])
 (.seq (.regN [1, 3, 4, 5, 6, 7, 8] [
 ⟨some 52, none, .mv (.tmp 8), 0, false⟩,⟨some 53, none, .bini .geq (.tmp 52) (.con (.val (.int .i64 0))), 0, false⟩,⟨some 54, none, .mv (.tmp 53), 0, false⟩,⟨some 55, some (54, true), .mv (.tmp 3), 0, false⟩,⟨some 56, some (54, true), .mv (.tmp 8), 0, false⟩,⟨some 57, some (54, true), .ixA 1 (.tmp 55) (.tmp 56), 0, false⟩,⟨some 58, some (54, true), .ld1 none (.tmp 57), 0, false⟩,⟨some 59, some (54, true), .not (.tmp 58), 0, false⟩,⟨some 60, none, .pick (.tmp 54) (.tmp 59) (.con (.val (.bool false))), 0, false⟩])
 (.cond (.tmp 60)
 (.regN [1, 3, 5, 6, 7, 8] [
 ⟨some 61, none, .mv (.tmp 3), 0, false⟩,⟨some 62, none, .mv (.tmp 8), 0, false⟩,⟨some 63, none, .ixA 1 (.tmp 61) (.tmp 62), 0, false⟩,⟨none, none, .st none 1 (.tmp 63) (.con (.val (.bool true))), 0, false⟩,⟨some 4, none, .mv (.con (.val (.bool true))), 0, false⟩])
 .skip))))
 (.regN [1, 3, 4, 5, 6, 7] [
 ⟨some 42, none, .mv (.tmp 7), 0, false⟩,⟨some 43, none, .bini .add (.tmp 42) (.con (.val (.int .i64 1))), 0, false⟩,⟨some 7, none, .mv (.tmp 43), 0, false⟩])))
def t40L2 : AC := (.seq (.seq (.regN [1, 3, 4, 5] [
 ⟨some 18, none, .mv (.tmp 5), 0, false⟩,⟨some 19, none, .fldA 3 (.tmp 1), 0, false⟩,⟨some 20, none, .ld1 (some 1) (.tmp 19), 0, false⟩,⟨some 21, none, .len false (.tmp 20), 0, false⟩,⟨some 22, none, .bini .lss (.tmp 18) (.tmp 21), 0, false⟩])
 (.cond (.tmp 22)
 .skip
 (.exit 2)))
 (.seq (.block 3
 (.seq (.regN [1, 3, 4, 5] [
 ⟨some 25, none, .fldA 3 (.tmp 1), 0, false⟩,⟨some 26, none, .ld1 (some 1) (.tmp 25), 0, false⟩,⟨some 27, none, .mv (.tmp 5), 0, false⟩,⟨some 28, none, .ixA 2 (.tmp 26) (.tmp 27), 0, false⟩,⟨some 29, none, .ldA none 2 (.tmp 28), 0, false⟩,⟨some 6, none, .allocR [(.val (.int .i64 0)), .e0], 0, false⟩,⟨none, none, .st (some 6) 2 (.tmp 6) (.tmp 29), 0, false⟩])
 (.seq (.regN [1, 3, 4, 5, 6] [
 ⟨some 7, none, .mv (.con (.val (.int .i64 0))), 0, false⟩])
 (.block 4
 (.loop [1, 3, 4, 5, 6, 7] t40L1)))))
 (.regN [1, 3, 4, 5] [
 ⟨some 23, none, .mv (.tmp 5), 0, false⟩,⟨some 24, none, .bini .add (.tmp 23) (.con (.val (.int .i64 1))), 0, false⟩,⟨some 5, none, .mv (.tmp 24), 0, false⟩])))
def t40L3 : AC := (.seq (.seq (.regN [1, 3, 4] [
 ⟨some 17, none, .mv (.tmp 4), 0, false⟩])
 (.cond (.tmp 17)
 .skip
 (.exit 0)))
 (.block 1
 (.seq (.regN [1, 3] [
 ⟨some 4, none, .mv (.con (.val (.bool false))), 0, false⟩])
 (.seq (.regN [1, 3, 4] [
 ⟨some 5, none, .mv (.con (.val (.int .i64 0))), 0, false⟩])
 (.block 2
 (.loop [1, 3, 4, 5] t40L2))))))
def t40B : AC := (.seq (.regN [0] [
 ⟨some 1, none, .boxR 4 (.tmp 0), 0, false⟩,⟨some 2, none, .mv (.con .e0), 0, false⟩])
 (.seq (.seq (.regN [1] [
 ⟨some 9, none, .ldA (some 1) 4 (.tmp 1), 0, false⟩,⟨some 10, none, .call 10 [(.tmp 9)], 0, false⟩,⟨some 11, none, .bini .neq (.tmp 10) (.con (.val (.int .i64 0))), 0, false⟩])
 (.cond (.tmp 11)
 (.seq (.regN [] [
 ⟨some 2, none, .mv (.con .e0), 0, false⟩])
 .ret)
 .skip))
 (.seq (.regN [1] [
 ⟨some 12, none, .fldA 1 (.tmp 1), 0, false⟩,⟨some 13, none, .ld1 (some 1) (.tmp 12), 0, false⟩,⟨some 14, none, .mks 1 1 [(.val (.bool false))] (.tmp 13), 0, false⟩,⟨some 3, none, .mv (.tmp 14), 0, false⟩])
 (.seq (.regN [1, 3] [
 ⟨some 15, none, .mv (.tmp 3), 0, false⟩,⟨some 16, none, .ixA 1 (.tmp 15) (.con (.val (.int .i64 0))), 0, false⟩,⟨none, none, .st none 1 (.tmp 16) (.con (.val (.bool true))), 0, false⟩])
 (.seq (.seq (.regN [1, 3] [
 ⟨some 4, none, .mv (.con (.val (.bool true))), 0, false⟩])
 (.block 0
 (.loop [1, 3, 4] t40L3)))
 (.seq (.regN [3] [
 ⟨some 64, none, .mv (.tmp 3), 0, false⟩,⟨some 2, none, .mv (.tmp 64), 0, false⟩])
 .ret))))))
def t40 : AFn := ⟨1, t40B,
 [.tmp 2], true⟩
def t21L1 : AC := (.seq (.seq (.regN [1, 4, 5, 6] [
 ⟨some 23, none, .mv (.tmp 6), 0, false⟩,⟨some 24, none, .fldA 1 (.tmp 1), 0, false⟩,⟨some 25, none, .ld1 (some 1) (.tmp 24), 0, false⟩,⟨some 26, none, .bini .lss (.tmp 23) (.tmp 25), 0, false⟩])
 (.cond (.tmp 26)
 .skip
 (.exit 0)))
 (.seq (.block 1
 (.regN [1, 4, 5, 6] [
 ⟨some 29, none, .mv (.tmp 5), 0, false⟩,⟨some 30, none, .mv (.tmp 6), 0, false⟩,⟨some 31, none, .fldA 1 (.tmp 1), 0, false⟩,⟨some 32, none, .ld1 (some 1) (.tmp 31), 0, false⟩,⟨some 33, none, .mks 1 1 [(.val (.bool false))] (.tmp 32), 0, false⟩,⟨some 34, none, .ixA 1 (.tmp 29) (.tmp 30), 0, false⟩,⟨none, none, .st none 1 (.tmp 34) (.tmp 33), 0, false⟩]))
 (.regN [1, 4, 5, 6] [
 ⟨some 27, none, .mv (.tmp 6), 0, false⟩,⟨some 28, none, .bini .add (.tmp 27) (.con (.val (.int .i64 1))), 0, false⟩,⟨some 6, none, .mv (.tmp 28), 0, false⟩])))
def t21L2 : AC := (.seq (.seq (.regD [1, 4, 5, 7, 8, 9] 0 [
 ⟨some 47, none, .mv (.tmp 9), 0, false⟩,⟨some 48, none, .fldA 1 (.tmp 8), 0, false⟩,⟨some 49, none, .ld1 (some 8) (.tmp 48), 0, false⟩,⟨some 50, none, .len false (.tmp 49), 0, false⟩,⟨some 51, none, .bini .lss (.tmp 47) (.tmp 50), 0, false⟩,⟨some 52, none, .mv (.tmp 51), 0, false⟩,⟨some 53, some (52, true), .fldA 1 (.tmp 8), 0, false⟩,⟨some 54, some (52, true), .ld1 (some 8) (.tmp 53), 0, false⟩,⟨some 55, some (52, true), .mv (.tmp 9), 0, false⟩,⟨some 56, some (52, true), .ixA 1 (.tmp 54) (.tmp 55), 0, false⟩,⟨some 57, some (52, true), .ld1 none (.tmp 56), 0, false⟩,⟨some 58, some (52, true), .fldA 0 (.tmp 1), 0, false⟩,⟨some 59, some (52, true), .ld1 (some 1) (.tmp 58), 0, false⟩,⟨some 60, some (52, true), .bini .geq (.tmp 57) (.tmp 59), 0, false⟩,⟨some 61, none, .pick (.tmp 52) (.tmp 60) (.con (.val (.bool false))), 0, false⟩])
 (.cond (.tmp 61)
 .skip
 (.exit 4)))
 (.seq (.block 5
 (.seq (.regD [1, 4, 5, 7, 8, 9] 0 [
 ⟨some 64, none, .fldA 1 (.tmp 8), 0, false⟩,⟨some 65, none, .ld1 (some 8) (.tmp 64), 0, false⟩,⟨some 66, none, .mv (.tmp 9), 0, false⟩,⟨some 67, none, .ixA 1 (.tmp 65) (.tmp 66), 0, false⟩,⟨some 68, none, .ld1 none (.tmp 67), 0, false⟩,⟨some 69, none, .fldA 0 (.tmp 1), 0, false⟩,⟨some 70, none, .ld1 (some 1) (.tmp 69), 0, false⟩,⟨some 71, none, .bini .sub (.tmp 68) (.tmp 70), 0, false⟩,⟨some 10, none, .mv (.tmp 71), 0, false⟩])
 (.seq (.regN [1, 4, 5, 7, 8, 9, 10] [
 ⟨some 72, none, .mv (.tmp 5), 0, false⟩,⟨some 73, none, .fldA 0 (.tmp 8), 0, false⟩,⟨some 74, none, .ld1 (some 8) (.tmp 73), 0, false⟩,⟨some 75, none, .ixA 1 (.tmp 72) (.tmp 74), 0, false⟩,⟨some 76, none, .ld1 none (.tmp 75), 0, false⟩,⟨some 77, none, .mv (.tmp 10), 0, false⟩,⟨some 78, none, .ixA 1 (.tmp 76) (.tmp 77), 0, false⟩,⟨none, none, .st none 1 (.tmp 78) (.con (.val (.bool true))), 0, false⟩])
 (.seq (.regN [1, 4, 5, 7, 8, 9, 10] [
 ⟨some 79, none, .mv (.tmp 4), 0, false⟩,⟨some 80, none, .mv (.tmp 10), 0, false⟩,⟨some 81, none, .ixA 1 (.tmp 79) (.tmp 80), 0, false⟩,⟨some 82, none, .ld1 none (.tmp 81), 0, false⟩,⟨some 83, none, .not (.tmp 82), 0, false⟩])
 (.cond (.tmp 83)
 (.exit 4)
 .skip)))))
 (.regN [1, 4, 5, 7, 8, 9] [
 ⟨some 62, none, .mv (.tmp 9), 0, false⟩,⟨some 63, none, .bini .add (.tmp 62) (.con (.val (.int .i64 1))), 0, false⟩,⟨some 9, none, .mv (.tmp 63), 0, false⟩])))
def t21L3 : AC := (.seq (.seq (.regN [1, 4, 5, 7] [
 ⟨some 35, none, .mv (.tmp 7), 0, false⟩,⟨some 36, none, .fldA 3 (.tmp 1), 0, false⟩,⟨some 37, none, .ld1 (some 1) (.tmp 36), 0, false⟩,⟨some 38, none, .len false (.tmp 37), 0, false⟩,⟨some 39, none, .bini .lss (.tmp 35) (.tmp 38), 0, false⟩])
 (.cond (.tmp 39)
 .skip
 (.exit 2)))
 (.seq (.block 3
 (.seq (.regN [1, 4, 5, 7] [
 ⟨some 42, none, .fldA 3 (.tmp 1), 0, false⟩,⟨some 43, none, .ld1 (some 1) (.tmp 42), 0, false⟩,⟨some 44, none, .mv (.tmp 7), 0, false⟩,⟨some 45, none, .ixA 2 (.tmp 43) (.tmp 44), 0, false⟩,⟨some 46, none, .ldA none 2 (.tmp 45), 0, false⟩,⟨some 8, none, .allocR [(.val (.int .i64 0)), .e0], 0, false⟩,⟨none, none, .st (some 8) 2 (.tmp 8) (.tmp 46), 0, false⟩])
 (.seq (.regN [1, 4, 5, 7, 8] [
 ⟨some 9, none, .mv (.con (.val (.int .i64 0))), 0, false⟩])
 (.block 4
 (.loop [1, 4, 5, 7, 8, 9] t21L2)))))
 (.regN [1, 4, 5, 7] [
 ⟨some 40, none, .mv (.tmp 7), 0, false⟩,⟨some 41, none, .bini .add (.tmp 40) (.con (.val (.int .i64 1))), 0, false⟩,⟨some 7, none, .mv (.tmp 41), 0, false⟩])))
def t21L4 : AC := (.seq (.seq (.regN [1, 5, 11, 12, 13] [
 ⟨some 96, none, .mv (.tmp 13), 0, false⟩,⟨some 97, none, .fldA 1 (.tmp 1), 0, false⟩,⟨some 98, none, .ld1 (some 1) (.tmp 97), 0, false⟩,⟨some 99, none, .bini .lss (.tmp 96) (.tmp 98), 0, false⟩])
 (.cond (.tmp 99)
 .skip
 (.exit 10)))
 (.seq (.block 11
 (.regD [1, 5, 11, 12, 13] 0 [
 ⟨some 102, none, .mv (.tmp 5), 0, false⟩,⟨some 103, none, .mv (.tmp 12), 0, false⟩,⟨some 104, none, .ixA 1 (.tmp 102) (.tmp 103), 0, false⟩,⟨some 105, none, .ld1 none (.tmp 104), 0, false⟩,⟨some 106, none, .mv (.tmp 13), 0, false⟩,⟨some 107, none, .mv (.tmp 5), 0, false⟩,⟨some 108, none, .mv (.tmp 12), 0, false⟩,⟨some 109, none, .ixA 1 (.tmp 107) (.tmp 108), 0, false⟩,⟨some 110, none, .ld1 none (.tmp 109), 0, false⟩,⟨some 111, none, .mv (.tmp 13), 0, false⟩,⟨some 112, none, .ixA 1 (.tmp 110) (.tmp 111), 0, false⟩,⟨some 113, none, .ld1 none (.tmp 112), 0, false⟩,⟨some 114, none, .mv (.tmp 113), 0, false⟩,⟨some 115, some (114, false), .mv (.tmp 5), 0, false⟩,⟨some 116, some (114, false), .mv (.tmp 12), 0, false⟩,⟨some 117, some (114, false), .ixA 1 (.tmp 115) (.tmp 116), 0, false⟩,⟨some 118, some (114, false), .ld1 none (.tmp 117), 0, false⟩,⟨some 119, some (114, false), .mv (.tmp 11), 0, false⟩,⟨some 120, some (114, false), .ixA 1 (.tmp 118) (.tmp 119), 0, false⟩,⟨some 121, some (114, false), .ld1 none (.tmp 120), 0, false⟩,⟨some 122, some (114, false), .mv (.tmp 121), 0, false⟩,⟨some 123, some (122, true), .mv (.tmp 5), 0, false⟩,⟨some 124, some (122, true), .mv (.tmp 11), 0, false⟩,⟨some 125, some (122, true), .ixA 1 (.tmp 123) (.tmp 124), 0, false⟩,⟨some 126, some (122, true), .ld1 none (.tmp 125), 0, false⟩,⟨some 127, some (122, true), .mv (.tmp 13), 0, false⟩,⟨some 128, some (122, true), .ixA 1 (.tmp 126) (.tmp 127), 0, false⟩,⟨some 129, some (122, true), .ld1 none (.tmp 128), 0, false⟩,⟨some 130, some (114, false), .pick (.tmp 122) (.tmp 129) (.con (.val (.bool false))), 0, false⟩,⟨some 131, none, .pick (.tmp 114) (.con (.val (.bool true))) (.tmp 130), 0, false⟩,⟨some 132, none, .ixA 1 (.tmp 105) (.tmp 106), 0, false⟩,⟨none, none, .st none 1 (.tmp 132) (.tmp 131), 0, false⟩]))
 (.regN [1, 5, 11, 12, 13] [
 ⟨some 100, none, .mv (.tmp 13), 0, false⟩,⟨some 101, none, .bini .add (.tmp 100) (.con (.val (.int .i64 1))), 0, false⟩,⟨some 13, none, .mv (.tmp 101), 0, false⟩])))
def t21L5 : AC := (.seq (.seq (.regN [1, 5, 11, 12] [
 ⟨some 90, none, .mv (.tmp 12), 0, false⟩,⟨some 91, none, .fldA 1 (.tmp 1), 0, false⟩,⟨some 92, none, .ld1 (some 1) (.tmp 91), 0, false⟩,⟨some 93, none, .bini .lss (.tmp 90) (.tmp 92), 0, false⟩])
 (.cond (.tmp 93)
 .skip
 (.exit 8)))
 (.seq (.block 9
 (.seq (.regN [1, 5, 11, 12] [
 ⟨some 13, none, .mv (.con (.val (.int .i64 0))), 0, false⟩])
 (.block 10
 (.loop [1, 5, 11, 12, 13] t21L4))))
 (.regN [1, 5, 11, 12] [
 ⟨some 94, none, .mv (.tmp 12), 0, false⟩,⟨some 95, none, .bini .add (.tmp 94) (.con (.val (.int .i64 1))), 0, false⟩,⟨some 12, none, .mv (.tmp 95), 0, false⟩])))
def t21L6 : AC := (.seq (.seq (.regN [1, 5, 11] [
 ⟨some 84, none, .mv (.tmp 11), 0, false⟩,⟨some 85, none, .fldA 1 (.tmp 1), 0, false⟩,⟨some 86, none, .ld1 (some 1) (.tmp 85), 0, false⟩,⟨some 87, none, .bini .lss (.tmp 84) (.tmp 86), 0, false⟩])
 (.cond (.tmp 87)
 .skip
 (.exit 6)))
 (.seq (.block 7
 (.seq (.regN [1, 5, 11] [
 ⟨some 12, none, .mv (.con (.val (.int .i64 0))), 0, false⟩])
 (.block 8
 (.loop [1, 5, 11, 12] t21L5))))
 (.regN [1, 5, 11] [
 ⟨some 88, none, .mv (.tmp 11), 0, false⟩,⟨some 89, none, .bini .add (.tmp 88) (.con (.val (.int .i64 1))), 0, false⟩,⟨some 11, none, .mv (.tmp 89), 0, false⟩])))
def t21L7 : AC := (.seq (.seq (.regN [1, 5, 14] [
 ⟨some 133, none, .mv (.tmp 14), 0, false⟩,⟨some 134, none, .fldA 1 (.tmp 1), 0, false⟩,⟨some 135, none, .ld1 (some 1) (.tmp 134), 0, false⟩,⟨some 136, none, .bini .lss (.tmp 133) (.tmp 135), 0, false⟩])
 (.cond (.tmp 136)
 .skip
 (.exit 12)))
 (.seq (.block 13
 (.seq (.regN [1, 5, 14] [
 ⟨some 139, none, .mv (.tmp 5), 0, false⟩,⟨some 140, none, .mv (.tmp 14), 0, false⟩,⟨some 141, none, .ixA 1 (.tmp 139) (.tmp 140), 0, false⟩,⟨some 142, none, .ld1 none (.tmp 141), 0, false⟩,⟨some 143, none, .mv (.tmp 14), 0, false⟩,⟨some 144, none, .ixA 1 (.tmp 142) (.tmp 143), 0, false⟩,⟨some 145, none, .ld1 none (.tmp 144), 0, false⟩])
 (.cond (.tmp 145)
 (.seq (.regN [14] [
 ⟨some 146, none, .mv (.tmp 14), 0, false⟩,⟨some 2, none, .mv (.tmp 146), 0, false⟩,⟨some 3, none, .mv (.con (.val (.bool true))), 0, false⟩])
 .ret)
 .skip)))
 (.regN [1, 5, 14] [
 ⟨some 137, none, .mv (.tmp 14), 0, false⟩,⟨some 138, none, .bini .add (.tmp 137) (.con (.val (.int .i64 1))), 0, false⟩,⟨some 14, none, .mv (.tmp 138), 0, false⟩])))
def t21B : AC := (.seq (.regN [0] [
 ⟨some 1, none, .boxR 4 (.tmp 0), 0, false⟩,⟨some 2, none, .mv (.con (.val (.int .i64 0))), 0, false⟩,⟨some 3, none, .mv (.con (.val (.bool false))), 0, false⟩])
 (.seq (.seq (.regN [1] [
 ⟨some 15, none, .ldA (some 1) 4 (.tmp 1), 0, false⟩,⟨some 16, none, .call 10 [(.tmp 15)], 0, false⟩,⟨some 17, none, .bini .neq (.tmp 16) (.con (.val (.int .i64 0))), 0, false⟩])
 (.cond (.tmp 17)
 (.seq (.regN [] [
 ⟨some 2, none, .mv (.con (.val (.int .i64 0))), 0, false⟩,⟨some 3, none, .mv (.con (.val (.bool false))), 0, false⟩])
 .ret)
 .skip))
 (.seq (.regN [1] [
 ⟨some 18, none, .ldA (some 1) 4 (.tmp 1), 0, false⟩,⟨some 19, none, .call 41 [(.tmp 18)], 0, false⟩,⟨some 4, none, .mv (.tmp 19), 0, false⟩])
 (.seq (.regN [1, 4] [
 ⟨some 20, none, .fldA 1 (.tmp 1), 0, false⟩,⟨some 21, none, .ld1 (some 1) (.tmp 20), 0, false⟩,⟨some 22, none, .mks 1 24 [.e0] (.tmp 21), 0, false⟩,⟨some 5, none, .mv (.tmp 22), 0, false⟩])
 (.seq (.seq (.regN [1, 4, 5] [
 ⟨some 6, none, .mv (.con (.val (.int .i64 0))), 0, false⟩])
 (.block 0
 (.loop [1, 4, 5, 6] t21L1)))
 (.seq (.seq (.regN [1, 4, 5] [
 ⟨some 7, none, .mv (.con (.val (.int .i64 0))), 0, false⟩])
 (.block 2
 (.loop [1, 4, 5, 7] t21L3)))
 (.seq (.seq (.regN [1, 5] [
 ⟨some 11, none, .mv (.con (.val (.int .i64 0))), 0, false⟩])
 (.block 6
 (.loop [1, 5, 11] t21L6)))
 (.seq (.seq (.regN [1, 5] [
 ⟨some 14, none, .mv (.con (.val (.int .i64 0))), 0, false⟩])
 (.block 12
 (.loop [1, 5, 14] t21L7)))
 (.seq (.regN [] [
 ⟨some 2, none, .mv (.con (.val (.int .i64 0))), 0, false⟩,⟨some 3, none, .mv (.con (.val (.bool false))), 0, false⟩])
 .ret)))))))))
def t21 : AFn := ⟨1, t21B,
 [.tmp 2, .tmp 3], true⟩
def t41B : AC := (.seq (.regN [0] [
 ⟨some 1, none, .boxR 4 (.tmp 0), 0, false⟩,⟨some 2, none, .mv (.con .e0), 0, false⟩])
 (.seq (.regN [1] [
 ⟨some 3, none, .ldA (some 1) 4 (.tmp 1), 0, false⟩,⟨some 4, none, .call 62 [(.tmp 3), (.con (.val (.bool false)))], 0, false⟩,⟨some 2, none, .mv (.tmp 4), 0, false⟩])
 .ret))
def t41 : AFn := ⟨1, t41B,
 [.tmp 2], true⟩
def t22B : AC := (.seq (.regN [0] [
 ⟨some 1, none, .boxR 4 (.tmp 0), 0, false⟩,⟨some 2, none, .allocR [(.val (.int .i64 0)), (.val (.int .i64 0)), (.val (.int .i64 0)), (.val (.string ⟨#[]⟩))], 0, false⟩,⟨some 3, none, .mv (.con (.val (.bool false))), 0, false⟩])
 (.seq (.regN [1, 2] [
 ⟨some 7, none, .ldA (some 1) 4 (.tmp 1), 0, false⟩,⟨some 8, none, .call 13 [(.tmp 7)], 0, false⟩,⟨some 6, none, .mv (.tmp 8), 0, false⟩,⟨some 9, none, .ext (.tmp 6) 0, 0, false⟩,⟨some 10, none, .ext (.tmp 6) 1, 0, false⟩,⟨some 11, none, .ext (.tmp 6) 2, 0, false⟩,⟨some 4, none, .allocR [.e0], 0, false⟩,⟨none, none, .st (some 4) 1 (.tmp 4) (.tmp 9), 0, false⟩,⟨none, none, .st (some 2) 4 (.tmp 2) (.tmp 10), 0, false⟩,⟨some 5, none, .mv (.tmp 11), 0, false⟩])
 (.seq (.regN [2, 5] [
 ⟨some 12, none, .ldA (some 2) 4 (.tmp 2), 0, false⟩,⟨some 13, none, .mv (.tmp 5), 0, false⟩,⟨some 14, none, .bini .eql (.tmp 13) (.con (.val (.int .i64 0))), 0, false⟩,⟨none, none, .st (some 2) 4 (.tmp 2) (.tmp 12), 0, false⟩,⟨some 3, none, .mv (.tmp 14), 0, false⟩])
 .ret)))
def t22 : AFn := ⟨1, t22B,
 [.cell 2 4 true, .tmp 3], true⟩
def t74L1 : AC := (.seq (.seq (.regN [0, 1, 4] [
 ⟨some 7, none, .mv (.tmp 0), 0, false⟩,⟨some 8, none, .len false (.tmp 7), 0, false⟩,⟨some 9, none, .bini .gtr (.tmp 8) (.con (.val (.int .i64 0))), 0, false⟩,⟨some 10, none, .mv (.tmp 9), 0, false⟩,⟨some 11, some (10, true), .mv (.tmp 1), 0, false⟩,⟨some 12, some (10, true), .len false (.tmp 11), 0, false⟩,⟨some 13, some (10, true), .bini .gtr (.tmp 12) (.con (.val (.int .i64 0))), 0, false⟩,⟨some 14, none, .pick (.tmp 10) (.tmp 13) (.con (.val (.bool false))), 0, false⟩])
 (.cond (.tmp 14)
 .skip
 (.exit 0)))
 (.block 1
 (.seq (.regD [0, 1, 4] 0 [
 ⟨some 15, none, .mv (.tmp 0), 0, false⟩,⟨some 16, none, .ixA 1 (.tmp 15) (.con (.val (.int .i64 0))), 0, false⟩,⟨some 17, none, .ld1 none (.tmp 16), 0, false⟩,⟨some 18, none, .mv (.tmp 1), 0, false⟩,⟨some 19, none, .ixA 1 (.tmp 18) (.con (.val (.int .i64 0))), 0, false⟩,⟨some 20, none, .ld1 none (.tmp 19), 0, false⟩,⟨some 21, none, .call 84 [(.tmp 17), (.tmp 20)], 0, true⟩,⟨some 6, none, .mv (.tmp 21), 0, false⟩])
 (.block 2
 (.seq (.regN [0, 1, 4, 6] [
 ⟨some 25, none, .mv (.tmp 6), 0, false⟩,⟨some 26, none, .bini .eql (.tmp 25) (.con (.val (.int .i64 0))), 0, false⟩,⟨some 24, none, .mv (.tmp 26), 0, false⟩])
 (.cond (.tmp 24)
 (.seq (.regN [0] [
 ⟨some 27, none, .mv (.tmp 0), 0, false⟩,⟨some 28, none, .ixA 1 (.tmp 27) (.con (.val (.int .i64 0))), 0, false⟩,⟨some 29, none, .ld1 none (.tmp 28), 0, false⟩,⟨some 4, none, .mv (.tmp 29), 0, false⟩,⟨some 5, none, .mv (.con (.val (.bool true))), 0, false⟩])
 .ret)
 (.seq (.regN [0, 1, 4, 6] [
 ⟨some 31, none, .mv (.tmp 6), 0, false⟩,⟨some 32, none, .bini .lss (.tmp 31) (.con (.val (.int .i64 0))), 0, false⟩,⟨some 30, none, .mv (.tmp 32), 0, false⟩])
 (.cond (.tmp 30)
 (.regN [0, 1, 4] [
 ⟨some 33, none, .mv (.tmp 0), 0, false⟩,⟨some 34, none, .slC 1 (.tmp 33) (some (.con (.val (.int .i64 1)))) none, 0, false⟩,⟨some 0, none, .mv (.tmp 34), 0, false⟩])
 (.regN [0, 1, 4] [
 ⟨some 22, none, .mv (.tmp 1), 0, false⟩,⟨some 23, none, .slC 1 (.tmp 22) (some (.con (.val (.int .i64 1)))) none, 0, false⟩,⟨some 1, none, .mv (.tmp 23), 0, false⟩])))))))))
def t74B : AC := (.seq (.regN [0, 1] [
 ⟨some 4, none, .mv (.con (.val (.string ⟨#[]⟩))), 0, false⟩,⟨some 5, none, .mv (.con (.val (.bool false))), 0, false⟩])
 (.seq (.block 0
 (.loop [0, 1, 4] t74L1))
 (.seq (.regN [4] [
 ⟨some 35, none, .mv (.tmp 4), 0, false⟩,⟨some 4, none, .mv (.tmp 35), 0, false⟩,⟨some 5, none, .mv (.con (.val (.bool false))), 0, false⟩])
 .ret)))
def t74 : AFn := ⟨2, t74B,
 [.tmp 4, .tmp 5], true⟩
def t84B : AC := (.seq (.regN [0, 1] [
 ⟨some 4, none, .mv (.con (.val (.int .i64 0))), 0, false⟩])
 (.seq (.regN [0, 1] [
 ⟨some 7, none, .mv (.tmp 0), 0, false⟩,⟨some 8, none, .call 92 [(.tmp 7)], 0, false⟩,⟨some 5, none, .mv (.tmp 8), 0, false⟩])
 (.seq (.regN [0, 1, 5] [
 ⟨some 9, none, .mv (.tmp 1), 0, false⟩,⟨some 10, none, .call 92 [(.tmp 9)], 0, false⟩,⟨some 6, none, .mv (.tmp 10), 0, false⟩])
 (.seq (.seq (.regN [0, 1, 5, 6] [
 ⟨some 11, none, .mv (.tmp 5), 0, false⟩])
 (.cond (.tmp 11)
 (.seq (.seq (.regN [6] [
 ⟨some 12, none, .mv (.tmp 6), 0, false⟩])
 (.cond (.tmp 12)
 (.seq (.regN [] [
 ⟨some 4, none, .mv (.con (.val (.int .i64 0))), 0, false⟩])
 .ret)
 .skip))
 (.seq (.regN [] [
 ⟨some 4, none, .mv (.con (.val (.int .i64 (-1)))), 0, false⟩])
 .ret))
 .skip))
 (.seq (.seq (.regN [0, 1, 6] [
 ⟨some 13, none, .mv (.tmp 6), 0, false⟩])
 (.cond (.tmp 13)
 (.seq (.regN [] [
 ⟨some 4, none, .mv (.con (.val (.int .i64 1))), 0, false⟩])
 .ret)
 .skip))
 (.seq (.seq (.regN [0, 1] [
 ⟨some 14, none, .mv (.tmp 0), 0, false⟩,⟨some 15, none, .mv (.tmp 1), 0, false⟩,⟨some 16, none, .bins .lss (.tmp 14) (.tmp 15), 0, false⟩])
 (.cond (.tmp 16)
 (.seq (.regN [] [
 ⟨some 4, none, .mv (.con (.val (.int .i64 (-1)))), 0, false⟩])
 .ret)
 .skip))
 (.seq (.seq (.regN [0, 1] [
 ⟨some 17, none, .mv (.tmp 0), 0, false⟩,⟨some 18, none, .mv (.tmp 1), 0, false⟩,⟨some 19, none, .bins .gtr (.tmp 17) (.tmp 18), 0, false⟩])
 (.cond (.tmp 19)
 (.seq (.regN [] [
 ⟨some 4, none, .mv (.con (.val (.int .i64 1))), 0, false⟩])
 .ret)
 .skip))
 (.seq (.regN [] [
 ⟨some 4, none, .mv (.con (.val (.int .i64 0))), 0, false⟩])
 .ret))))))))
def t84 : AFn := ⟨2, t84B,
 [.tmp 4], true⟩
def t92B : AC := (.seq (.regN [0] [
 ⟨some 2, none, .mv (.con (.val (.bool false))), 0, false⟩])
 (.seq (.regN [0] [
 ⟨some 3, none, .mv (.tmp 0), 0, false⟩,⟨some 4, none, .mv (.tmp 0), 0, false⟩,⟨some 5, none, .bins .neq (.tmp 3) (.tmp 4), 0, false⟩,⟨some 2, none, .mv (.tmp 5), 0, false⟩])
 .ret))
def t92 : AFn := ⟨1, t92B,
 [.tmp 2], true⟩
end Go.Proofs.Ytgbpioccaenjaaa
